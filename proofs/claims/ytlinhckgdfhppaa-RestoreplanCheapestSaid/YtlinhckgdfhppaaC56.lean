import Derived.Test.YtlinhckgdfhppaaC55
set_option linter.unusedSimpArgs false
set_option linter.unusedVariables false
namespace Go.Proofs.Ytlinhckgdfhppaa
open Go Go.RowKit Go.Proofs.YtlinhckgdfhppaaK

/-! The law RestoreplanCheapest. -/
/-- The error that the law wants behind the first k costs. -/
def wantTo (g : Goal) (list : List Hold) (costs : List Int) (k : Nat) : Int := if costs.length ≠ list.length ∨ (costs.take k).any badC = true then 1 else possOf g list
theorem wantTo_succ {g : Goal} {list : List Hold} {costs : List Int} {k : Nat} (hk : k < costs.length) : wantTo g list costs (k + 1) = if badC (ig costs k) = true then 1 else wantTo g list costs k := by
  unfold wantTo
  rw [List.take_succ_eq_append_getElem hk, ← ig_eq _ _ hk, List.any_append]
  by_cases h1 : costs.length = list.length
  · by_cases h2 : (costs.take k).any badC = true
    · simp [h2]
    · by_cases h3 : badC (ig costs k) = true
      · simp [h3]
      · simp [h1, h2, h3]
  · simp [h1]
theorem wantTo_all {g : Goal} {list : List Hold} {costs : List Int} : wantTo g list costs costs.length = cheapE g list costs := by
  unfold wantTo cheapE
  rw [List.take_length]
  by_cases h : okCosts list costs
  · rw [if_pos h, if_neg]
    obtain ⟨h1, h2⟩ := okCosts_iff.1 h
    rintro (h3 | h3)
    · exact h3 h1
    · obtain ⟨x, hx, hb⟩ := List.any_eq_true.1 h3
      rw [h2 x hx] at hb
      cases hb
  · rw [if_neg h, if_pos]
    refine Decidable.byContradiction fun hc => h (okCosts_iff.2 ⟨Decidable.byContradiction fun h1 => hc (.inl h1), fun x hx => ?_⟩)
    cases hb : badC x with
    | false => rfl
    | true => exact absurd (.inr (List.any_eq_true.2 ⟨x, hx, hb⟩)) hc
theorem wantTo_zero {g : Goal} {list : List Hold} {costs : List Int} : wantTo g list costs 0 = if costs.length = list.length then possOf g list else 1 := by
  unfold wantTo
  by_cases h1 : costs.length = list.length <;> simp [h1]
section
variable (g : Goal) (A1 : Option Addr) (c1 : Nat) (A2 : Option Addr) (c2 : Nat) (A3 : Option Addr) (c3 : Nat) (A4 : Option Addr) (c4 : Nat) (list : List Hold) (A5 : Option Addr) (nc c5 : Nat) (costs : List Int) (w : World)
set_option maxRecDepth 100000 in
set_option maxHeartbeats 4000000 in
theorem law5 (hg : GoalIn w (fun k => k < w.heap.size) g A1 c1 A2 c2 A3 c3) (hl : Row kHold w (fun k => k < w.heap.size) A4 list.length list) (hc : Row (Kn.int .i64) w (fun k => k < w.heap.size) A5 nc costs) :
    Calls Try.prog 5 #[.agg (goalCells g A1 c1 A2 c2 A3 c3), .slice A4 list.length c4, .slice A5 nc c5] w fun e w' => e = .returned (.bool true) ∧ Below w.heap.size w w' := by
  have LC := As.mk (lawCtx g A1 c1 A2 c2 A3 c3 A4 c4 list w hg hl)
  have HC := As.mk hc
  obtain ⟨W0, hW0⟩ : ∃ W0 : World, W0 = w.alloc (.cells (goalCells g A1 c1 A2 c2 A3 c3) 26) := ⟨_, rfl⟩
  rw [← hW0] at LC
  have HW0 := As.mk hW0
  have r0 : Below W0.heap.size W0 W0 := Below.refl _ _
  obtain ⟨a0, a1, a2, a3, a4, al⟩ := LC.o.box W0 r0
  have hncm := hc.2.1
  have hncl := hc.1
  have FEW := As.mk LC.o.few
  clear hg hl hc hW0
  by_cases hf : Few g list
  · rw [decide_eq_true hf] at FEW
    by_cases h20 : 20 < nc
    · have d1 : decide ((20 : Int) < (nc : Int)) = true := decide_eq_true (by omega)
      go_enter Try.func5, Try.ntmps5
      go_upto_region 1 with (fail)
      rw [← HW0.o]
      go_wp2_with (first
        | (go_at_call 10; refine (FEW.o _ r0).mono ?_; rintro e w1 ⟨rfl, h1, h01⟩)
        | (go_at_call 11; refine (LC.o.awk _ h1).mono ?_; rintro e w2 ⟨rfl, h2, _⟩))
      go_ret
      exact ⟨rfl, LC.o.up _ h2⟩
    · have d1 : decide ((20 : Int) < (nc : Int)) = false := decide_eq_false (by omega)
      have hln : list.length ≤ 13 := by have := hf.2.2.2.2; omega
      have GOF := As.mk (LC.o.gof hf)
      have HOF := As.mk (LC.o.hof hf)
      have CHE : As (∀ W : World, Below W0.heap.size W0 W → Calls Try.prog 22 #[.agg (goalCells g A1 c1 A2 c2 A3 c3), .slice A4 list.length c4, .slice A5 nc c5] W fun e w' => ∃ A c, e = .returned (.tuple #[.slice A (cheapP g list costs).1.length c, .int .i64 (cheapP g list costs).2, .int .i64 (cheapE g list costs)]) ∧
        Row (Kn.int .i64) w' (fun k => k < w'.heap.size) A (cheapP g list costs).1.length (cheapP g list costs).1 ∧ Below W0.heap.size W0 w' ∧ Below W.heap.size W w') := ⟨fun W hW => (cheapest_any g A1 c1 A2 c2 A3 c3 A4 c4 list A5 nc c5 costs W (LC.o.gg W hW) (LC.o.ll W hW) (row_up HC.o (LC.o.up W hW))).mono fun e w' ⟨A, c, he, hr, hb⟩ => ⟨A, c, he, hr, bthen hW hb (Nat.le_refl _), hb⟩⟩
      have REF : As (cheapE g list costs = 0 → ∀ (W : World) (B : Option Addr) (d : Nat) (B4 : Option Addr) (d4 : Nat), Below W0.heap.size W0 W → GoalIn W (fun k => k < W.heap.size) g B d A2 c2 A3 c3 → Row kHold W (fun k => k < W.heap.size) B4 list.length list → Calls Try.prog 23 #[.agg (goalCells g B d A2 c2 A3 c3), .slice B4 list.length d4, .slice A5 nc c5] W fun e w' => ∃ A c, e = .returned (.slice A (cheapP g list costs).1.length c) ∧ Row (Kn.int .i64) w' (fun _ => True) A (cheapP g list costs).1.length (cheapP g list costs).1 ∧ Below W0.heap.size W0 w' ∧ Below W.heap.size W w') := ⟨fun h0 W B d B4 d4 hW h1 h2 => by
        obtain ⟨hp, hok⟩ := cheapE_zero h0
        have hv := (possOf_zero hp).1
        have hcq := cheap_eq hp hok
        refine (refCheapest_any g B d A2 c2 A3 c3 B4 list.length d4 list A5 nc c5 costs W h1 h2 (row_up HC.o (LC.o.up W hW)) hv.modest (by rw [← hncl]; exact hok.1) hv.ok.hnl hok.2).mono ?_
        rintro e w' ⟨B', n', c', rfl, hr, _, hb⟩
        rw [hcq]
        have := hr.1
        subst this
        exact ⟨B', c', rfl, hr.mono fun _ _ => trivial, bthen hW hb (Nat.le_refl _), hb⟩⟩
      have COS : As (cheapE g list costs = 0 → ∀ (W : World) (B : Option Addr) (d : Nat) (B4 : Option Addr) (d4 : Nat), Below W0.heap.size W0 W → Row kHold W (fun k => k < W.heap.size) B4 list.length list → Row (Kn.int .i64) W (fun _ => True) B (cheapP g list costs).1.length (cheapP g list costs).1 → Calls Try.prog 24 #[.slice B4 list.length d4, .slice B (cheapP g list costs).1.length d, .slice A5 nc c5] W fun e w' => e = .returned (.int .i64 (cheapP g list costs).2) ∧ W = w') := ⟨fun h0 W B d B4 d4 hW h1 h2 => by
        obtain ⟨hp, hok⟩ := cheapE_zero h0
        have hv := (possOf_zero hp).1
        have hcq := cheap_eq hp hok
        have := cost_any B4 list.length d4 list B (cheapP g list costs).1.length d (cheapP g list costs).1 A5 nc c5 costs (fun _ => True) W (h1.mono fun _ _ => trivial) h2 ((row_up HC.o (LC.o.up W hW)).mono fun _ _ => trivial) (by rw [← hncl]; exact hok.1) hv.ok.hnl hok.2
        rw [show cost list (cheapP g list costs).1 costs = (cheapP g list costs).2 by rw [hcq]] at this
        exact this⟩
      have HNO : As (cheapE g list costs ≠ 0 → cheapP g list costs = ([], 0)) := ⟨fun h => if_neg h⟩
      have INT : As (∀ (W : World) (A B : Option Addr) (n c c' : Nat) (xs : List Int), Row (Kn.int .i64) W (fun _ => True) A n xs → Row (Kn.int .i64) W (fun _ => True) B n xs → Calls Try.prog 18 #[.slice A n c, .slice B n c'] W fun e w' => e = .returned (.bool true) ∧ Below W.heap.size W w') := ⟨fun W A B n c c' xs h1 h2 => by
        have := ints_any A B n c n c' _ xs xs W h1 h2
        rwa [decide_eq_true rfl] at this⟩
      have HWA : As (wantTo g list costs nc = cheapE g list costs) := ⟨by rw [← hncl]; exact wantTo_all⟩
      have HWS : As (∀ k, k < nc → wantTo g list costs (k + 1) = if badC (ig costs k) = true then 1 else wantTo g list costs k) := ⟨fun k hk => wantTo_succ (by rw [hncl]; exact hk)⟩
      have HWZ : As (wantTo g list costs 0 = if nc = list.length then possOf g list else 1) := ⟨by rw [wantTo_zero, hncl]⟩
      clear hf hncl
      have key : ∀ b : Bool, ((nc : Int) != (list.length : Int)) = b → As (wantTo g list costs 0 = if b = true then 1 else possOf g list) := fun b hb => ⟨by
        rw [HWZ.o]
        by_cases e : nc = list.length
        · have : b = false := by rw [← hb, e]; simp
          rw [this, if_pos e]; rfl
        · have : b = true := by rw [← hb]; simp; omega
          rw [this, if_neg e]; rfl⟩
      obtain ⟨b, hb⟩ : ∃ b : Bool, ((nc : Int) != (list.length : Int)) = b := ⟨_, rfl⟩
      have HI := key b hb
      clear key HWZ
      generalize hce : cheapE g list costs = ce at *
      generalize cheapP g list costs = res at *
      obtain ⟨ra, rs⟩ := res
      simp only at CHE REF COS HNO
      clear hce
      cases b
      all_goals
        go_enter Try.func5, Try.ntmps5
        go_upto_region 1 with (fail)
        rw [← HW0.o]
        go_upto_region 5 with (first
          | (go_at_call 10; refine (FEW.o _ r0).mono ?_; rintro e w1 ⟨rfl, h1, h01⟩; obtain ⟨a0, a1, a2, a3, a4, al⟩ := LC.o.box w1 h1)
          | (go_at_call 22; refine (CHE.o _ h1).mono ?_; rintro e w2 ⟨Af, cf, rfl, hrf, h2, h12⟩; obtain ⟨a0, a1, a2, a3, a4, al⟩ := LC.o.box w2 h2)
          | (go_at_call 14; refine (GOF.o _ h2).mono ?_; rintro e w4 ⟨Bg, dg, rfl, hg4, h4, h24⟩)
          | (go_at_call 15; refine (HOF.o _ h4).mono ?_; rintro e w5 ⟨Bh, dh, rfl, hdh, hl5, h5, h45⟩))
        have RC := As.mk (refCtx g A2 c2 A3 c3 list hg4 h45 hl5 hdh)
        obtain ⟨W6, hW6⟩ : ∃ W6 : World, W6 = w5.alloc (.cells (goalCells g Bg dg A2 c2 A3 c3) 38) := ⟨_, rfl⟩
        rw [← hW6] at RC
        rw [← hW6]
        have h56 : Below w5.heap.size w5 W6 := by rw [hW6]; exact (Below.refl _ _).alloc (Nat.le_refl _) _
        have h6 := bthen h5 h56 (Nat.le_refl _)
        have HRF6 := As.mk (((hrf.below h24).below h45).below h56)
        obtain ⟨b0, b1, b2, b3, b4⟩ := RC.o.box W6 (Below.refl _ _)
        have r6 : Below W6.heap.size W6 W6 := Below.refl _ _
        have H6 := As.mk h6
        have SU6 := As.mk (RC.o.suf W6 r6)
        clear hW6 hg4 hl5 hdh hrf a0 a1 a2 a3 a4 al CHE GOF HOF FEW h56 h45 h24 h12 h01 h6
        go_wp2_with (go_at_call 16; refine SU6.o.mono ?_; rintro e w7 ⟨rfl, h7, _⟩; obtain ⟨b0, b1, b2, b3, b4⟩ := RC.o.box w7 h7)
        have H7 := As.mk h7
        have H07 : As (Below W0.heap.size W0 w7) := ⟨bthen H6.o h7 (Nat.le_refl _)⟩
        have HRF7 := As.mk (HRF6.o.below h7)
        have HC7 := As.mk (row_up HC.o (LC.o.up w7 H07.o))
        clear h7 h5 h4 h2 h1 SU6 HRF6
        go_loop [12, 13] (fun v i' => ∃ k : Nat, k ≤ nc ∧ i' = .int .i64 k ∧ v = .int .i64 (wantTo g list costs k)) (fun _ i' => nc - (intOf i').toNat)
        case atStart => exact ⟨0, Nat.zero_le _, rfl, by rw [HI.o]; rfl⟩
        case round =>
          obtain ⟨k, hk, rfl, rfl⟩ := hrel
          by_cases hlt : k < nc
          · obtain ⟨ad, e1, _, _, q0⟩ := HC7.o.int_at k hlt
            subst e1
            have HS := As.mk (HWS.o k hlt)
            have hk1 : (k : Int) < (nc : Int) := by omega
            have HBC : As (badC (ig costs k) = (decide (ig costs k < 0) || decide (1099511627776 < ig costs k))) := ⟨rfl⟩
            generalize ig costs k = y at *
            generalize wantTo g list costs k = v0 at *
            by_cases y1 : y < 0
            · have d2 : decide (y < 0) = true := decide_eq_true y1
              have HS2 : As (wantTo g list costs (k + 1) = 1) := ⟨by rw [HS.o, HBC.o, d2]; rfl⟩
              go_wp2
              go_round
              case rel => exact ⟨k + 1, by omega, by go_num, by rw [HS2.o]⟩
              case measure => simp [intOf]; omega
            · have d2 : decide (y < 0) = false := decide_eq_false y1
              by_cases y2 : 1099511627776 < y
              · have d3 : decide (1099511627776 < y) = true := decide_eq_true y2
                have HS2 : As (wantTo g list costs (k + 1) = 1) := ⟨by rw [HS.o, HBC.o, d2, d3]; rfl⟩
                go_wp2
                go_round
                case rel => exact ⟨k + 1, by omega, by go_num, by rw [HS2.o]⟩
                case measure => simp [intOf]; omega
              · have d3 : decide (1099511627776 < y) = false := decide_eq_false y2
                have HS2 : As (wantTo g list costs (k + 1) = v0) := ⟨by rw [HS.o, HBC.o, d2, d3]; rfl⟩
                go_wp2
                go_round
                case rel => exact ⟨k + 1, by omega, by go_num, by rw [HS2.o]⟩
                case measure => simp [intOf]; omega
          · have e : k = nc := by omega
            subst e
            rw [HWA.o]
            by_cases hz : ce = 0
            · have COS7 := As.mk (COS.o hz)
              have REF7 := As.mk (REF.o hz w7 Bg dg Bh dh H07.o (RC.o.gg w7 H7.o) (RC.o.ll w7 H7.o))
              subst hz
              clear COS REF
              go_upto_region 16 with (go_at_call 23; refine REF7.o.mono ?_; rintro e w8 ⟨Aw, cw, rfl, hrw, h8, h78⟩)
              have HRF8 := As.mk (HRF7.o.below h78)
              have HRW := As.mk hrw
              have AW8 := As.mk (LC.o.awk w8 h8)
              have HL8 := As.mk fun W hW => row_up (RC.o.ll w8 (bthen H7.o h78 (Nat.le_refl _))) (W := W) hW
              have dz : (rs == rs) = true := beq_self_eq_true _
              go_wp2_with (first
                | (go_at_call 11; refine AW8.o.mono ?_; rintro e w9 ⟨rfl, h9, h89⟩)
                | (go_at_call 18; refine (INT.o w9 Af Aw ra.length cf cw ra ((HRF8.o.below h89).mono fun _ _ => trivial) (HRW.o.below h89)).mono ?_; rintro e w10 ⟨rfl, h10⟩; have h910 := bthen h9 h10 (Nat.le_refl _); have h810 := bthen h89 h10 (Nat.le_refl _))
                | (go_at_call 24; refine (COS7.o w10 Aw cw Bh dh h910 (HL8.o w10 h810) (HRW.o.below h810)).mono ?_; rintro e w11 ⟨rfl, rfl⟩))
              go_ret
              exact ⟨rfl, LC.o.up _ h910⟩
            · have hno := HNO.o hz
              injection hno with hn1 hn2
              subst hn1 hn2
              have d5 : (ce == 0) = false := by simp [hz]
              have d6 : (ce != 0) = true := by simp [hz]
              have d7 : (ce == ce) = true := beq_self_eq_true _
              have AW7 := As.mk (LC.o.awk w7 H07.o)
              go_wp2_with (go_at_call 11; refine AW7.o.mono ?_; rintro e w9 ⟨rfl, h9, h89⟩)
              go_ret
              exact ⟨rfl, LC.o.up _ h9⟩
  · rw [decide_eq_false hf] at FEW
    clear hf
    go_enter Try.func5, Try.ntmps5
    go_upto_region 1 with (fail)
    rw [← HW0.o]
    go_wp2_with (first
      | (go_at_call 10; refine (FEW.o _ r0).mono ?_; rintro e w1 ⟨rfl, h1, h01⟩)
      | (go_at_call 11; refine (LC.o.awk _ h1).mono ?_; rintro e w2 ⟨rfl, h2, _⟩))
    go_ret
    exact ⟨rfl, LC.o.up _ h2⟩
end
end Go.Proofs.Ytlinhckgdfhppaa
