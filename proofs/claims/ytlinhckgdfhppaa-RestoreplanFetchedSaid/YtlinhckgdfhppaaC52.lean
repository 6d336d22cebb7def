import Derived.Test.YtlinhckgdfhppaaM10
import Derived.Test.YtlinhckgdfhppaaC48
set_option linter.unusedSimpArgs false
set_option linter.unusedVariables false
namespace Go.Proofs.Ytlinhckgdfhppaa
open Go Go.RowKit Go.Proofs.YtlinhckgdfhppaaK

/-! The law RestoreplanFetches. -/
theorem eq_fetch (d : Nat) (w : World) (x0 y0 : Int) (x1 y1 : ByteArray) (x2 y2 : Int) :
    (Op.equalIn (d + 3) 54 (.agg #[.int .i64 x0, .string x1, .int .i64 x2]) (.agg #[.int .i64 y0, .string y1, .int .i64 y2])).run Try.prog w = .ok (x0 == y0 && (x1.toList == y1.toList && (x2 == y2))) w := by
  refine eqA_of Try.underlying54 (by kernel_rfl) ?_
  refine eqf_cons (by rfl) (by first | (go_simp; done) | (go_simp; rfl)) (by first | (go_simp; done) | (go_simp; rfl)) (by go_simp) ?_
  exact eqf_last (by rfl) (by first | (go_simp; done) | (go_simp; rfl)) (by first | (go_simp; done) | (go_simp; rfl)) (eq_piece d w x1 y1 x2 y2)
attribute [local go_sem high] eq_fetch
def fg (xs : List Fetch) (k : Nat) : Fetch := xs.getD k (0, ByteArray.empty, 0)
theorem rowFetch {w : World} {ok : Nat → Prop} {A : Option Addr} {n : Nat} {xs : List Fetch} (h : Row kFetch w ok A n xs) (k : Nat) (hk : k < n) :
    ∃ ad, A = some ad ∧ ok ad.block ∧ ad.block < w.heap.size ∧ w.cell? (ad.add (k * 3)) = some (.int .i64 (fg xs k).1) ∧ w.cell? ⟨(ad.add (k * 3)).block, (ad.add (k * 3)).off + 1, none⟩ = some (.string (fg xs k).2.1) ∧
      w.cell? ⟨(ad.add (k * 3)).block, (ad.add (k * 3)).off + 2, none⟩ = some (.int .i64 (fg xs k).2.2) := by
  obtain ⟨ad, cs, e, ho, hlt, hK, hc⟩ := h.at_ (0, ByteArray.empty, 0) k hk
  obtain ⟨_, _, rfl, rfl, _, _, rfl, rfl, rfl⟩ := hK
  exact ⟨ad, e, ho, hlt, hc 0 _ rfl, by rw [field_addr _ _ _ (by omega)]; exact hc 1 _ rfl, by rw [field_addr _ _ _ (by omega)]; exact hc 2 _ rfl⟩
section
variable (g : Goal) (A1 : Option Addr) (c1 : Nat) (A2 : Option Addr) (c2 : Nat) (A3 : Option Addr) (c3 : Nat) (A4 : Option Addr) (c4 : Nat) (list : List Hold) (A5 : Option Addr) (nd c5 : Nat) (devs : List Int) (w : World)
set_option maxRecDepth 100000 in
set_option maxHeartbeats 2000000 in
theorem law4 (hg : GoalIn w (fun k => k < w.heap.size) g A1 c1 A2 c2 A3 c3) (hl : Row kHold w (fun k => k < w.heap.size) A4 list.length list) (hd : Row (Kn.int .i64) w (fun k => k < w.heap.size) A5 nd devs) (hc5 : nd ≤ c5) :
    Calls Try.prog 4 #[.agg (goalCells g A1 c1 A2 c2 A3 c3), .slice A4 list.length c4, .slice A5 nd c5] w fun e w' => e = .returned (.bool true) ∧ Below w.heap.size w w' := by
  have LC := As.mk (lawCtx g A1 c1 A2 c2 A3 c3 A4 c4 list w hg hl)
  have HD := As.mk hd
  obtain ⟨W0, hW0⟩ : ∃ W0 : World, W0 = w.alloc (.cells (goalCells g A1 c1 A2 c2 A3 c3) 26) := ⟨_, rfl⟩
  rw [← hW0] at LC
  have HW0 := As.mk hW0
  have r0 : Below W0.heap.size W0 W0 := Below.refl _ _
  obtain ⟨a0, a1, a2, a3, a4, al⟩ := LC.o.box W0 r0
  have hndm := hd.2.1
  have FEW := As.mk LC.o.few
  have hv := Classical.em (Valid g list)
  clear hg hl hd hW0
  by_cases hf : Few g list
  · rw [decide_eq_true hf] at FEW
    by_cases h20 : 20 < nd
    · have d1 : decide ((20 : Int) < (nd : Int)) = true := decide_eq_true (by omega)
      clear hv
      go_enter Try.func4, Try.ntmps4
      go_upto_region 1 with (fail)
      rw [← HW0.o]
      go_wp2_with (first
        | (go_at_call 10; refine (FEW.o _ r0).mono ?_; rintro e w1 ⟨rfl, h1, h01⟩)
        | (go_at_call 11; refine (LC.o.awk _ h1).mono ?_; rintro e w2 ⟨rfl, h2, _⟩))
      go_ret
      exact ⟨rfl, LC.o.up _ h2⟩
    · have d1 : decide ((20 : Int) < (nd : Int)) = false := decide_eq_false (by omega)
      have hpl : ∀ h ∈ list, h.pieces.length ≤ 1000 := fun h hh => by have := (hf.1 h hh).1; omega
      have hgp : g.pieces.length ≤ 1000 := by have := hf.2.2.1; omega
      have GOF := As.mk (LC.o.gof hf)
      have HOF := As.mk (LC.o.hof hf)
      have FET : As (∀ W : World, Below W0.heap.size W0 W → Calls Try.prog 19 #[.agg (goalCells g A1 c1 A2 c2 A3 c3), .slice A4 list.length c4, .slice A5 nd c5] W fun e w' => ∃ A c, e = .returned (.tuple #[.slice A (fetchesP g list devs).length c, .int .i64 (checkOf g list)]) ∧ Row kFetch w' (fun _ => True) A (fetchesP g list devs).length (fetchesP g list devs) ∧ Below W0.heap.size W0 w' ∧ Below W.heap.size W w') := ⟨fun W hW =>
        (fetches_any g A1 c1 A2 c2 A3 c3 A4 c4 list A5 nd c5 devs W (LC.o.gg W hW) (LC.o.ll W hW) (row_up HD.o (LC.o.up W hW)) (by omega) hpl).mono fun e w' ⟨A, c, he, _, hr, hb⟩ => ⟨A, c, he, hr.mono fun _ _ => trivial, bthen hW hb (Nat.le_refl _), hb⟩⟩
      have REF : As (Valid g list → ∀ (W : World) (B : Option Addr) (d : Nat) (B4 : Option Addr) (d4 : Nat), Below W0.heap.size W0 W → GoalIn W (fun k => k < W.heap.size) g B d A2 c2 A3 c3 → Row kHold W (fun k => k < W.heap.size) B4 list.length list → Calls Try.prog 21 #[.agg (goalCells g B d A2 c2 A3 c3), .slice B4 list.length d4, .slice A5 nd c5] W fun e w' => ∃ A c, e = .returned (.slice A (fetchesP g list devs).length c) ∧ Row kFetch w' (fun _ => True) A (fetchesP g list devs).length (fetchesP g list devs) ∧ Below W0.heap.size W0 w' ∧ Below W.heap.size W w') := ⟨fun hv W B d B4 d4 hW h1 h2 =>
        (refFetches_any g B d A2 c2 A3 c3 B4 d4 list A5 nd c5 devs W h1 h2 (row_up HD.o (LC.o.up W hW)) hc5 (by omega) hpl hgp hv.modest).mono fun e w' ⟨v, he, ho, hb⟩ => by
          rw [← fetches_eq hv devs] at ho
          obtain ⟨A, c, rfl, _, hr⟩ := ho.shape
          exact ⟨A, c, he, hr.mono fun _ _ => trivial, bthen hW hb (Nat.le_refl _), hb⟩⟩
      clear hpl hgp hf
      rcases hv with hv | hv
      · have REF2 := As.mk (REF.o hv)
        rw [checkOf_yes hv] at FET
        have dv := decide_eq_true hv
        clear hv REF
        generalize fetchesP g list devs = F at *
        go_enter Try.func4, Try.ntmps4
        go_upto_region 1 with (fail)
        rw [← HW0.o]
        go_upto_region 5 with (first
          | (go_at_call 10; refine (FEW.o _ r0).mono ?_; rintro e w1 ⟨rfl, h1, h01⟩; obtain ⟨a0, a1, a2, a3, a4, al⟩ := LC.o.box w1 h1)
          | (go_at_call 19; refine (FET.o _ h1).mono ?_; rintro e w2 ⟨Af, cf, rfl, hrf, h2, h12⟩; obtain ⟨a0, a1, a2, a3, a4, al⟩ := LC.o.box w2 h2)
          | (go_at_call 14; refine (GOF.o _ h2).mono ?_; rintro e w4 ⟨Bg, dg, rfl, hg4, h4, h24⟩)
          | (go_at_call 15; refine (HOF.o _ h4).mono ?_; rintro e w5 ⟨Bh, dh, rfl, hdh, hl5, h5, h45⟩))
        have RC := As.mk (refCtx g A2 c2 A3 c3 list hg4 h45 hl5 hdh)
        obtain ⟨W6, hW6⟩ : ∃ W6 : World, W6 = w5.alloc (.cells (goalCells g Bg dg A2 c2 A3 c3) 38) := ⟨_, rfl⟩
        rw [← hW6] at RC
        rw [← hW6]
        have h56 : Below w5.heap.size w5 W6 := by rw [hW6]; exact (Below.refl _ _).alloc (Nat.le_refl _) _
        have h6 := bthen h5 h56 (Nat.le_refl _)
        have HRF6 := As.mk (((hrf.below h24).below h45).below h56)
        obtain ⟨b0, b1, b2, b3, b4⟩ := RC.o.box W6 (Below.refl _ _)
        have r6 : Below W6.heap.size W6 W6 := Below.refl _ _
        have CH6 := As.mk (RC.o.chk W6 r6)
        rw [dv] at CH6
        have REF7 := As.mk fun W (hW : Below W6.heap.size W6 W) => REF2.o W Bg dg Bh dh (bthen h6 hW (Nat.le_refl _)) (RC.o.gg W hW) (RC.o.ll W hW)
        have hFm := hrf.2.1
        clear hW6 hg4 hl5 hdh hrf a0 a1 a2 a3 a4 al FET REF2 GOF HOF FEW dv h56 h45 h24 h12 h01
        go_upto_region 8 with (first
          | (go_at_call 20; refine CH6.o.mono ?_; rintro e w7 ⟨rfl, h7, _⟩; obtain ⟨b0, b1, b2, b3, b4⟩ := RC.o.box w7 h7)
          | (go_at_call 21; refine (REF7.o _ h7).mono ?_; rintro e w8 ⟨Aw, cw, rfl, hrw, h8, h78⟩))
        have HRF := As.mk ((HRF6.o.below h7).below h78)
        have HRW := As.mk hrw
        have H8 := As.mk h8
        have dF : (F.length != F.length) = false := by simp
        clear b0 b1 b2 b3 b4 HRF6 hrw h78 h8 CH6 REF7 RC
        go_wp2
        go_loopw [12] (fun i' wr => ∃ k : Nat, k ≤ F.length ∧ i' = .int .i64 k ∧ As (Below w8.heap.size w8 wr)) (fun i' _ => F.length - (intOf i').toNat)
        case atStart => exact ⟨0, Nat.zero_le _, rfl, ⟨Below.refl _ _⟩⟩
        case round =>
          obtain ⟨k, hk, rfl, HB⟩ := hrel
          by_cases hlt : k < F.length
          · obtain ⟨ad, e1, _, _, q0, q1, q2⟩ := rowFetch (HRF.o.below HB.o) k hlt
            obtain ⟨ad', e2, _, _, s0, s1, s2⟩ := rowFetch (HRW.o.below HB.o) k hlt
            subst e1
            subst e2
            have hk1 : (k : Int) < (F.length : Int) := by omega
            have z1 : ((fg F k).1 == (fg F k).1) = true := beq_self_eq_true _
            have z2 : ((fg F k).2.1.toList == (fg F k).2.1.toList) = true := beq_self_eq_true _
            have z3 : ((fg F k).2.2 == (fg F k).2.2) = true := beq_self_eq_true _
            generalize fg F k = f at *
            go_wp2
            go_quiet (fail)
            go_wp2
            go_roundw
            case rel => exact ⟨k + 1, by omega, by go_num, ⟨below_drewN HB.o _⟩⟩
            case measure => simp [intOf]; omega
          · have e : k = F.length := by omega
            subst e
            have AW := As.mk (LC.o.awk wr (bthen H8.o HB.o (Nat.le_refl _)))
            go_wp2_with (go_at_call 11; refine AW.o.mono ?_; rintro e w9 ⟨rfl, h9, h9'⟩)
            go_ret
            exact ⟨rfl, LC.o.up _ h9⟩
      · rw [checkOf_no hv] at FET
        have dv := decide_eq_false hv
        have hF : fetchesP g list devs = [] := if_neg hv
        rw [hF] at FET
        clear hv REF hF
        go_enter Try.func4, Try.ntmps4
        go_upto_region 1 with (fail)
        rw [← HW0.o]
        go_upto_region 5 with (first
          | (go_at_call 10; refine (FEW.o _ r0).mono ?_; rintro e w1 ⟨rfl, h1, h01⟩; obtain ⟨a0, a1, a2, a3, a4, al⟩ := LC.o.box w1 h1)
          | (go_at_call 19; refine (FET.o _ h1).mono ?_; rintro e w2 ⟨Af, cf, rfl, hrf, h2, h12⟩; obtain ⟨a0, a1, a2, a3, a4, al⟩ := LC.o.box w2 h2)
          | (go_at_call 14; refine (GOF.o _ h2).mono ?_; rintro e w4 ⟨Bg, dg, rfl, hg4, h4, h24⟩)
          | (go_at_call 15; refine (HOF.o _ h4).mono ?_; rintro e w5 ⟨Bh, dh, rfl, hdh, hl5, h5, h45⟩))
        have RC := As.mk (refCtx g A2 c2 A3 c3 list hg4 h45 hl5 hdh)
        obtain ⟨W6, hW6⟩ : ∃ W6 : World, W6 = w5.alloc (.cells (goalCells g Bg dg A2 c2 A3 c3) 38) := ⟨_, rfl⟩
        rw [← hW6] at RC
        rw [← hW6]
        have h56 : Below w5.heap.size w5 W6 := by rw [hW6]; exact (Below.refl _ _).alloc (Nat.le_refl _) _
        have H6 := As.mk (bthen h5 h56 (Nat.le_refl _))
        obtain ⟨b0, b1, b2, b3, b4⟩ := RC.o.box W6 (Below.refl _ _)
        have CH6 := As.mk (RC.o.chk W6 (Below.refl _ _))
        rw [dv] at CH6
        clear hW6 hg4 hl5 hdh hrf a0 a1 a2 a3 a4 al FET GOF HOF FEW dv h56 h45 h24 h12 h01
        go_wp2_with (first
          | (go_at_call 20; refine CH6.o.mono ?_; rintro e w7 ⟨rfl, h7, _⟩)
          | (go_at_call 11; refine (LC.o.awk _ (bthen H6.o h7 (Nat.le_refl _))).mono ?_; rintro e w8 ⟨rfl, h8, _⟩))
        go_ret
        exact ⟨rfl, LC.o.up _ h8⟩
  · rw [decide_eq_false hf] at FEW
    clear hf hv
    go_enter Try.func4, Try.ntmps4
    go_upto_region 1 with (fail)
    rw [← HW0.o]
    go_wp2_with (first
      | (go_at_call 10; refine (FEW.o _ r0).mono ?_; rintro e w1 ⟨rfl, h1, h01⟩)
      | (go_at_call 11; refine (LC.o.awk _ h1).mono ?_; rintro e w2 ⟨rfl, h2, _⟩))
    go_ret
    exact ⟨rfl, LC.o.up _ h2⟩
end
end Go.Proofs.Ytlinhckgdfhppaa
