import Derived.Test.YtlinhckgdfhppaaC55
import Derived.Test.YtlinhckgdfhppaaP11
set_option linter.unusedSimpArgs false
set_option linter.unusedVariables false
namespace Go.Proofs.Ytlinhckgdfhppaa
open Go Go.RowKit Go.Proofs.YtlinhckgdfhppaaK

/-! The law RestoreplanFewer. -/
section
variable (g : Goal) (A1 : Option Addr) (c1 : Nat) (A2 : Option Addr) (c2 : Nat) (A3 : Option Addr) (c3 : Nat) (A4 : Option Addr) (c4 : Nat) (list : List Hold) (A5 : Option Addr) (nd c5 : Nat) (devs : List Int) (w : World)
set_option maxRecDepth 100000 in
set_option maxHeartbeats 4000000 in
theorem law9 (hg : GoalIn w (fun k => k < w.heap.size) g A1 c1 A2 c2 A3 c3) (hl : Row kHold w (fun k => k < w.heap.size) A4 list.length list) (hd : Row (Kn.int .i64) w (fun k => k < w.heap.size) A5 nd devs) :
    Calls Try.prog 9 #[.agg (goalCells g A1 c1 A2 c2 A3 c3), .slice A4 list.length c4, .slice A5 nd c5] w fun e w' => e = .returned (.bool true) ∧ Below w.heap.size w w' := by
  have LC := As.mk (lawCtx g A1 c1 A2 c2 A3 c3 A4 c4 list w hg hl)
  have HD := As.mk hd
  obtain ⟨W0, hW0⟩ : ∃ W0 : World, W0 = w.alloc (.cells (goalCells g A1 c1 A2 c2 A3 c3) 26) := ⟨_, rfl⟩
  rw [← hW0] at LC
  have HW0 := As.mk hW0
  have r0 : Below W0.heap.size W0 W0 := Below.refl _ _
  obtain ⟨a0, a1, a2, a3, a4, al⟩ := LC.o.box W0 r0
  have hndm := hd.2.1
  have hndl := hd.1
  have FEW := As.mk LC.o.few
  clear hg hl hd hW0
  by_cases hf : Few g list
  · rw [decide_eq_true hf] at FEW
    have hl13 : list.length ≤ 13 := by have := hf.2.2.2.2; omega
    by_cases h20 : 6 < nd
    · have d1 : decide ((6 : Int) < (nd : Int)) = true := decide_eq_true (by omega)
      go_enter Try.func9, Try.ntmps9
      go_upto_region 1 with (fail)
      rw [← HW0.o]
      go_wp2_with (first
        | (go_at_call 10; refine (FEW.o _ r0).mono ?_; rintro e w1 ⟨rfl, h1, h01⟩)
        | (go_at_call 11; refine (LC.o.awk _ h1).mono ?_; rintro e w2 ⟨rfl, h2, _⟩))
      go_ret
      exact ⟨rfl, LC.o.up _ h2⟩
    · have d1 : decide ((6 : Int) < (nd : Int)) = false := decide_eq_false (by omega)
      by_cases h21 : 6 < list.length
      · have d2 : decide ((6 : Int) < (list.length : Int)) = true := decide_eq_true (by omega)
        go_enter Try.func9, Try.ntmps9
        go_upto_region 1 with (fail)
        rw [← HW0.o]
        go_wp2_with (first
          | (go_at_call 10; refine (FEW.o _ r0).mono ?_; rintro e w1 ⟨rfl, h1, h01⟩)
          | (go_at_call 11; refine (LC.o.awk _ h1).mono ?_; rintro e w2 ⟨rfl, h2, _⟩))
        go_ret
        exact ⟨rfl, LC.o.up _ h2⟩
      · have d2 : decide ((6 : Int) < (list.length : Int)) = false := decide_eq_false (by omega)
        have FST : As (∀ W : World, Below W0.heap.size W0 W → Calls Try.prog 12 #[.agg (goalCells g A1 c1 A2 c2 A3 c3), .slice A4 list.length c4] W fun e w' => ∃ A c, e = .returned (.tuple #[.slice A (fewestP g list).length c, .int .i64 (possOf g list)]) ∧ (fewestP g list).length ≤ c ∧ Row (Kn.int .i64) w' (fun k => k < w'.heap.size) A (fewestP g list).length (fewestP g list) ∧ Below W0.heap.size W0 w' ∧ Below W.heap.size W w') := ⟨fun W hW => (fewest_any g A1 c1 A2 c2 A3 c3 A4 c4 list W (LC.o.gg W hW) (LC.o.ll W hW)).mono fun e w' ⟨A, c, he, hc, hr, hb⟩ => ⟨A, c, he, hc, hr.mono fun _ h => h.2, bthen hW hb (Nat.le_refl _), hb⟩⟩
        by_cases h0 : possOf g list = 0
        · have hv := (possOf_zero h0).1
          have SUF : As (∀ (W : World) (B : Option Addr) (d n : Nat) (s : List Int), Below W0.heap.size W0 W → Row (Kn.int .i64) W (fun k => k < W.heap.size) B n s → Calls Try.prog 32 #[.agg (goalCells g A1 c1 A2 c2 A3 c3), .slice A4 list.length c4, .slice B n d] W fun e w' => e = .returned (.tuple #[.bool (sufP g list s), .int .i64 0]) ∧ Below W0.heap.size W0 w' ∧ Below W.heap.size W w') := ⟨fun W B d n s hW hr => (suffices_any g A1 c1 A2 c2 A3 c3 A4 c4 list B n d s W (LC.o.gg W hW) (LC.o.ll W hW) hr).mono fun e w' ⟨he, hb⟩ => ⟨by rw [he, checkOf_yes hv], bthen hW hb (Nat.le_refl _), hb⟩⟩
          have GRE : As (∀ W : World, Below W0.heap.size W0 W → Calls Try.prog 26 #[.agg (goalCells g A1 c1 A2 c2 A3 c3), .slice A4 list.length c4] W fun e w' => ∃ A c out, e = .returned (.tuple #[.slice A out.length c, .int .i64 0]) ∧ IsGreedy g list out ∧ Row (Kn.int .i64) w' (fun k => k < w'.heap.size) A out.length out ∧ Below W0.heap.size W0 w' ∧ Below W.heap.size W w') := ⟨fun W hW => (greedy_any g A1 c1 A2 c2 A3 c3 A4 c4 list W (LC.o.gg W hW) (LC.o.ll W hW)).mono fun e w' ⟨A, c, out, he, hi, _, hr, hb⟩ => ⟨A, c, out, by rw [he, h0], hi, hr.mono fun _ h => h.2, bthen hW hb (Nat.le_refl _), hb⟩⟩
          have CHE : As (∀ (W : World) (B : Option Addr) (d : Nat), Below W0.heap.size W0 W → Row (Kn.int .i64) W (fun k => k < W.heap.size) B list.length (List.replicate list.length 3) → Calls Try.prog 22 #[.agg (goalCells g A1 c1 A2 c2 A3 c3), .slice A4 list.length c4, .slice B list.length d] W fun e w' => ∃ A c, e = .returned (.tuple #[.slice A (fewestP g list).length c, .int .i64 (3 * ((fewestP g list).length : Int)), .int .i64 0]) ∧
            Row (Kn.int .i64) w' (fun _ => True) A (fewestP g list).length (fewestP g list) ∧ Below W0.heap.size W0 w' ∧ Below W.heap.size W w') := ⟨fun W B d hW hr => (cheapest_any g A1 c1 A2 c2 A3 c3 A4 c4 list B list.length d (threes list) W (LC.o.gg W hW) (LC.o.ll W hW) hr).mono fun e w' ⟨A, c, he, hr, hb⟩ => by
              have hE : cheapE g list (threes list) = 0 := by rw [cheapE, if_pos (threes_ok list), h0]
              rw [cheap_threes h0, hE] at he
              rw [cheap_threes h0] at hr
              exact ⟨A, c, he, hr.mono fun _ _ => trivial, bthen hW hb (Nat.le_refl _), hb⟩⟩
          have WOU : As (∀ (W : World) (A : Option Addr) (c k : Nat), Row (Kn.int .i64) W (fun k => k < W.heap.size) A (fewestP g list).length (fewestP g list) → (fewestP g list).length ≤ c → k < (fewestP g list).length → Calls Try.prog 34 #[.slice A (fewestP g list).length c, .int .i64 (k : Int)] W fun e w' => ∃ A' c', e = .returned (.slice A' ((fewestP g list).eraseIdx k).length c') ∧ Row (Kn.int .i64) w' (fun k => k < w'.heap.size) A' ((fewestP g list).eraseIdx k).length ((fewestP g list).eraseIdx k) ∧ Below W.heap.size W w') := ⟨fun W A c k hr hc hk => (without_any A _ c _ k W hr hk hc (by
              have := fewest_len (g := g) (list := list) h0; have := hv.ok.hnl; omega)).mono fun e w' ⟨v, he, ho, hb⟩ => by
              obtain ⟨A', c', rfl, _, hr'⟩ := ho.shape
              exact ⟨A', c', he, hr', hb⟩⟩
          have INT : As (∀ (W : World) (A B : Option Addr) (n c c' : Nat) (xs : List Int), Row (Kn.int .i64) W (fun _ => True) A n xs → Row (Kn.int .i64) W (fun _ => True) B n xs → Calls Try.prog 18 #[.slice A n c, .slice B n c'] W fun e w' => e = .returned (.bool true) ∧ Below W.heap.size W w') := ⟨fun W A B n c c' xs h1 h2 => by
            have := ints_any A B n c n c' _ xs xs W h1 h2
            rwa [decide_eq_true rfl] at this⟩
          have hF1 := fewest_suf h0
          have HF2 := As.mk (fewest_each h0)
          have HF3 : As (sufP g list devs = true → (fewestP g list).length ≤ nd) := ⟨fun h => by rw [← hndl]; exact fewest_least h0 h⟩
          have HG1 : As (∀ out, IsGreedy g list out → sufP g list out = true ∧ (fewestP g list).length ≤ out.length) := ⟨fun out h => ⟨greedy_suf h0 h, fewest_least h0 (greedy_suf h0 h)⟩⟩
          have hFl := fewest_len (g := g) (list := list) h0
          have SF1 : As (∀ (W : World) (B : Option Addr) (d : Nat), Below W0.heap.size W0 W → Row (Kn.int .i64) W (fun k => k < W.heap.size) B (fewestP g list).length (fewestP g list) → Calls Try.prog 32 #[.agg (goalCells g A1 c1 A2 c2 A3 c3), .slice A4 list.length c4, .slice B (fewestP g list).length d] W fun e w' => e = .returned (.tuple #[.bool true, .int .i64 0]) ∧ Below W0.heap.size W0 w' ∧ Below W.heap.size W w') := ⟨fun W B d hW hr => by have := SUF.o W B d _ _ hW hr; rwa [hF1] at this⟩
          rw [h0] at FST
          clear h0 hv hf hl13 h20 hndl hF1
          generalize fewestP g list = F at *
          have dFm : IntKind.i64.wrap (3 * (F.length : Int)) = 3 * (F.length : Int) := IntWalk.i64_in _ (by omega)
          have dFe : ((3 * (F.length : Int)) == (3 * (F.length : Int))) = true := beq_self_eq_true _
          obtain ⟨so, hso⟩ : ∃ so, sufP g list devs = so := ⟨_, rfl⟩
          have SFD : As (∀ W : World, Below W0.heap.size W0 W → Calls Try.prog 32 #[.agg (goalCells g A1 c1 A2 c2 A3 c3), .slice A4 list.length c4, .slice A5 nd c5] W fun e w' => e = .returned (.tuple #[.bool so, .int .i64 0]) ∧ Below W0.heap.size W0 w' ∧ Below W.heap.size W w') := ⟨fun W hW => by have := SUF.o W A5 c5 nd devs hW (row_up HD.o (LC.o.up W hW)); rwa [hso] at this⟩
          have hsd : so = false ∨ (so = true ∧ decide ((nd : Int) < (F.length : Int)) = false ∧ decide (nd < F.length) = false) := by
            cases so
            · exact .inl rfl
            · exact .inr ⟨rfl, decide_eq_false (by have := HF3.o hso; omega), decide_eq_false (by have := HF3.o hso; omega)⟩
          clear hso HF3
          go_enter Try.func9, Try.ntmps9
          go_upto_region 1 with (fail)
          rw [← HW0.o]
          go_upto_region 9 with (first
            | (go_at_call 10; refine (FEW.o _ r0).mono ?_; rintro e w1 ⟨rfl, h1, h01⟩; obtain ⟨a0, a1, a2, a3, a4, al⟩ := LC.o.box w1 h1)
            | (go_at_call 12; refine (FST.o _ h1).mono ?_; rintro e w2 ⟨Af, cf, rfl, hcf, hrf, h2, h12⟩; obtain ⟨a0, a1, a2, a3, a4, al⟩ := LC.o.box w2 h2)
            | (go_at_call 32; refine (SF1.o _ _ _ h2 hrf).mono ?_; rintro e w3 ⟨rfl, h3, h23⟩))
          have H3 := As.mk h3
          have HRF := As.mk (row_up hrf h23)
          have HCF := As.mk hcf
          clear a0 a1 a2 a3 a4 al FST SF1 hrf hcf h23 h12 h01 h1 h2 h3
          go_wp2
          go_loopw [11] (fun i' wr => ∃ k : Nat, k ≤ F.length ∧ i' = .int .i64 k ∧ As (Below w3.heap.size w3 wr)) (fun i' _ => F.length - (intOf i').toNat)
          case atStart => exact ⟨0, Nat.zero_le _, rfl, ⟨Below.refl _ _⟩⟩
          case round =>
            obtain ⟨k, hk, rfl, HB⟩ := hrel
            have HU : As (Below W0.heap.size W0 wr) := ⟨bthen H3.o HB.o (Nat.le_refl _)⟩
            obtain ⟨a0, a1, a2, a3, a4, al⟩ := LC.o.box wr HU.o
            by_cases hlt : k < F.length
            · have HE := HF2.o k hlt
              have WOK : As (∀ W, Below wr.heap.size wr W → Calls Try.prog 34 #[.slice Af F.length cf, .int .i64 (k : Int)] W fun e w' => ∃ A' c', e = .returned (.slice A' (F.eraseIdx k).length c') ∧ Row (Kn.int .i64) w' (fun k => k < w'.heap.size) A' (F.eraseIdx k).length (F.eraseIdx k) ∧ Below wr.heap.size wr w') := ⟨fun W hW => (WOU.o W Af cf k (row_up (row_up HRF.o HB.o) hW) HCF.o hlt).mono fun e w' ⟨A', c', he, hr, hb⟩ => ⟨A', c', he, hr, bthen hW hb (Nat.le_refl _)⟩⟩
              generalize F.eraseIdx k = E at *
              have SFE : As (∀ (W : World) (B : Option Addr) (d : Nat), Below wr.heap.size wr W → Row (Kn.int .i64) W (fun k => k < W.heap.size) B E.length E → Calls Try.prog 32 #[.agg (goalCells g A1 c1 A2 c2 A3 c3), .slice A4 list.length c4, .slice B E.length d] W fun e w' => e = .returned (.tuple #[.bool false, .int .i64 0]) ∧ Below wr.heap.size wr w') := ⟨fun W B d hW hr => by
                have := SUF.o W B d _ _ (bthen HU.o hW (Nat.le_refl _)) hr
                rw [HE] at this
                exact this.mono fun e w' ⟨he, _, hb⟩ => ⟨he, bthen hW hb (Nat.le_refl _)⟩⟩
              have hk1 : (k : Int) < (F.length : Int) := by omega
              have BXK : As (∀ W, Below wr.heap.size wr W → W.cell? ⟨w.heap.size, 0, none⟩ = some (.slice A1 g.needs.length c1) ∧ W.cell? ⟨w.heap.size, 1, none⟩ = some (.int .i64 g.thr) ∧ W.cell? ⟨w.heap.size, 2, none⟩ = some (.bool g.index) ∧ W.cell? ⟨w.heap.size, 3, none⟩ = some (.slice A2 g.pieces.length c2) ∧ W.cell? ⟨w.heap.size, 4, none⟩ = some (.slice A3 g.shares.length c3) ∧ w.heap.size < W.heap.size) := ⟨fun W hW => LC.o.box W (bthen HU.o hW (Nat.le_refl _))⟩
              have rD : Below wr.heap.size wr wr.drew := (Below.refl _ _).drew
              clear HE
              go_wp2
              go_region_with (first
                | (go_at_call 34; refine (WOK.o _ rD).mono ?_; rintro e w5 ⟨A', c', rfl, hr5, h5⟩; obtain ⟨z0, z1, z2, z3, z4, zl⟩ := BXK.o w5 h5)
                | (go_at_call 32; refine (SFE.o _ _ _ h5 hr5).mono ?_; rintro e w6 ⟨rfl, h6⟩))
              all_goals
                go_wp2
                go_roundw
                case rel => exact ⟨k + 1, by omega, by go_num, ⟨bthen HB.o h6 (Nat.le_refl _)⟩⟩
                case measure => simp [intOf]; omega
            · have e : k = F.length := by omega
              subst e
              have HRW := As.mk (row_up HRF.o HB.o)
              clear WOU HF2 HRF HCF H3
              rcases hsd with rfl | ⟨rfl, dsd, dsd2⟩
              all_goals
                go_upto_region 18 with (go_at_call 32; refine (SFD.o _ HU.o).mono ?_; rintro e w7 ⟨rfl, h7, h67⟩; obtain ⟨a0, a1, a2, a3, a4, al⟩ := LC.o.box w7 h7)
                go_upto_region 19 with (go_at_call 26; refine (GRE.o _ h7).mono ?_; rintro e w8 ⟨Ag, cg, out, rfl, hig, hrg, h8, h78⟩; obtain ⟨a0, a1, a2, a3, a4, al⟩ := LC.o.box w8 h8)
                obtain ⟨q1, q2⟩ := HG1.o _ hig
                have SFG := As.mk (SUF.o w8 Ag cg out.length out h8 hrg)
                rw [q1] at SFG
                have dg : decide ((F.length : Int) ≤ (out.length : Int)) = true := decide_eq_true (by omega)
                have dg2 : decide (F.length ≤ out.length) = true := decide_eq_true (by omega)
                go_upto_region 20 with (go_at_call 32; refine SFG.o.mono ?_; rintro e w9 ⟨rfl, h9, h89⟩)
                have H9 := As.mk h9
                have HRW9 := As.mk (row_up (row_up (row_up HRW.o h67) h78) h89)
                clear a0 a1 a2 a3 a4 al hrg hig q1 q2 SFG h89 h78 h67 h9 h8 h7 SUF GRE SFD HRW
                go_upto_region 21 with (fail)
                obtain ⟨W10, hW10⟩ : ∃ W10 : World, W10 = w9.alloc (.cells #[] 3) := ⟨_, rfl⟩
                rw [← hW10]
                have HB10 : As (Below w9.heap.size w9 W10) := ⟨by rw [hW10]; exact (Below.refl _ _).alloc (Nat.le_refl _) _⟩
                have HO10 : As (Own (Kn.int .i64) 3 W10 w9.heap.size (.slice (some ⟨w9.heap.size, 0, none⟩) 0 0) []) := ⟨by rw [hW10]; exact Own.empty _ _ _ _ (Nat.le_refl _)⟩
                clear hW10
                go_wp2
                go_loopw [20, 21] (fun v i' wr => ∃ k : Nat, k ≤ list.length ∧ i' = .int .i64 k ∧ As (Own (Kn.int .i64) 3 wr w9.heap.size v (List.replicate k 3)) ∧ As (Below w9.heap.size w9 wr)) (fun _ i' _ => list.length - (intOf i').toNat)
                case atStart => exact ⟨0, Nat.zero_le _, rfl, HO10, HB10⟩
                case round =>
                  obtain ⟨k, hk, rfl, HO, HBB⟩ := hrel
                  have hsb := HBB.o.size
                  by_cases hlt2 : k < list.length
                  · have HRS : As (List.replicate (k + 1) (3 : Int) = List.replicate k 3 ++ [3]) := ⟨List.replicate_succ'⟩
                    have hrl : (List.replicate k (3 : Int)).length = k := List.length_replicate
                    generalize List.replicate k (3 : Int) = cs at *
                    go_wp2_with (at_builtin; refine app_one (Kn.int .i64) w9.heap.size rfl (.tmp 118) (.tmp 119) 24 (.int .i64 0) 8 rfl Try.underlying24 info_int rfl (by decide) u20 cs 3 [.int .i64 3] rfl (by show Value.slice _ _ _ = _; simp) HO.o rfl hsb (by omega) (by omega) ?_; intro v1 w11 HO11 hg11 hat11)
                    go_roundw
                    case rel => exact ⟨k + 1, by omega, by go_num, ⟨by rw [HRS.o]; exact HO11⟩, ⟨HBB.o.trans (HO.o.base_le hg11 (Nat.le_refl _) hsb)⟩⟩
                    case measure => simp [intOf]; omega
                  · have e : k = list.length := by omega
                    subst e
                    obtain ⟨Ac, cc, ev, _, hrc⟩ := HO.o.shape
                    rw [List.length_replicate] at ev hrc
                    subst ev
                    have H11 : As (Below W0.heap.size W0 wr) := ⟨bthen H9.o HBB.o (Nat.le_refl _)⟩
                    obtain ⟨a0, a1, a2, a3, a4, al⟩ := LC.o.box wr H11.o
                    have CHK := As.mk (CHE.o wr Ac cc H11.o hrc)
                    have HRW11 := As.mk (row_up HRW9.o HBB.o)
                    have AWK := As.mk LC.o.awk
                    clear hrc CHE HO HBB
                    go_wp2_with (first
                      | (go_at_call 22; refine CHK.o.mono ?_; rintro e w12 ⟨Ah, ch, rfl, hrh, h12, h112⟩)
                      | (go_at_call 11; refine (AWK.o w12 h12).mono ?_; rintro e w13 ⟨rfl, h13, h123⟩)
                      | (go_at_call 18; refine (INT.o w13 Ah Af F.length ch cf F (hrh.below h123) ((row_up (row_up HRW11.o h112) h123).mono fun _ _ => trivial)).mono ?_; rintro e w14 ⟨rfl, h14⟩; have h0e := bthen h13 h14 (Nat.le_refl _)))
                    go_ret
                    exact ⟨rfl, LC.o.up _ h0e⟩
        · have hF : fewestP g list = [] := if_neg h0
          rw [hF] at FST
          have d3 : (possOf g list != 0) = true := by simp [h0]
          clear h0 hf hl13 hF hndl
          generalize possOf g list = r at *
          go_enter Try.func9, Try.ntmps9
          go_upto_region 1 with (fail)
          rw [← HW0.o]
          go_wp2_with (first
            | (go_at_call 10; refine (FEW.o _ r0).mono ?_; rintro e w1 ⟨rfl, h1, h01⟩; obtain ⟨a0, a1, a2, a3, a4, al⟩ := LC.o.box w1 h1)
            | (go_at_call 12; refine (FST.o _ h1).mono ?_; rintro e w2 ⟨Af, cf, rfl, hcf, hrf, h2, h12⟩; clear hrf hcf)
            | (go_at_call 11; refine (LC.o.awk _ h2).mono ?_; rintro e w3 ⟨rfl, h3, _⟩))
          go_ret
          exact ⟨rfl, LC.o.up _ h3⟩
  · rw [decide_eq_false hf] at FEW
    clear hf
    go_enter Try.func9, Try.ntmps9
    go_upto_region 1 with (fail)
    rw [← HW0.o]
    go_wp2_with (first
      | (go_at_call 10; refine (FEW.o _ r0).mono ?_; rintro e w1 ⟨rfl, h1, h01⟩)
      | (go_at_call 11; refine (LC.o.awk _ h1).mono ?_; rintro e w2 ⟨rfl, h2, _⟩))
    go_ret
    exact ⟨rfl, LC.o.up _ h2⟩
end
end Go.Proofs.Ytlinhckgdfhppaa
