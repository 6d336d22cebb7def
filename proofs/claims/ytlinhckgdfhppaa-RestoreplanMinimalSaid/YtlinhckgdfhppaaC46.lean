/- A part of the proof: what the functions do, and plain laws. -/
import Derived.Test.YtlinhckgdfhppaaC45
namespace Go.Proofs.Ytlinhckgdfhppaa
open Go Go.RowKit Go.Proofs.YtlinhckgdfhppaaK

section
variable (g : Goal) (A1 : Option Addr) (c1 : Nat) (A2 : Option Addr) (c2 : Nat) (A3 : Option Addr) (c3 : Nat) (A4 : Option Addr) (c4 : Nat) (list : List Hold) (w : World)
theorem goal_wide {W0 W : World} (h : GoalIn W0 (fun k => k < W0.heap.size) g A1 c1 A2 c2 A3 c3) (hb : Below W0.heap.size W0 W) : GoalIn W (fun k => k < W.heap.size) g A1 c1 A2 c2 A3 c3 :=
  ⟨(h.n.below hb).mono fun _ hk => Nat.lt_of_lt_of_le hk hb.size, h.cn, (h.p.below hb).mono fun _ hk => Nat.lt_of_lt_of_le hk hb.size, h.cp, (h.s.below hb).mono fun _ hk => Nat.lt_of_lt_of_le hk hb.size, h.cs⟩
set_option maxRecDepth 100000 in
set_option maxHeartbeats 2000000 in
theorem law3 (hg : GoalIn w (fun k => k < w.heap.size) g A1 c1 A2 c2 A3 c3) (hl : Row kHold w (fun k => k < w.heap.size) A4 list.length list) :
    Calls Try.prog 3 #[.agg (goalCells g A1 c1 A2 c2 A3 c3), .slice A4 list.length c4] w fun e w' => e = .returned (.bool true) ∧ Below w.heap.size w w' := by
  obtain ⟨W0, hW0⟩ : ∃ W0 : World, W0 = w.alloc (.cells (goalCells g A1 c1 A2 c2 A3 c3) 26) := ⟨_, rfl⟩
  have hB0 : Below w.heap.size w W0 := by rw [hW0]; exact (Below.refl _ _).alloc (Nat.le_refl _) _
  have hs0 : W0.heap.size = w.heap.size + 1 := by rw [hW0]; simp
  have X0 : W0.heap[w.heap.size]? = some (.cells (goalCells g A1 c1 A2 c2 A3 c3) 26 (0, 0)) := by rw [hW0]; exact heap_alloc_new w _
  have HB0 := As.mk hB0
  have BOX : As (∀ W : World, Below W0.heap.size W0 W → W.cell? ⟨w.heap.size, 0, none⟩ = some (.slice A1 g.needs.length c1) ∧ W.cell? ⟨w.heap.size, 1, none⟩ = some (.int .i64 g.thr) ∧ W.cell? ⟨w.heap.size, 2, none⟩ = some (.bool g.index) ∧ W.cell? ⟨w.heap.size, 3, none⟩ = some (.slice A2 g.pieces.length c2) ∧ W.cell? ⟨w.heap.size, 4, none⟩ = some (.slice A3 g.shares.length c3) ∧ w.heap.size < W.heap.size) := ⟨fun W hW => by
    have e : ∀ i, W.cell? ⟨w.heap.size, i, none⟩ = (goalCells g A1 c1 A2 c2 A3 c3)[i]? := fun i => (hW.cell (p := ⟨w.heap.size, i, none⟩) (show w.heap.size < W0.heap.size by omega)).trans (cell_of_row _ _ i _ _ _ X0)
    exact ⟨e 0, e 1, e 2, e 3, e 4, by have := hW.size; omega⟩⟩
  have G0 := As.mk (goal_wide g A1 c1 A2 c2 A3 c3 (W := W0) hg hB0)
  have GG : As (∀ W : World, Below W0.heap.size W0 W → GoalIn W (fun k => k < W.heap.size) g A1 c1 A2 c2 A3 c3) := ⟨fun W hW => goal_wide g A1 c1 A2 c2 A3 c3 G0.o hW⟩
  have LL : As (∀ W : World, Below W0.heap.size W0 W → Row kHold W (fun k => k < W.heap.size) A4 list.length list) := ⟨fun W hW => (hl.below (hB0.trans (hW.mono (by omega)))).mono fun _ hk => Nat.lt_of_lt_of_le hk (Nat.le_trans hB0.size hW.size)⟩
  have FEW : As (∀ W : World, Below W0.heap.size W0 W → Calls Try.prog 10 #[.agg (goalCells g A1 c1 A2 c2 A3 c3), .slice A4 list.length c4] W fun e w' => e = .returned (.bool (decide (Few g list))) ∧ Below W0.heap.size W0 w') := ⟨fun W hW => (few_any g A1 c1 A2 c2 A3 c3 A4 list.length c4 list W _ (GG.o W hW) (LL.o W hW)).mono fun e w' ⟨he, hb⟩ => ⟨he, bthen hW hb (Nat.le_refl _)⟩⟩
  have AWK : As (∀ W : World, Below W0.heap.size W0 W → Calls Try.prog 11 #[] W fun e w' => e = .returned (.bool true) ∧ Below W0.heap.size W0 w' ∧ Below W.heap.size W w') := ⟨fun W hW => (awake_any W).mono fun e w' ⟨he, hb⟩ => ⟨he, bthen hW hb (Nat.le_refl _), hb⟩⟩
  have r0 : Below W0.heap.size W0 W0 := Below.refl _ _
  have HW0 := As.mk hW0
  obtain ⟨a0, a1, a2, a3, a4, al⟩ := BOX.o W0 r0
  clear hB0 X0 G0 hW0 hg
  by_cases hf : Few g list
  · rw [decide_eq_true hf] at FEW
    have hn6 := hf.2.1
    have hl13 : list.length ≤ 13 := by have := hf.2.2.2.2; omega
    have GOF : As (∀ W : World, Below W0.heap.size W0 W → Calls Try.prog 14 #[.agg (goalCells g A1 c1 A2 c2 A3 c3)] W fun e w' => ∃ B d, e = .returned (.agg (goalCells g B d A2 c2 A3 c3)) ∧ GoalIn w' (fun k => k < w'.heap.size) g B d A2 c2 A3 c3 ∧ Below W0.heap.size W0 w' ∧ Below W.heap.size W w') := ⟨fun W hW => (goalOf_any g A1 c1 A2 c2 A3 c3 W (GG.o W hW) (by omega)).mono fun e w' ⟨v, he, ho, hb⟩ => by
      obtain ⟨B, d, rfl, hd, hr⟩ := ho.shape
      have h1 := GG.o _ (bthen hW hb (Nat.le_refl _))
      exact ⟨B, d, he, ⟨hr, hd, h1.p, h1.cp, h1.s, h1.cs⟩, bthen hW hb (Nat.le_refl _), hb⟩⟩
    have HOF : As (∀ W : World, Below W0.heap.size W0 W → Calls Try.prog 15 #[.slice A4 list.length c4] W fun e w' => ∃ B d, e = .returned (.slice B list.length d) ∧ list.length ≤ d ∧ Row kHold w' (fun k => k < w'.heap.size) B list.length list ∧ Below W0.heap.size W0 w' ∧ Below W.heap.size W w') := ⟨fun W hW => (holdingsOf_any A4 list.length c4 list W (LL.o W hW) (by omega)).mono fun e w' ⟨v, he, ho, hb⟩ => by
      obtain ⟨B, d, rfl, hd, hr⟩ := ho.shape
      exact ⟨B, d, he, hd, hr, bthen hW hb (Nat.le_refl _), hb⟩⟩
    have SUFF : As (∀ (W : World) (B : Option Addr) (d : Nat) (B4 : Option Addr) (d4 : Nat), GoalIn W (fun k => k < W.heap.size) g B d A2 c2 A3 c3 → Row kHold W (fun k => k < W.heap.size) B4 list.length list → list.length ≤ d4 → Calls Try.prog 16 #[.agg (goalCells g B d A2 c2 A3 c3), .slice B4 list.length d4] W fun e w' => e = .returned (.int .i64 (possOf g list)) ∧ Below W.heap.size W w') := ⟨fun W B d B4 d4 h1 h2 h3 => sufficient_any g B d A2 c2 A3 c3 B4 list.length d4 list W h1 h2 h3⟩
    by_cases h0 : possOf g list = 0
    · have hv := (possOf_zero h0).1
      have HMIN := minimal_eq hv h0
      obtain ⟨rest, hrest⟩ := fewest_eq hv h0
      have hli6 : list.length ≤ 6 := by have := hf.2.2.2.2; have := hv.ok.hnl; omega
      have FST : As (∀ W : World, Below W0.heap.size W0 W → Calls Try.prog 12 #[.agg (goalCells g A1 c1 A2 c2 A3 c3), .slice A4 list.length c4] W fun e w' => ∃ A c, e = .returned (.tuple #[.slice A (fewestP g list).length c, .int .i64 0]) ∧ Row (Kn.int .i64) w' (fun _ => True) A (fewestP g list).length (fewestP g list) ∧ Below W0.heap.size W0 w') := ⟨fun W hW => by
        have := fewest_any g A1 c1 A2 c2 A3 c3 A4 c4 list W (GG.o W hW) (LL.o W hW)
        rw [h0] at this
        exact this.mono fun e w' ⟨A, c, he, _, hr, hb⟩ => ⟨A, c, he, hr.mono fun _ _ => trivial, bthen hW hb (Nat.le_refl _)⟩⟩
      have MIN : As (∀ W : World, Below W0.heap.size W0 W → Calls Try.prog 13 #[.agg (goalCells g A1 c1 A2 c2 A3 c3), .slice A4 list.length c4] W fun e w' => ∃ A c, e = .returned (.tuple #[.slice A (minimalOf g list).length c, .int .i64 0]) ∧ Row kInts w' (fun _ => True) A (minimalOf g list).length (minimalOf g list) ∧ Below W0.heap.size W0 w' ∧ Below W.heap.size W w') := ⟨fun W hW => by
        have := minimal_any g A1 c1 A2 c2 A3 c3 A4 c4 list W (GG.o W hW) (LL.o W hW) (fun _ => hli6)
        rw [h0, HMIN] at this
        exact this.mono fun e w' ⟨A, c, he, hr, hb⟩ => ⟨A, c, he, hr.mono fun _ _ => trivial, bthen hW hb (Nat.le_refl _), hb⟩⟩
      have REFM : As (∀ (W : World) (B : Option Addr) (d : Nat) (B4 : Option Addr) (d4 : Nat), GoalIn W (fun k => k < W.heap.size) g B d A2 c2 A3 c3 → Row kHold W (fun k => k < W.heap.size) B4 list.length list → Calls Try.prog 17 #[.agg (goalCells g B d A2 c2 A3 c3), .slice B4 list.length d4] W fun e w' => ∃ A c, e = .returned (.slice A (minimalOf g list).length c) ∧ Row kInts w' (fun _ => True) A (minimalOf g list).length (minimalOf g list) ∧ Below W.heap.size W w') := ⟨fun W B d B4 d4 h1 h2 => (refMinimal_any g B d A2 c2 A3 c3 B4 list.length d4 list W h1 h2 hv.modest).mono fun e w' ⟨v, he, ho, hb⟩ => by
        obtain ⟨A, c, rfl, _, hr⟩ := ho.shape
        exact ⟨A, c, he, hr.mono fun _ _ => trivial, hb⟩⟩
      have INT : As (∀ (W : World) (A B : Option Addr) (n c c' : Nat) (xs : List Int), Row (Kn.int .i64) W (fun _ => True) A n xs → Row (Kn.int .i64) W (fun _ => True) B n xs → Calls Try.prog 18 #[.slice A n c, .slice B n c'] W fun e w' => e = .returned (.bool true) ∧ Below W.heap.size W w') := ⟨fun W A B n c c' xs h1 h2 => by
        have := ints_any A B n c n c' _ xs xs W h1 h2
        rwa [decide_eq_true rfl] at this⟩
      rw [h0] at SUFF
      have hml : (minimalOf g list).length ≠ 0 := by rw [hrest]; simp
      have HLG : As (lg (minimalOf g list) 0 = fewestP g list) := ⟨by rw [hrest]; rfl⟩
      clear hf hv h0 HMIN hrest hl
      generalize minimalOf g list = M at *
      generalize fewestP g list = F at *
      go_enter Try.func3, Try.ntmps3
      go_upto_region 1 with (fail)
      rw [← HW0.o]
      go_upto_region 6 with (first
        | (go_at_call 10; refine (FEW.o _ r0).mono ?_; rintro e w1 ⟨rfl, h1⟩; obtain ⟨a0, a1, a2, a3, a4, al⟩ := BOX.o w1 h1)
        | (go_at_call 12; refine (FST.o _ h1).mono ?_; rintro e w2 ⟨Af, cf, rfl, hrf, h2⟩; obtain ⟨a0, a1, a2, a3, a4, al⟩ := BOX.o w2 h2)
        | (go_at_call 13; refine (MIN.o _ h2).mono ?_; rintro e w3 ⟨Am, cm, rfl, hrm, h3, h23⟩; obtain ⟨a0, a1, a2, a3, a4, al⟩ := BOX.o w3 h3)
        | (go_at_call 14; refine (GOF.o _ h3).mono ?_; rintro e w4 ⟨Bg, dg, rfl, hg4, h4, h34⟩)
        | (go_at_call 15; refine (HOF.o _ h4).mono ?_; rintro e w5 ⟨Bh, dh, rfl, hdh, hl5, h5, h45⟩))
      obtain ⟨W6, hW6⟩ : ∃ W6 : World, W6 = w5.alloc (.cells (goalCells g Bg dg A2 c2 A3 c3) 38) := ⟨_, rfl⟩
      rw [← hW6]
      have h56 : Below w5.heap.size w5 W6 := by rw [hW6]; exact (Below.refl _ _).alloc (Nat.le_refl _) _
      have hs6 : W6.heap.size = w5.heap.size + 1 := by rw [hW6]; simp
      have X6 : W6.heap[w5.heap.size]? = some (.cells (goalCells g Bg dg A2 c2 A3 c3) 38 (0, 0)) := by rw [hW6]; exact heap_alloc_new w5 _
      have h6 := bthen h5 h56 (Nat.le_refl _)
      have BX6 : As (∀ W : World, Below W6.heap.size W6 W → W.cell? ⟨w5.heap.size, 0, none⟩ = some (.slice Bg g.needs.length dg) ∧ W.cell? ⟨w5.heap.size, 1, none⟩ = some (.int .i64 g.thr) ∧ W.cell? ⟨w5.heap.size, 2, none⟩ = some (.bool g.index) ∧ W.cell? ⟨w5.heap.size, 3, none⟩ = some (.slice A2 g.pieces.length c2) ∧ W.cell? ⟨w5.heap.size, 4, none⟩ = some (.slice A3 g.shares.length c3)) := ⟨fun W hW => by
        have e : ∀ i, W.cell? ⟨w5.heap.size, i, none⟩ = (goalCells g Bg dg A2 c2 A3 c3)[i]? := fun i => (hW.cell (p := ⟨w5.heap.size, i, none⟩) (show w5.heap.size < W6.heap.size by omega)).trans (cell_of_row _ _ i _ _ _ X6)
        exact ⟨e 0, e 1, e 2, e 3, e 4⟩⟩
      have G6 := goal_wide g Bg dg A2 c2 A3 c3 hg4 (bthen h45 h56 (Nat.le_refl _))
      have L6 : Row kHold W6 (fun k => k < W6.heap.size) Bh list.length list := (hl5.below h56).mono fun _ hk => Nat.lt_of_lt_of_le hk h56.size
      obtain ⟨b0, b1, b2, b3, b4⟩ := BX6.o W6 (Below.refl _ _)
      have SU6 := As.mk (SUFF.o W6 Bg dg Bh dh G6 L6 hdh)
      clear hW6 hs6 X6
      have REF6 := As.mk (fun W (hW : Below W6.heap.size W6 W) => REFM.o W Bg dg Bh dh (goal_wide g Bg dg A2 c2 A3 c3 G6 hW) ((L6.below hW).mono fun _ hk => Nat.lt_of_lt_of_le hk hW.size))
      have dml : ((M.length : Int) == 0) = false := by
        have : (M.length : Int) ≠ 0 := by omega
        simpa using this
      go_wp2_with (first
        | (go_at_call 16; refine SU6.o.mono ?_; rintro e w7 ⟨rfl, h7⟩; obtain ⟨b0, b1, b2, b3, b4⟩ := BX6.o w7 h7)
        | (go_at_call 17; refine (REF6.o _ h7).mono ?_; rintro e w8 ⟨Aw, cw, rfl, hrw, h8⟩))
      have c38 : Below w3.heap.size w3 w8 := bthen (bthen (bthen (bthen h34 h45 (Nat.le_refl _)) h56 (Nat.le_refl _)) h7 (Nat.le_refl _)) h8 (Nat.le_refl _)
      have HRM := As.mk (hrm.below c38)
      have HRF := As.mk ((hrf.below h23).below c38)
      have HRW := As.mk hrw
      have HB8 : As (Below W0.heap.size W0 w8) := ⟨bthen h3 c38 (Nat.le_refl _)⟩
      have hMm := hrw.2.1
      clear hrm hrf hrw c38 b0 b1 b2 b3 b4 BX6 REF6 SU6 REFM SUFF G6 L6
      go_loopw [13] (fun i' wr => ∃ k : Nat, k ≤ M.length ∧ i' = .int .i64 k ∧ As (Below w8.heap.size w8 wr)) (fun i' _ => M.length - (intOf i').toNat)
      case atStart => exact ⟨0, Nat.zero_le _, rfl, ⟨Below.refl _ _⟩⟩
      case round =>
        obtain ⟨k, hk, rfl, HB⟩ := hrel
        by_cases hlt : k < M.length
        · obtain ⟨ad, Bs, cs, e1, _, q1, _, rs1⟩ := rowInts (HRM.o.below HB.o) k hlt
          obtain ⟨ad', Bs', cs', e2, _, q2, _, rs2⟩ := rowInts (HRW.o.below HB.o) k hlt
          subst e1
          subst e2
          have hk1 : (k : Int) < (M.length : Int) := by omega
          have RS1 := As.mk (rs1.below (Below.refl _ _).drew)
          have RS2 := As.mk (rs2.below (Below.refl _ _).drew)
          generalize lg M k = s at *
          have IK := As.mk (INT.o wr.drew Bs Bs' s.length cs cs' s RS1.o RS2.o)
          clear rs1 rs2
          go_wp2
          go_region_with (go_at_call 18; refine IK.o.mono ?_; rintro e w9 ⟨rfl, h9⟩)
          all_goals
            go_wp2
            go_roundw
            case rel => exact ⟨k + 1, by omega, by go_num, ⟨bthen HB.o.drew h9 (Nat.le_refl _)⟩⟩
            case measure => simp [intOf]; omega
        · have e : k = M.length := by omega
          subst e
          have AW := As.mk (AWK.o wr (bthen HB8.o HB.o (Nat.le_refl _)))
          have hM0 : 0 < M.length := by omega
          have hM1 : (0 : Int) < (M.length : Int) := by omega
          have FIN : As (∀ W : World, Below wr.heap.size wr W → ∃ ad Bs cs, Aw = some ad ∧ W.cell? ad = some (.slice Bs F.length cs) ∧ Row (Kn.int .i64) W (fun _ => True) Bs F.length F) := ⟨fun W hW => by
            obtain ⟨ad, Bs, cs, e1, _, q1, _, rs1⟩ := rowInts ((HRW.o.below HB.o).below hW) 0 hM0
            rw [HLG.o] at q1 rs1
            exact ⟨ad, Bs, cs, e1, q1, rs1⟩⟩
          have HRF2 := As.mk (HRF.o.below HB.o)
          go_wp2_with (first
            | (go_at_call 11; refine AW.o.mono ?_; rintro e w9 ⟨rfl, h9, h9'⟩; obtain ⟨ad, Bs, cs, e1, q1, rs1⟩ := FIN.o w9 h9'; subst e1)
            | (go_at_call 18; refine (INT.o _ _ _ _ _ _ F (HRF2.o.below h9') rs1).mono ?_; rintro e w10 ⟨rfl, h10⟩))
          go_ret
          exact ⟨rfl, (HB0.o.trans (h9.mono (by omega))).trans (h10.mono (by have := h9.size; omega))⟩
    · have FST : As (∀ W : World, Below W0.heap.size W0 W → Calls Try.prog 12 #[.agg (goalCells g A1 c1 A2 c2 A3 c3), .slice A4 list.length c4] W fun e w' => ∃ A c, e = .returned (.tuple #[.slice A 0 c, .int .i64 (possOf g list)]) ∧ Below W0.heap.size W0 w') := ⟨fun W hW => by
        have := fewest_any g A1 c1 A2 c2 A3 c3 A4 c4 list W (GG.o W hW) (LL.o W hW)
        rw [show fewestP g list = [] from if_neg h0] at this
        exact this.mono fun e w' ⟨A, c, he, _, _, hb⟩ => ⟨A, c, he, bthen hW hb (Nat.le_refl _)⟩⟩
      have MIN : As (∀ W : World, Below W0.heap.size W0 W → Calls Try.prog 13 #[.agg (goalCells g A1 c1 A2 c2 A3 c3), .slice A4 list.length c4] W fun e w' => ∃ A c, e = .returned (.tuple #[.slice A 0 c, .int .i64 (possOf g list)]) ∧ Below W0.heap.size W0 w') := ⟨fun W hW => by
        have := minimal_any g A1 c1 A2 c2 A3 c3 A4 c4 list W (GG.o W hW) (LL.o W hW) (fun h => absurd h h0)
        rw [show minimalP g list = [] from if_neg h0] at this
        exact this.mono fun e w' ⟨A, c, he, _, hb⟩ => ⟨A, c, he, bthen hW hb (Nat.le_refl _)⟩⟩
      have d0 : (possOf g list == 0) = false := by simp [h0]
      generalize possOf g list = r at *
      clear hl
      go_enter Try.func3, Try.ntmps3
      go_upto_region 1 with (fail)
      rw [← HW0.o]
      go_upto_region 6 with (first
        | (go_at_call 10; refine (FEW.o _ r0).mono ?_; rintro e w1 ⟨rfl, h1⟩; obtain ⟨a0, a1, a2, a3, a4, al⟩ := BOX.o w1 h1)
        | (go_at_call 12; refine (FST.o _ h1).mono ?_; rintro e w2 ⟨Af, cf, rfl, h2⟩; obtain ⟨a0, a1, a2, a3, a4, al⟩ := BOX.o w2 h2)
        | (go_at_call 13; refine (MIN.o _ h2).mono ?_; rintro e w3 ⟨Am, cm, rfl, h3⟩; obtain ⟨a0, a1, a2, a3, a4, al⟩ := BOX.o w3 h3)
        | (go_at_call 14; refine (GOF.o _ h3).mono ?_; rintro e w4 ⟨Bg, dg, rfl, hg4, h4, h34⟩)
        | (go_at_call 15; refine (HOF.o _ h4).mono ?_; rintro e w5 ⟨Bh, dh, rfl, hdh, hl5, h5, h45⟩))
      obtain ⟨W6, hW6⟩ : ∃ W6 : World, W6 = w5.alloc (.cells (goalCells g Bg dg A2 c2 A3 c3) 38) := ⟨_, rfl⟩
      rw [← hW6]
      have h56 : Below w5.heap.size w5 W6 := by rw [hW6]; exact (Below.refl _ _).alloc (Nat.le_refl _) _
      have hs6 : W6.heap.size = w5.heap.size + 1 := by rw [hW6]; simp
      have X6 : W6.heap[w5.heap.size]? = some (.cells (goalCells g Bg dg A2 c2 A3 c3) 38 (0, 0)) := by rw [hW6]; exact heap_alloc_new w5 _
      have h6 := bthen h5 h56 (Nat.le_refl _)
      have BX6 : As (∀ W : World, Below W6.heap.size W6 W → W.cell? ⟨w5.heap.size, 0, none⟩ = some (.slice Bg g.needs.length dg) ∧ W.cell? ⟨w5.heap.size, 1, none⟩ = some (.int .i64 g.thr) ∧ W.cell? ⟨w5.heap.size, 2, none⟩ = some (.bool g.index) ∧ W.cell? ⟨w5.heap.size, 3, none⟩ = some (.slice A2 g.pieces.length c2) ∧ W.cell? ⟨w5.heap.size, 4, none⟩ = some (.slice A3 g.shares.length c3)) := ⟨fun W hW => by
        have e : ∀ i, W.cell? ⟨w5.heap.size, i, none⟩ = (goalCells g Bg dg A2 c2 A3 c3)[i]? := fun i => (hW.cell (p := ⟨w5.heap.size, i, none⟩) (show w5.heap.size < W6.heap.size by omega)).trans (cell_of_row _ _ i _ _ _ X6)
        exact ⟨e 0, e 1, e 2, e 3, e 4⟩⟩
      have G6 := goal_wide g Bg dg A2 c2 A3 c3 hg4 (bthen h45 h56 (Nat.le_refl _))
      have L6 : Row kHold W6 (fun k => k < W6.heap.size) Bh list.length list := (hl5.below h56).mono fun _ hk => Nat.lt_of_lt_of_le hk h56.size
      obtain ⟨b0, b1, b2, b3, b4⟩ := BX6.o W6 (Below.refl _ _)
      have SU6 := As.mk (SUFF.o W6 Bg dg Bh dh G6 L6 hdh)
      clear hW6 hs6 X6
      go_wp2_with (first
        | (go_at_call 16; refine SU6.o.mono ?_; rintro e w7 ⟨rfl, h7⟩)
        | (go_at_call 11; refine (AWK.o _ (bthen h6 h7 (Nat.le_refl _))).mono ?_; rintro e w8 ⟨rfl, h8, _⟩))
      go_ret
      exact ⟨rfl, HB0.o.trans (h8.mono (by omega))⟩
  · rw [decide_eq_false hf] at FEW
    clear hf hl
    go_enter Try.func3, Try.ntmps3
    go_upto_region 1 with (fail)
    rw [← HW0.o]
    go_wp2_with (first
      | (go_at_call 10; refine (FEW.o _ r0).mono ?_; rintro e w1 ⟨rfl, h1⟩)
      | (go_at_call 11; refine (AWK.o _ h1).mono ?_; rintro e w2 ⟨rfl, h2, _⟩))
    go_ret
    exact ⟨rfl, HB0.o.trans (h2.mono (by omega))⟩
end
end Go.Proofs.Ytlinhckgdfhppaa
