/- A part of the proof: what the functions do, and plain laws. -/
import Derived.Test.YtlinhckgdfhppaaP4
namespace Go.Proofs.Ytlinhckgdfhppaa
open Go Go.RowKit Go.Proofs.YtlinhckgdfhppaaK

theorem litI2 {w : World} {ok : Nat → Prop} {b : Nat} {t : TypeId} (i i' : Int) (h : w.heap[b]? = some (.cells #[.int .i64 i, .int .i64 i'] t (0, 0))) (hok : ok b) : Row (Kn.int .i64) w ok (some ⟨b, 0, none⟩) 2 [i, i'] :=
  litRow (Kn.int .i64) [i, i'] h (by simp) hok fun j x hx => by
    match j, hx with
    | 0, hx =>
      obtain rfl : i = x := by simpa using hx
      refine ⟨_, rfl, fun k u hu => ?_⟩
      match k, hu with
      | 0, hu => exact hu
    | 1, hx =>
      obtain rfl : i' = x := by simpa using hx
      refine ⟨_, rfl, fun k u hu => ?_⟩
      match k, hu with
      | 0, hu => exact hu
    | j + 2, hx => simp at hx
theorem GoalIn.wide {w w' : World} {n0 : Nat} {g : Goal} {A1 A2 A3 : Option Addr} {c1 c2 c3 : Nat} (h : GoalIn w (fun k => n0 ≤ k ∧ k < w.heap.size) g A1 c1 A2 c2 A3 c3) (hb : Below w.heap.size w w') : GoalIn w' (fun k => k < w'.heap.size) g A1 c1 A2 c2 A3 c3 :=
  ⟨(h.n.below hb).mono fun k hk => Nat.lt_of_lt_of_le hk.2 hb.size, h.cn, (h.p.below hb).mono fun k hk => Nat.lt_of_lt_of_le hk.2 hb.size, h.cp, (h.s.below hb).mono fun k hk => Nat.lt_of_lt_of_le hk.2 hb.size, h.cs⟩
theorem row_wide {α : Type} {d : Kn α} {w w' : World} {n0 : Nat} {A : Option Addr} {n : Nat} {xs : List α} (h : Row d w (fun k => n0 ≤ k ∧ k < w.heap.size) A n xs) (hb : Below w.heap.size w w') : Row d w' (fun k => k < w'.heap.size) A n xs :=
  (h.below hb).mono fun k hk => Nat.lt_of_lt_of_le hk.2 hb.size
set_option maxRecDepth 100000 in
set_option maxHeartbeats 2000000 in
theorem awake_any (w : World) : Calls Try.prog 11 #[] w fun e w' => e = .returned (.bool true) ∧ Below w.heap.size w w' := by
  have EX := As.mk fun thr W => example_any thr W
  go_enter Try.func11, Try.ntmps11
  go_upto_region 2 with (go_at_call 35; refine (EX.o _ _).mono ?_; rintro e w1 ⟨A1, A4, rfl, hg1, hl1, hb1⟩)
  go_upto_region 3 with (go_at_call 35; refine (EX.o _ _).mono ?_; rintro e w2 ⟨B1, B4, rfl, hg2, hl2, hb2⟩)
  obtain ⟨W1, hW1⟩ : ∃ W1 : World, W1 = w1.alloc (.cells (goalCells (exG 2) A1 1 none 0 none 0) 26) := ⟨_, rfl⟩
  obtain ⟨W2, hW2⟩ : ∃ W2 : World, W2 = w2.alloc (.cells (goalCells (exG 0) B1 1 none 0 none 0) 26) := ⟨_, rfl⟩
  rw [← hW1] at hg2 hl2 hb2
  rw [← hW2]
  have u1 : Below w1.heap.size w1 W1 := by rw [hW1]; exact (Below.refl _ _).alloc (Nat.le_refl _) _
  have u2 : Below w2.heap.size w2 W2 := by rw [hW2]; exact (Below.refl _ _).alloc (Nat.le_refl _) _
  have s1 : W1.heap.size = w1.heap.size + 1 := by rw [hW1]; simp
  have s2 : W2.heap.size = w2.heap.size + 1 := by rw [hW2]; simp
  have s3 := hb2.size
  have x1 : W1.heap[w1.heap.size]? = some (.cells (goalCells (exG 2) A1 1 none 0 none 0) 26 (0, 0)) := by rw [hW1]; exact heap_alloc_new w1 _
  have x2 : W2.heap[w2.heap.size]? = some (.cells (goalCells (exG 0) B1 1 none 0 none 0) 26 (0, 0)) := by rw [hW2]; exact heap_alloc_new w2 _
  have b12 : Below w1.heap.size w1 W2 := u1.trans ((hb2.mono (by omega)).trans (u2.mono (by omega)))
  have HBW : As (Below w.heap.size w W2) := ⟨hb1.trans (b12.mono hb1.size)⟩
  have x1' : W2.heap[w1.heap.size]? = some (.cells (goalCells (exG 2) A1 1 none 0 none 0) 26 (0, 0)) := (u2.block _ (by omega)).trans ((hb2.block _ (by omega)).trans x1)
  have BX : As (∀ W : World, Below W2.heap.size W2 W → W.cell? ⟨w1.heap.size, 0, none⟩ = some (.slice A1 (exG 2).needs.length 1) ∧ W.cell? ⟨w1.heap.size, 1, none⟩ = some (.int .i64 (exG 2).thr) ∧ W.cell? ⟨w1.heap.size, 2, none⟩ = some (.bool (exG 2).index) ∧ W.cell? ⟨w1.heap.size, 3, none⟩ = some (.slice none (exG 2).pieces.length 0) ∧ W.cell? ⟨w1.heap.size, 4, none⟩ = some (.slice none (exG 2).shares.length 0) ∧
      W.cell? ⟨w2.heap.size, 0, none⟩ = some (.slice B1 (exG 0).needs.length 1) ∧ W.cell? ⟨w2.heap.size, 1, none⟩ = some (.int .i64 (exG 0).thr) ∧ W.cell? ⟨w2.heap.size, 2, none⟩ = some (.bool (exG 0).index) ∧ W.cell? ⟨w2.heap.size, 3, none⟩ = some (.slice none (exG 0).pieces.length 0) ∧ W.cell? ⟨w2.heap.size, 4, none⟩ = some (.slice none (exG 0).shares.length 0)) := ⟨fun W hW => by
    have e1 : W.heap[w1.heap.size]? = _ := (hW.block _ (by omega)).trans x1'
    have e2 : W.heap[w2.heap.size]? = _ := (hW.block _ (by omega)).trans x2
    exact ⟨(cell_of_row _ _ 0 _ _ _ e1).trans rfl, (cell_of_row _ _ 1 _ _ _ e1).trans rfl, (cell_of_row _ _ 2 _ _ _ e1).trans rfl, (cell_of_row _ _ 3 _ _ _ e1).trans rfl, (cell_of_row _ _ 4 _ _ _ e1).trans rfl, (cell_of_row _ _ 0 _ _ _ e2).trans rfl, (cell_of_row _ _ 1 _ _ _ e2).trans rfl, (cell_of_row _ _ 2 _ _ _ e2).trans rfl, (cell_of_row _ _ 3 _ _ _ e2).trans rfl, (cell_of_row _ _ 4 _ _ _ e2).trans rfl⟩⟩
  have G2 : As (∀ W : World, Below W2.heap.size W2 W → GoalIn W (fun k => k < W.heap.size) (exG 2) A1 1 none 0 none 0) := ⟨fun W hW => hg1.wide (bthen b12 hW (Nat.le_refl _))⟩
  have G0 : As (∀ W : World, Below W2.heap.size W2 W → GoalIn W (fun k => k < W.heap.size) (exG 0) B1 1 none 0 none 0) := ⟨fun W hW => hg2.wide (bthen u2 hW (Nat.le_refl _))⟩
  have LL : As (∀ W : World, Below W2.heap.size W2 W → Row kHold W (fun k => k < W.heap.size) A4 exL.length exL) := ⟨fun W hW => row_wide hl1 (bthen b12 hW (Nat.le_refl _))⟩
  have FEW2 : As (∀ W : World, Below W2.heap.size W2 W → Calls Try.prog 12 #[.agg (goalCells (exG 2) A1 1 none 0 none 0), .slice A4 3 3] W fun e w' => ∃ A c, e = .returned (.tuple #[.slice A 2 c, .int .i64 0]) ∧ Row (Kn.int .i64) w' (fun k => k < w'.heap.size) A 2 [1, 2] ∧ Below W2.heap.size W2 w') := ⟨fun W hW => by
    have := fewest_any (exG 2) A1 1 none 0 none 0 A4 3 exL W (G2.o W hW) (LL.o W hW)
    rw [fewEx2, possEx 2 (.inr rfl)] at this
    exact this.mono fun e w' ⟨A, c, he, _, hr, hb⟩ => ⟨A, c, he, hr.mono fun _ hk => hk.2, bthen hW hb (Nat.le_refl _)⟩⟩
  have FEW0 : As (∀ W : World, Below W2.heap.size W2 W → Calls Try.prog 12 #[.agg (goalCells (exG 0) B1 1 none 0 none 0), .slice A4 3 3] W fun e w' => ∃ A c, e = .returned (.tuple #[.slice A 1 c, .int .i64 0]) ∧ Row (Kn.int .i64) w' (fun k => k < w'.heap.size) A 1 [3] ∧ Below W2.heap.size W2 w' ∧ Below W.heap.size W w') := ⟨fun W hW => by
    have := fewest_any (exG 0) B1 1 none 0 none 0 A4 3 exL W (G0.o W hW) (LL.o W hW)
    rw [fewEx0, possEx 0 (.inl rfl)] at this
    exact this.mono fun e w' ⟨A, c, he, _, hr, hb⟩ => ⟨A, c, he, hr.mono fun _ hk => hk.2, bthen hW hb (Nat.le_refl _), hb⟩⟩
  have MIN : As (∀ W : World, Below W2.heap.size W2 W → Calls Try.prog 13 #[.agg (goalCells (exG 0) B1 1 none 0 none 0), .slice A4 3 3] W fun e w' => ∃ A c, e = .returned (.tuple #[.slice A 2 c, .int .i64 0]) ∧ Row kInts w' (fun k => k < w'.heap.size) A 2 [[3], [1, 2]] ∧ Below W2.heap.size W2 w' ∧ Below W.heap.size W w') := ⟨fun W hW => by
    have := minimal_any (exG 0) B1 1 none 0 none 0 A4 3 exL W (G0.o W hW) (LL.o W hW) (fun _ => by decide)
    rw [minEx, possEx 0 (.inl rfl)] at this
    exact this.mono fun e w' ⟨A, c, he, hr, hb⟩ => ⟨A, c, he, hr.mono fun _ hk => hk.2, bthen hW hb (Nat.le_refl _), hb⟩⟩
  have GRE : As (∀ W : World, Below W2.heap.size W2 W → Calls Try.prog 26 #[.agg (goalCells (exG 2) A1 1 none 0 none 0), .slice A4 3 3] W fun e w' => ∃ A c, e = .returned (.tuple #[.slice A 2 c, .int .i64 0]) ∧ Row (Kn.int .i64) w' (fun k => k < w'.heap.size) A 2 [1, 2] ∧ Below W2.heap.size W2 w' ∧ Below W.heap.size W w') := ⟨fun W hW => by
    have := greedy_any (exG 2) A1 1 none 0 none 0 A4 3 exL W (G2.o W hW) (LL.o W hW)
    rw [possEx 2 (.inr rfl)] at this
    exact this.mono fun e w' ⟨A, c, out, he, hgr, _, hr, hb⟩ => by
      obtain rfl := greedyEx out hgr
      exact ⟨A, c, he, hr.mono fun _ hk => hk.2, bthen hW hb (Nat.le_refl _), hb⟩⟩
  have FET : As (∀ W : World, Below W2.heap.size W2 W → Calls Try.prog 19 #[.agg (goalCells (exG 2) A1 1 none 0 none 0), .slice A4 3 3, .slice (some ⟨W.heap.size, 0, none⟩) 2 2] (W.alloc (.cells #[.int .i64 3, .int .i64 1] 3)) fun e w' => ∃ A c, e = .returned (.tuple #[.slice A 2 c, .int .i64 0]) ∧ Row kFetch w' (fun k => k < w'.heap.size) A 2 [(3, (strS, 0)), (3, (strS, 1))] ∧ Below W2.heap.size W2 w' ∧ Below W.heap.size W w') := ⟨fun W hW => by
    have hA : Below W.heap.size W (W.alloc (.cells #[.int .i64 3, .int .i64 1] 3)) := (Below.refl _ _).alloc (Nat.le_refl _) _
    have hA2 := bthen hW hA (Nat.le_refl _)
    have := fetches_any (exG 2) A1 1 none 0 none 0 A4 3 exL (some ⟨W.heap.size, 0, none⟩) 2 2 [3, 1] _ (G2.o _ hA2) (LL.o _ hA2) (litI2 3 1 (heap_alloc_new W _) (by simp)) (by omega) (by decide)
    rw [fetEx, checkOf_yes (validEx 2 (.inr rfl))] at this
    exact this.mono fun e w' ⟨A, c, he, _, hr, hb⟩ => ⟨A, c, he, hr.mono fun _ hk => hk.2, bthen hA2 hb (Nat.le_refl _), bthen hA hb (Nat.le_refl _)⟩⟩
  have r2 : Below W2.heap.size W2 W2 := Below.refl _ _
  obtain ⟨p0, p1, p2, p3, p4, q0, q1, q2, q3, q4⟩ := BX.o W2 r2
  clear hg1 hl1 hg2 hl2 hb1 hb2 hW1 hW2 u1 u2 s1 s3 x1 x2 b12 x1' EX G2 G0 LL
  go_upto_region 7 with (first
    | (go_at_call_of 12 A1; refine (FEW2.o _ r2).mono ?_; rintro e w3 ⟨Aa, ca, rfl, ra, hw3⟩; obtain ⟨p0, p1, p2, p3, p4, q0, q1, q2, q3, q4⟩ := BX.o w3 hw3)
    | (go_at_call_of 12 B1; refine (FEW0.o _ hw3).mono ?_; rintro e w4 ⟨Ab, cb, rfl, rb, hw4, hb4⟩; obtain ⟨p0, p1, p2, p3, p4, q0, q1, q2, q3, q4⟩ := BX.o w4 hw4)
    | (go_at_call 13; refine (MIN.o _ hw4).mono ?_; rintro e w5 ⟨Ac, cc, rfl, rc, hw5, hb5⟩; obtain ⟨p0, p1, p2, p3, p4, q0, q1, q2, q3, q4⟩ := BX.o w5 hw5)
    | (go_at_call 26; refine (GRE.o _ hw5).mono ?_; rintro e w6 ⟨Ad, cd, rfl, rd, hw6, hb6⟩; obtain ⟨p0, p1, p2, p3, p4, q0, q1, q2, q3, q4⟩ := BX.o w6 hw6))
  go_upto_region 8 with (go_at_call 19; refine (FET.o _ hw6).mono ?_; rintro e w7 ⟨Ae, ce, rfl, re, hw7, hb7⟩)
  have RA := As.mk ((((ra.below hb4).below hb5).below hb6).below hb7)
  have RB := As.mk (((rb.below hb5).below hb6).below hb7)
  have RC := As.mk ((rc.below hb6).below hb7)
  have RD := As.mk (rd.below hb7)
  have RE := As.mk re
  have INT : As (∀ (A B : Option Addr) (n c c' : Nat) (xs : List Int) (W : World), Row (Kn.int .i64) W (fun _ => True) A n xs → Row (Kn.int .i64) W (fun _ => True) B n xs → Calls Try.prog 18 #[.slice A n c, .slice B n c'] W fun e w' => e = .returned (.bool true) ∧ Below W.heap.size W w') := ⟨fun A B n c c' xs W h1 h2 => by
    have := ints_any A B n c n c' _ xs xs W h1 h2
    rwa [decide_eq_true rfl] at this⟩
  have I12 : As (∀ (A : Option Addr) (c : Nat), Row (Kn.int .i64) w7 (fun _ => True) A 2 [1, 2] → ∀ W : World, Below w7.heap.size w7 W → Calls Try.prog 18 #[.slice A 2 c, .slice (some ⟨W.heap.size, 0, none⟩) 2 2] (W.alloc (.cells #[.int .i64 1, .int .i64 2] 3)) fun e w' => e = .returned (.bool true) ∧ Below w7.heap.size w7 w') := ⟨fun A c h W hW => by
    have hA := bthen hW ((Below.refl W.heap.size W).alloc (Nat.le_refl _) (.cells #[.int .i64 1, .int .i64 2] 3)) (Nat.le_refl _)
    exact (INT.o A _ 2 c 2 [1, 2] _ (h.below hA) (litI2 1 2 (heap_alloc_new W _) trivial)).mono fun e w' ⟨he, hb⟩ => ⟨he, bthen hA hb (Nat.le_refl _)⟩⟩
  have I3 : As (∀ (A : Option Addr) (c : Nat), Row (Kn.int .i64) w7 (fun _ => True) A 1 [3] → ∀ W : World, Below w7.heap.size w7 W → Calls Try.prog 18 #[.slice A 1 c, .slice (some ⟨W.heap.size, 0, none⟩) 1 1] (W.alloc (.cells #[.int .i64 3] 3)) fun e w' => e = .returned (.bool true) ∧ Below w7.heap.size w7 w') := ⟨fun A c h W hW => by
    have hA := bthen hW ((Below.refl W.heap.size W).alloc (Nat.le_refl _) (.cells #[.int .i64 3] 3)) (Nat.le_refl _)
    exact (INT.o A _ 1 c 1 [3] _ (h.below hA) (litI1 3 (heap_alloc_new W _) trivial)).mono fun e w' ⟨he, hb⟩ => ⟨he, bthen hA hb (Nat.le_refl _)⟩⟩
  obtain ⟨ad, C0, k0, eC, _, cc0, _, rc0⟩ := rowInts RC.o 0 (by omega)
  obtain ⟨ad2, C1, k1, eC2, _, cc1, _, rc1⟩ := rowInts RC.o 1 (by omega)
  subst eC
  obtain rfl : ad = ad2 := by injection eC2
  have hcl := World.block_lt_of_cell? w7 _ cc0
  obtain ⟨ad3, es0, eE, _, hel, hK0, hf0⟩ := RE.o.at_ (0, (ByteArray.empty, 0)) 0 (by omega)
  obtain ⟨ad4, es1, eE2, _, _, hK1, hf1⟩ := RE.o.at_ (0, (ByteArray.empty, 0)) 1 (by omega)
  subst eE
  obtain rfl : ad3 = ad4 := by injection eE2
  obtain ⟨ks0, ks1, rfl, hk0, _⟩ := hK0
  obtain ⟨ls0, ls1, rfl, hk1, _⟩ := hK1
  obtain rfl : ks0 = [.int .i64 3] := hk0
  obtain rfl : ls0 = [.int .i64 3] := hk1
  have f0 : w7.cell? ad3 = some (.int .i64 3) := hf0 0 _ rfl
  have f1 : w7.cell? (ad3.add 3) = some (.int .i64 3) := hf1 0 _ rfl
  have JA := As.mk (I12.o Aa ca (RA.o.mono fun _ _ => trivial))
  have JB := As.mk (I3.o Ab cb (RB.o.mono fun _ _ => trivial))
  have JC0 := As.mk (I3.o C0 k0 (rc0.mono fun _ _ => trivial))
  have JC1 := As.mk (I12.o C1 k1 (rc1.mono fun _ _ => trivial))
  have JD := As.mk (I12.o Ad cd (RD.o.mono fun _ _ => trivial))
  have CE : As (∀ W : World, Below w7.heap.size w7 W → W.cell? ad = some (.slice C0 1 k0) ∧ W.cell? ⟨ad.block, ad.off + 1, none⟩ = some (.slice C1 2 k1) ∧ W.cell? ad3 = some (.int .i64 3) ∧ W.cell? ⟨ad3.block, ad3.off + 3, none⟩ = some (.int .i64 3)) := ⟨fun W hW => ⟨(hW.cell (p := ad) hcl).trans cc0, (hW.cell (p := ad.add 1) (by rw [block_add]; exact hcl)).trans cc1, (hW.cell (p := ad3) hel).trans f0, (hW.cell (p := ad3.add 3) (by rw [block_add]; exact hel)).trans f1⟩⟩
  have v0 : Below w7.heap.size w7 w7 := Below.refl _ _
  clear p0 p1 p2 p3 p4 q0 q1 q2 q3 q4 BX FEW2 FEW0 MIN GRE FET
  go_wp2_with (first
    | (go_at_call_of 18 Aa; refine (JA.o _ v0).mono ?_; rintro e w8 ⟨rfl, v1⟩)
    | (go_at_call_of 18 Ab; refine (JB.o _ v1).mono ?_; rintro e w9 ⟨rfl, v2⟩; obtain ⟨m0, m1, m2, m3⟩ := CE.o w9 v2)
    | (go_at_call_of 18 C0; refine (JC0.o _ v2).mono ?_; rintro e w10 ⟨rfl, v3⟩; obtain ⟨m0, m1, m2, m3⟩ := CE.o w10 v3)
    | (go_at_call_of 18 C1; refine (JC1.o _ v3).mono ?_; rintro e w11 ⟨rfl, v4⟩)
    | (go_at_call_of 18 Ad; refine (JD.o _ v4).mono ?_; rintro e w12 ⟨rfl, v5⟩; obtain ⟨m0, m1, m2, m3⟩ := CE.o w12 v5))
  go_ret
  exact ⟨rfl, bthen (bthen HBW.o hw7 (Nat.le_refl _)) v5 (Nat.le_refl _)⟩
end Go.Proofs.Ytlinhckgdfhppaa
