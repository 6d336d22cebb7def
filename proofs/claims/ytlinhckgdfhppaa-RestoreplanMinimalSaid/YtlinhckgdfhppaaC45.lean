/- A part of the proof: what the functions do, and plain laws. -/
import Derived.Test.YtlinhckgdfhppaaP7
namespace Go.Proofs.Ytlinhckgdfhppaa
open Go Go.RowKit Go.Proofs.YtlinhckgdfhppaaK

section
variable (g : Goal) (A1 : Option Addr) (c1 : Nat) (A2 : Option Addr) (c2 : Nat) (A3 : Option Addr) (c3 : Nat) (A4 : Option Addr) (n c4 : Nat) (list : List Hold) (w : World)
theorem Valid.modest {g : Goal} {list : List Hold} (h : Valid g list) : Modest g := ⟨fun n hn => by have := h.2.2.2.2.2.2.1.1 n hn; omega, ⟨h.2.1, by have := h.2.2.1; omega⟩, h.1⟩
set_option maxRecDepth 100000 in
set_option maxHeartbeats 1000000 in
theorem sufficient_any (hg : GoalIn w (fun k => k < w.heap.size) g A1 c1 A2 c2 A3 c3) (hl : Row kHold w (fun k => k < w.heap.size) A4 n list) (hc4 : n ≤ c4) :
    Calls Try.prog 16 #[.agg (goalCells g A1 c1 A2 c2 A3 c3), .slice A4 n c4] w fun e w' => e = .returned (.int .i64 (possOf g list)) ∧ Below w.heap.size w w' := by
  have HG := As.mk hg
  have HL := As.mk hl
  have CHK : As (∀ W : World, Below w.heap.size w W → Calls Try.prog 20 #[.agg (goalCells g A1 c1 A2 c2 A3 c3), .slice A4 n c4] W fun e w' => e = .returned (.bool (decide (Valid g list))) ∧ Below W.heap.size W w') := ⟨fun W hW => refCheck_any g A1 c1 A2 c2 A3 c3 A4 n c4 list W _ (HG.o.below hW) (HL.o.below hW) hc4⟩
  have HB0 : As (Below w.heap.size w (w.alloc (.cells (goalCells g A1 c1 A2 c2 A3 c3) 38))) := ⟨(Below.refl _ _).alloc (Nat.le_refl _) _⟩
  have BOX : As (∀ W : World, Below (w.alloc (.cells (goalCells g A1 c1 A2 c2 A3 c3) 38)).heap.size (w.alloc (.cells (goalCells g A1 c1 A2 c2 A3 c3) 38)) W → W.cell? ⟨w.heap.size, 0, none⟩ = some (.slice A1 g.needs.length c1) ∧ W.cell? ⟨w.heap.size, 1, none⟩ = some (.int .i64 g.thr) ∧ W.cell? ⟨w.heap.size, 2, none⟩ = some (.bool g.index) ∧ W.cell? ⟨w.heap.size, 3, none⟩ = some (.slice A2 g.pieces.length c2) ∧ W.cell? ⟨w.heap.size, 4, none⟩ = some (.slice A3 g.shares.length c3) ∧ w.heap.size < W.heap.size) := ⟨fun W hW => by
    have e : ∀ i, W.cell? ⟨w.heap.size, i, none⟩ = (goalCells g A1 c1 A2 c2 A3 c3)[i]? := fun i => (hW.cell (p := ⟨w.heap.size, i, none⟩) (by simp)).trans (cell_of_row _ _ i _ _ _ (heap_alloc_new w _))
    exact ⟨e 0, e 1, e 2, e 3, e 4, by have := hW.size; simp at this; omega⟩⟩
  have HPO := As.mk (possOf_eq (g := g) (list := list))
  have hs0 : (w.alloc (.cells (goalCells g A1 c1 A2 c2 A3 c3) 38)).heap.size = w.heap.size + 1 := by simp
  clear hg hl
  generalize possOf g list = r at *
  by_cases hv : Valid g list
  · rw [decide_eq_true hv] at CHK
    rw [if_pos hv] at HPO
    have HM := As.mk hv.modest
    have DEV : As (∀ W, Below w.heap.size w W → Calls Try.prog 40 #[.slice A4 n c4] W fun e w' => ∃ B c, e = .returned (.slice B (devsTo list 12).length c) ∧ Row (Kn.int .i64) w' (fun _ => True) B (devsTo list 12).length (devsTo list 12) ∧ Below W.heap.size W w') :=
      ⟨fun W hW => (devices_any A4 n c4 _ list W (HL.o.below hW)).mono fun e w' ⟨v, he, ho, hb⟩ => by
        obtain ⟨B, c, rfl, hc, hr⟩ := ho.shape
        exact ⟨B, c, he, hr.mono fun _ _ => trivial, hb⟩⟩
    have SUM : As (∀ W, Below w.heap.size w W → ∀ (B : Option Addr) (m c : Nat) (s : List Int), Row (Kn.int .i64) W (fun _ => True) B m s → Calls Try.prog 27 #[.agg (goalCells g A1 c1 A2 c2 A3 c3), .slice A4 n c4, .slice B m c] W fun e w' => e = .returned (.int .i64 (lackSum g list s)) ∧ Below W.heap.size W w') :=
      ⟨fun W hW B m c s hr => sum_any g A1 c1 A2 c2 A3 c3 A4 n c4 list B m c s (fun _ => True) W ⟨(HG.o.below hW).n.mono fun _ _ => trivial, HG.o.cn, (HG.o.below hW).p.mono fun _ _ => trivial, HG.o.cp, (HG.o.below hW).s.mono fun _ _ => trivial, HG.o.cs⟩ ((HL.o.below hW).mono fun _ _ => trivial) hr HM.o⟩
    clear hv
    generalize devsTo list 12 = D at *
    by_cases hp : 0 < lackSum g list D
    · rw [if_pos hp] at HPO
      have d0 : decide (0 < lackSum g list D) = true := decide_eq_true hp
      go_enter Try.func16, Try.ntmps16
      go_wp2_with (go_at_call 20; refine (CHK.o _ HB0.o).mono ?_; rintro e w1 ⟨rfl, hb1⟩; obtain ⟨a0, a1, a2, a3, a4, al⟩ := BOX.o w1 hb1)
      have hB1 : Below w.heap.size w w1 := bthen HB0.o hb1 (by omega)
      go_region_with (first
        | (go_at_call 40; refine (DEV.o _ hB1.drew).mono ?_; rintro e w2 ⟨B, c, rfl, hr2, hb2⟩; obtain ⟨z0, z1, z2, z3, z4, zl⟩ := BOX.o w2 (bthen hb1.drew hb2 (Nat.le_refl _)))
        | (go_at_call 27; refine (SUM.o _ (bthen hB1.drew hb2 (Nat.le_refl _)) _ _ _ _ hr2).mono ?_; rintro e w3 ⟨rfl, hb3⟩))
      all_goals
        go_wp2
        go_ret
        exact ⟨by rw [HPO.o]; rfl, bthen (bthen hB1.drew hb2 (Nat.le_refl _)) hb3 (Nat.le_refl _)⟩
    · rw [if_neg hp] at HPO
      have d0 : decide (0 < lackSum g list D) = false := decide_eq_false hp
      go_enter Try.func16, Try.ntmps16
      go_wp2_with (go_at_call 20; refine (CHK.o _ HB0.o).mono ?_; rintro e w1 ⟨rfl, hb1⟩; obtain ⟨a0, a1, a2, a3, a4, al⟩ := BOX.o w1 hb1)
      have hB1 : Below w.heap.size w w1 := bthen HB0.o hb1 (by omega)
      go_region_with (first
        | (go_at_call 40; refine (DEV.o _ hB1.drew).mono ?_; rintro e w2 ⟨B, c, rfl, hr2, hb2⟩; obtain ⟨z0, z1, z2, z3, z4, zl⟩ := BOX.o w2 (bthen hb1.drew hb2 (Nat.le_refl _)))
        | (go_at_call 27; refine (SUM.o _ (bthen hB1.drew hb2 (Nat.le_refl _)) _ _ _ _ hr2).mono ?_; rintro e w3 ⟨rfl, hb3⟩))
      all_goals
        go_wp2
        go_ret
        exact ⟨by rw [HPO.o]; rfl, bthen (bthen hB1.drew hb2 (Nat.le_refl _)) hb3 (Nat.le_refl _)⟩
  · rw [decide_eq_false hv] at CHK
    rw [if_neg hv] at HPO
    clear hv
    go_enter Try.func16, Try.ntmps16
    go_wp2_with (go_at_call 20; refine (CHK.o _ HB0.o).mono ?_; rintro e w1 ⟨rfl, hb1⟩)
    go_ret
    exact ⟨by rw [HPO.o]; rfl, bthen HB0.o hb1 (by omega)⟩
end
end Go.Proofs.Ytlinhckgdfhppaa
