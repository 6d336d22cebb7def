/- Rows of cells of one scalar, made and stored into. -/
import Derived.Test.YtlinhckgdfhppaaK7
set_option linter.unusedSimpArgs false
set_option linter.unusedVariables false
namespace Go.Proofs.YtlinhckgdfhppaaK
open Go Go.RowKit
theorem made_scalar (z : Value) (hz : z.cells = #[z]) (n : Nat) : (madeCells z.cells (n * 1)).toList = (List.replicate n ()).map fun _ => z := by
  rw [hz, Nat.mul_one]
  unfold madeCells
  rw [Array.toList_map]
  apply List.ext_getElem
  · simp
  · intro i h1 h2
    simp [Nat.mod_one]
/-- The first k of n are f's, the rest are z. -/
def fillTo {α : Type} (f : Nat → α) (z : α) (n k : Nat) : List α := (List.range n).map fun i => if i < k then f i else z
theorem fillTo_len {α : Type} (f : Nat → α) (z : α) (n k : Nat) : (fillTo f z n k).length = n := by simp [fillTo]
theorem fillTo_zero {α : Type} (f : Nat → α) (z : α) (n : Nat) : fillTo f z n 0 = (List.replicate n ()).map fun _ => z := by
  apply List.ext_getElem
  · simp [fillTo]
  · intro i h1 h2
    simp [fillTo]
theorem fillTo_all {α : Type} (f : Nat → α) (z : α) (n : Nat) : fillTo f z n n = (List.range n).map f := by
  unfold fillTo
  exact List.map_congr_left fun i hi => if_pos (List.mem_range.1 hi)
theorem fillTo_succ {α : Type} (f : Nat → α) (z : α) (n k : Nat) (h : k < n) : (fillTo f z n k).set k (f k) = fillTo f z n (k + 1) := by
  apply List.ext_getElem
  · simp [fillTo]
  · intro i h1 h2
    rw [List.getElem_set]
    by_cases e : k = i
    · subst e
      simp [fillTo]
    · rw [if_neg e]
      simp only [fillTo, List.getElem_map, List.getElem_range]
      by_cases h3 : i < k
      · rw [if_pos h3, if_pos (by omega)]
      · rw [if_neg h3, if_neg (by omega)]
theorem fillTo_get {α : Type} (f : Nat → α) (z : α) (n k i : Nat) (h : i < n) : (fillTo f z n k)[i]? = some (if i < k then f i else z) := by
  simp [fillTo, h]
theorem wpList_index_run {P : Program} {w : World} {ops : Array Oper} {rest : List Oper} {o : Oper} {a : Act} {Q : Exit → Act → World → Prop}
    (hg : o.guard = none) (x i : Operand) (t : TypeId) (hop : o.op = Op.index t x i) (xv iv v : Value) (hx : a.eval x = xv) (hi : a.eval i = iv) (hrun : (Instr.index t xv iv).run P w = .ok v w)
    (hK : wpList P ops Q rest (a.put o.dst v) w) : wpList P ops Q (o :: rest) a w := by
  refine wpList_plain hg fun K' hK' => ?_
  unfold Oper.wp
  simp [execOp, hop, hx, hi, hrun, Result.andThen]
  exact hK' _ _ hK
end Go.Proofs.YtlinhckgdfhppaaK
