/- Kinds, second part: what the walk wants of them: cells in the walk's own spelling, equality of structs, a slice of integers. -/
import Derived.Test.YtlinhckgdfhppaaK
import Derived.Laws.StructEq
import Derived.Deep.QuietTactic
import Derived.BigQuiet
import Derived.Deep.LoopGhost
import Derived.Deep.DeepCutAuto
import Derived.Deep.CutBlock
import Derived.Deep.RegionWith
import Derived.Deep.RegionHeld3
import Derived.StillTailTactics
set_option linter.unusedSimpArgs false
set_option linter.unusedVariables false
namespace Go.Proofs.YtlinhckgdfhppaaK
open Go Go.RowKit

/-- A fact that the walk does not look into. -/
structure As (p : Prop) : Prop where mk :: (o : p)

/-- A Bool says whether p holds. -/
def Bif (b : Bool) (p : Prop) : Prop := b = true ↔ p
theorem Bif.of {p : Prop} [Decidable p] : Bif (decide p) p := decide_eq_true_iff
theorem Bif.eq {b : Bool} {p : Prop} [Decidable p] (h : Bif b p) : b = decide p := by
  cases b with
  | true => exact (decide_eq_true (h.1 rfl)).symm
  | false => exact (decide_eq_false fun hp => by have := h.2 hp; cases this).symm
theorem Bif.yes {p : Prop} (h : Bif true p) : p := h.1 rfl
theorem Bif.no {p : Prop} (h : Bif false p) : ¬ p := fun hp => by have := h.2 hp; cases this
theorem Bif.t {p : Prop} (h : p) : Bif true p := ⟨fun _ => h, fun _ => rfl⟩
theorem Bif.f {p : Prop} (h : ¬ p) : Bif false p := ⟨fun e => by (cases e), fun hp => absurd hp h⟩

/-- The address of a field, as the walk spells it. -/
theorem field_addr (a : Addr) (i j : Nat) (hj : j ≠ 0) : (⟨(a.add i).block, (a.add i).off + j, none⟩ : Addr) = a.add (i + j) := by
  unfold Addr.add
  by_cases hi : i = 0
  · simp [hi, hj]
  · simp [hi, Nat.add_assoc]

/-- An element of a list of integers; not to be opened by simp. -/
def ig (xs : List Int) (k : Nat) : Int := xs.getD k 0
theorem ig_eq (xs : List Int) (k : Nat) (h : k < xs.length) : ig xs k = xs[k] := by simp [ig, List.getD_eq_getElem?_getD, List.getElem?_eq_getElem h]
theorem take_ig (xs : List Int) (k : Nat) (h : k < xs.length) : xs.take (k + 1) = xs.take k ++ [ig xs k] := by rw [List.take_succ_eq_append_getElem h, ig_eq xs k h]
theorem ig_mem (xs : List Int) (k : Nat) (h : k < xs.length) : ig xs k ∈ xs := by rw [ig_eq xs k h]; exact List.getElem_mem h

theorem Row.int_at {kd : IntKind} {w : World} {ok : Nat → Prop} {A : Option Addr} {n : Nat} {xs : List Int} (h : Row (Kn.int kd) w ok A n xs) (k : Nat) (hk : k < n) :
    ∃ ad, A = some ad ∧ ok ad.block ∧ ad.block < w.heap.size ∧ w.cell? (ad.add k) = some (.int kd (ig xs k)) := by
  obtain ⟨ad, cs, e, ho, hlt, hK, hc⟩ := h.at_ 0 k hk
  obtain rfl : cs = [Value.int kd (ig xs k)] := hK
  exact ⟨ad, e, ho, hlt, by simpa [Kn.int, Kn.scalar] using hc 0 _ rfl⟩

section
variable {P : Program} {d : Nat} {xs ys : Array Value} {f : Field} {fs : List Field} {a b : Value} {r s : Bool} {w : World}
theorem eqf_last (hn : (f.name == "_") = false) (ha : (part f.type xs f.offset).run P w = .ok a w) (hb : (part f.type ys f.offset).run P w = .ok b w) (he : (Op.equalIn d f.type a b).run P w = .ok r w) : (Op.eqFields d xs ys [f]).run P w = .ok r w := by
  have hn' : f.name ≠ "_" := by simpa using hn
  simp only [Op.eqFields, if_pos hn', Sem.run_bind, ha, hb, he, Result.andThen_ok]
  cases r <;> simp
theorem eqf_cons (hn : (f.name == "_") = false) (ha : (part f.type xs f.offset).run P w = .ok a w) (hb : (part f.type ys f.offset).run P w = .ok b w) (he : (Op.equalIn d f.type a b).run P w = .ok r w) (hr : (Op.eqFields d xs ys fs).run P w = .ok s w) : (Op.eqFields d xs ys (f :: fs)).run P w = .ok (r && s) w := by
  have hn' : f.name ≠ "_" := by simpa using hn
  rw [Op.eqFields]
  simp only [if_pos hn', Sem.run_bind, ha, hb, he, Result.andThen_ok]
  cases r
  · simp
  · simpa using hr
theorem eqA_of {t : TypeId} {fs : Array Field} (hu : P.underlying t = some (.struct fs)) (hp : P.stoodInHeld t = false) (h : (Op.eqFields d xs ys fs.toList).run P w = .ok r w) : (Op.equalIn (d + 1) t (.agg xs) (.agg ys)).run P w = .ok r w := by
  have hf : P.fieldsOf t = fs := by simp [Program.fieldsOf, hu]
  rw [run_equalIn_struct (P := P) w d t xs ys (by rw [hf]; exact hu) hp, hf]
  exact h
end
theorem toList_inj {a b : ByteArray} : a.toList = b.toList ↔ a = b := by
  rw [ByteArray.toList_eq, ByteArray.toList_eq]
  obtain ⟨⟨x⟩⟩ := a
  obtain ⟨⟨y⟩⟩ := b
  constructor
  · rintro h
    have h' : x = y := h
    rw [h']
  · rintro h
    rw [h]
theorem bthen {B : Nat} {w w1 w2 : World} (h : Below B w w1) (k : Below w1.heap.size w1 w2) (hB : B ≤ w.heap.size) : Below B w w2 :=
  h.trans ⟨k.os, k.tape, k.output, k.size, fun i hi => k.block i (Nat.lt_of_lt_of_le hi (Nat.le_trans hB h.size))⟩
instance : DecidableEq ByteArray := fun a b => decidable_of_iff (a.data = b.data) (by
  cases a
  cases b
  simp)
instance : LawfulBEq ByteArray where
  eq_of_beq {a b} h := by
    rw [beq_toListBytes, beq_iff_eq] at h
    exact toList_inj.1 h
  rfl {a} := by rw [beq_toListBytes]; exact beq_self_eq_true _
theorem below_drewN {B : Nat} {a w : World} (h : Below B a w) (n : Nat) : Below B a (w.drewN n) := ⟨h.os, h.tape, h.output, h.size, h.block⟩
end Go.Proofs.YtlinhckgdfhppaaK
