/- Kinds: what the cells of a value say of plain data, and rows of such cells; a library of this session's own. -/
import Derived.WalkKit
import Derived.WalkSpells
import Derived.WalkLawsBesides
import Derived.Maps.AppendAt
import Derived.Deep.Draws
import Derived.Deep.AppendLies
import Derived.Outline
set_option linter.unusedSimpArgs false
set_option linter.unusedVariables false
namespace Go.Proofs.YtlinhckgdfhppaaK
open Go Go.RowKit

/-- A kind: how a datum lies in cells; 'ok' tells which blocks the reading may use beyond the cells themselves. -/
structure Kn (α : Type) where
  sz : Nat
  K : World → (Nat → Prop) → α → List Value → Prop
  len : ∀ {w ok x cs}, K w ok x cs → cs.length = sz
  one : ∀ {w ok x cs}, K w ok x cs → ∀ u ∈ cs, u.oneCell' = true
  mono : ∀ {w} {ok ok' : Nat → Prop} {x cs}, (∀ k, ok k → ok' k) → K w ok x cs → K w ok' x cs
  bound : ∀ {w : World} {ok x cs}, K w ok x cs → K w (fun k => ok k ∧ k < w.heap.size) x cs
  move : ∀ {w w' : World} {ok : Nat → Prop} {x cs}, (∀ k, ok k → w'.heap[k]? = w.heap[k]?) → K w ok x cs → K w' ok x cs

/-- The slice with the address A and the length n reads as xs. -/
def Row {α : Type} (d : Kn α) (w : World) (ok : Nat → Prop) (A : Option Addr) (n : Nat) (xs : List α) : Prop :=
  xs.length = n ∧ n ≤ 9223372036854775807 ∧
    (0 < n → ∃ ad, A = some ad ∧ ok ad.block ∧ ad.block < w.heap.size ∧
      ∀ (j : Nat) (x : α), xs[j]? = some x → ∃ cs, d.K w ok x cs ∧ ∀ (i : Nat) (u : Value), cs[i]? = some u → w.cell? (ad.add (j * d.sz + i)) = some u)

theorem block_add (a : Addr) (n : Nat) : (a.add n).block = a.block := by unfold Addr.add; split <;> rfl
theorem add_add' (a : Addr) (i j : Nat) : (a.add i).add j = a.add (i + j) := by
  unfold Addr.add
  by_cases hi : i = 0 <;> by_cases hj : j = 0 <;> simp [hi, hj, Nat.add_assoc]
theorem add_lit0 (g j : Nat) : (⟨g, 0, none⟩ : Addr).add j = ⟨g, j, none⟩ := by unfold Addr.add; split <;> simp_all

section
variable {α : Type} {d : Kn α} {w w' : World} {ok ok' : Nat → Prop} {A : Option Addr} {n : Nat} {xs : List α}
theorem Row.nil (d : Kn α) (w : World) (ok : Nat → Prop) (A : Option Addr) : Row d w ok A 0 [] := ⟨rfl, by omega, fun h => absurd h (by omega)⟩
theorem Row.mono (h : Row d w ok A n xs) (hm : ∀ k, ok k → ok' k) : Row d w ok' A n xs :=
  ⟨h.1, h.2.1, fun hn => by
    obtain ⟨ad, e, ho, hlt, hc⟩ := h.2.2 hn
    refine ⟨ad, e, hm _ ho, hlt, fun j x hx => ?_⟩
    obtain ⟨cs, hk, hcell⟩ := hc j x hx
    exact ⟨cs, d.mono hm hk, hcell⟩⟩
theorem Row.bound (h : Row d w ok A n xs) : Row d w (fun k => ok k ∧ k < w.heap.size) A n xs :=
  ⟨h.1, h.2.1, fun hn => by
    obtain ⟨ad, e, ho, hlt, hc⟩ := h.2.2 hn
    refine ⟨ad, e, ⟨ho, hlt⟩, hlt, fun j x hx => ?_⟩
    obtain ⟨cs, hk, hcell⟩ := hc j x hx
    exact ⟨cs, d.bound hk, hcell⟩⟩
theorem lt_of_heap {w w' : World} {k : Nat} (h : w'.heap[k]? = w.heap[k]?) (hk : k < w.heap.size) : k < w'.heap.size := by
  rw [Array.getElem?_eq_getElem hk] at h
  exact (Array.getElem?_eq_some_iff.1 h).1
theorem Row.move (h : Row d w ok A n xs) (hm : ∀ k, ok k → w'.heap[k]? = w.heap[k]?) : Row d w' ok A n xs :=
  ⟨h.1, h.2.1, fun hn => by
    obtain ⟨ad, e, ho, hlt, hc⟩ := h.2.2 hn
    refine ⟨ad, e, ho, lt_of_heap (hm _ ho) hlt, fun j x hx => ?_⟩
    obtain ⟨cs, hk, hcell⟩ := hc j x hx
    refine ⟨cs, d.move hm hk, fun i u hu => ?_⟩
    exact (World.cell?_of_block (by rw [block_add]; exact hm _ ho)).trans (hcell i u hu)⟩
/-- What lies below the heap's end stays readable. -/
theorem Row.step (h : Row d w ok A n xs) (hm : ∀ k, ok k → k < w.heap.size → w'.heap[k]? = w.heap[k]?) : Row d w' ok A n xs :=
  (h.bound.move fun k hk => hm k hk.1 hk.2).mono fun _ hk => hk.1
theorem Row.below (h : Row d w ok A n xs) (hb : Below w.heap.size w w') : Row d w' ok A n xs := h.step fun k _ hk => hb.block k hk
theorem Kn.step {x : α} {cs : List Value} (h : d.K w ok x cs) (hm : ∀ k, ok k → k < w.heap.size → w'.heap[k]? = w.heap[k]?) : d.K w' ok x cs :=
  d.mono (fun _ hk => hk.1) (d.move (fun k hk => hm k hk.1 hk.2) (d.bound h))
theorem Kn.below {x : α} {cs : List Value} (h : d.K w ok x cs) (hb : Below w.heap.size w w') : d.K w' ok x cs := Kn.step h fun k _ hk => hb.block k hk
theorem Row.at_ (h : Row d w ok A n xs) (z : α) (k : Nat) (hk : k < n) :
    ∃ ad cs, A = some ad ∧ ok ad.block ∧ ad.block < w.heap.size ∧ d.K w ok (xs.getD k z) cs ∧ ∀ (i : Nat) (u : Value), cs[i]? = some u → w.cell? (ad.add (k * d.sz + i)) = some u := by
  obtain ⟨ad, e, ho, hlt, hc⟩ := h.2.2 (by omega)
  have hl : k < xs.length := by have := h.1; omega
  obtain ⟨cs, hk, hcell⟩ := hc k (xs.getD k z) (by simp [List.getD_eq_getElem?_getD, List.getElem?_eq_getElem hl])
  exact ⟨ad, cs, e, ho, hlt, hk, hcell⟩
theorem Row.take (h : Row d w ok A n xs) (k : Nat) (hk : k ≤ n) : Row d w ok A k (xs.take k) :=
  ⟨by rw [List.length_take, h.1]; omega, by have := h.2.1; omega, fun hp => by
    obtain ⟨ad, e, ho, hlt, hc⟩ := h.2.2 (by omega)
    refine ⟨ad, e, ho, hlt, fun j x hx => hc j x ?_⟩
    rw [List.getElem?_take] at hx
    split at hx
    · exact hx
    · cases hx⟩
theorem Row.drop (h : Row d w ok A n xs) (k c : Nat) (hk : k ≤ n) (hc : n ≤ c) : Row d w ok (if c = k then A else A.map (·.add (k * d.sz))) (n - k) (xs.drop k) :=
  ⟨by rw [List.length_drop, h.1], by have := h.2.1; omega, fun hp => by
    obtain ⟨ad, rfl, ho, hlt, hcell⟩ := h.2.2 (by omega)
    rw [if_neg (by omega)]
    refine ⟨ad.add (k * d.sz), rfl, by rw [block_add]; exact ho, by rw [block_add]; exact hlt, fun j x hx => ?_⟩
    rw [List.getElem?_drop] at hx
    obtain ⟨cs, hk, hcs⟩ := hcell _ x hx
    refine ⟨cs, hk, fun i u hu => ?_⟩
    rw [add_add', show k * d.sz + (j * d.sz + i) = (k + j) * d.sz + i by rw [Nat.add_mul]; omega]
    exact hcs i u hu⟩
end

/-! ### the kinds -/
def Kn.scalar {α : Type} (enc : α → Value) (h1 : ∀ x, (enc x).oneCell' = true) : Kn α where
  sz := 1
  K := fun _ _ x cs => cs = [enc x]
  len := fun h => by rw [h]; rfl
  one := fun h u hu => by
    rw [h] at hu
    rw [List.mem_singleton.1 hu]
    exact h1 _
  mono := fun _ h => h
  bound := fun h => h
  move := fun _ h => h
def Kn.int (k : IntKind) : Kn Int := Kn.scalar (Value.int k) fun _ => rfl
def Kn.bool : Kn Bool := Kn.scalar Value.bool fun _ => rfl
def Kn.str : Kn ByteArray := Kn.scalar Value.string fun _ => rfl
def Kn.slice {α : Type} (d : Kn α) : Kn (List α) where
  sz := 1
  K := fun w ok xs cs => ∃ A c, cs = [.slice A xs.length c] ∧ xs.length ≤ c ∧ Row d w ok A xs.length xs
  len := by
    rintro w ok x cs ⟨A, c, rfl, _⟩
    rfl
  one := by
    rintro w ok x cs ⟨A, c, rfl, _⟩ u hu
    rw [List.mem_singleton.1 hu]
    rfl
  mono := by
    rintro w ok ok' x cs hm ⟨A, c, rfl, hl, hr⟩
    exact ⟨A, c, rfl, hl, hr.mono hm⟩
  bound := by
    rintro w ok x cs ⟨A, c, rfl, hl, hr⟩
    exact ⟨A, c, rfl, hl, hr.bound⟩
  move := by
    rintro w w' ok x cs hm ⟨A, c, rfl, hl, hr⟩
    exact ⟨A, c, rfl, hl, hr.move hm⟩
def Kn.pair {α β : Type} (a : Kn α) (b : Kn β) : Kn (α × β) where
  sz := a.sz + b.sz
  K := fun w ok x cs => ∃ c0 c1, cs = c0 ++ c1 ∧ a.K w ok x.1 c0 ∧ b.K w ok x.2 c1
  len := by
    rintro w ok x cs ⟨c0, c1, rfl, h0, h1⟩
    rw [List.length_append, a.len h0, b.len h1]
  one := by
    rintro w ok x cs ⟨c0, c1, rfl, h0, h1⟩ u hu
    rcases List.mem_append.1 hu with hu | hu
    · exact a.one h0 u hu
    · exact b.one h1 u hu
  mono := by
    rintro w ok ok' x cs hm ⟨c0, c1, rfl, h0, h1⟩
    exact ⟨c0, c1, rfl, a.mono hm h0, b.mono hm h1⟩
  bound := by
    rintro w ok x cs ⟨c0, c1, rfl, h0, h1⟩
    exact ⟨c0, c1, rfl, a.bound h0, b.bound h1⟩
  move := by
    rintro w w' ok x cs hm ⟨c0, c1, rfl, h0, h1⟩
    exact ⟨c0, c1, rfl, a.move hm h0, b.move hm h1⟩
def Kn.iso {α β : Type} (d : Kn α) (f : β → α) : Kn β where
  sz := d.sz
  K := fun w ok x cs => d.K w ok (f x) cs
  len := d.len
  one := d.one
  mono := d.mono
  bound := d.bound
  move := d.move

/-! ### rows of the call's own -/
/-- The elements of a row of cells. -/
def Elems {α : Type} (d : Kn α) (w : World) (ok : Nat → Prop) (xs : List α) (cs : List Value) : Prop :=
  cs.length = xs.length * d.sz ∧ ∀ (j : Nat) (x : α), xs[j]? = some x → d.K w ok x ((cs.drop (j * d.sz)).take d.sz)
theorem Elems.nil {α : Type} (d : Kn α) (w : World) (ok : Nat → Prop) : Elems d w ok [] [] := ⟨by simp, fun j x h => by simp at h⟩
theorem Elems.imp {α : Type} {d : Kn α} {w w' : World} {ok ok' : Nat → Prop} {xs : List α} {cs : List Value} (h : Elems d w ok xs cs) (hi : ∀ x cs, d.K w ok x cs → d.K w' ok' x cs) : Elems d w' ok' xs cs :=
  ⟨h.1, fun j x hx => hi _ _ (h.2 j x hx)⟩
theorem Elems.append {α : Type} {d : Kn α} {w : World} {ok : Nat → Prop} {xs ys : List α} {cs ds : List Value} (h : Elems d w ok xs cs) (k : Elems d w ok ys ds) : Elems d w ok (xs ++ ys) (cs ++ ds) := by
  refine ⟨by rw [List.length_append, h.1, k.1, List.length_append, Nat.add_mul], fun j x hx => ?_⟩
  rcases Nat.lt_or_ge j xs.length with hj | hj
  · rw [List.getElem?_append_left hj] at hx
    have h1 : j * d.sz + d.sz ≤ cs.length := by rw [h.1, ← Nat.succ_mul]; exact Nat.mul_le_mul_right _ hj
    have h2 := h.2 j x hx
    rw [List.drop_append_of_le_length (by omega), List.take_append_of_le_length (by rw [List.length_drop]; omega)]
    exact h2
  · rw [List.getElem?_append_right hj] at hx
    have h2 := k.2 _ x hx
    rw [List.drop_append, List.drop_eq_nil_of_le (by rw [h.1]; exact Nat.mul_le_mul_right _ hj), List.nil_append, h.1, ← Nat.sub_mul]
    exact h2
theorem Elems.single {α : Type} {d : Kn α} {w : World} {ok : Nat → Prop} {x : α} {cs : List Value} (h : d.K w ok x cs) : Elems d w ok [x] cs := by
  refine ⟨by rw [d.len h]; simp, fun j y hy => ?_⟩
  match j, hy with
  | 0, hy =>
    obtain rfl : x = y := by simpa using hy
    rw [Nat.zero_mul, List.drop_zero, ← d.len h, List.take_length]
    exact h
  | j + 1, hy => simp at hy

theorem Elems.one {α : Type} {d : Kn α} {w : World} {ok : Nat → Prop} {xs : List α} {cs : List Value} (h : Elems d w ok xs cs) : ∀ u ∈ cs, u.oneCell' = true := by
  intro u hu
  obtain ⟨i, hi⟩ := List.mem_iff_getElem?.1 hu
  have hil : i < xs.length * d.sz := by have := (List.getElem?_eq_some_iff.1 hi).1; rw [← h.1]; exact this
  have hs : 0 < d.sz := Nat.pos_of_ne_zero (fun e => by rw [e] at hil; simp at hil)
  have hj : i / d.sz < xs.length := (Nat.div_lt_iff_lt_mul hs).2 hil
  have hk := h.2 (i / d.sz) _ (List.getElem?_eq_getElem hj)
  refine d.one hk u (List.mem_iff_getElem?.2 ⟨i % d.sz, ?_⟩)
  rw [List.getElem?_take, if_pos (Nat.mod_lt _ hs), List.getElem?_drop, Nat.mul_comm, Nat.div_add_mod]
  exact hi

/-- A row of the call's own, from block base on, that reads as xs. e: the element type's number; ok: where the elements' own memory may lie. -/
def OwnK {α : Type} (ok : Nat → Prop) (d : Kn α) (e : TypeId) (w : World) (base : Nat) (v : Value) (xs : List α) : Prop :=
  ∃ cs, w.ownsRow base e d.sz v xs.length cs ∧ Elems d w (fun k => ok k ∧ v.ownBlock ≠ some k) xs cs
abbrev Own {α : Type} (d : Kn α) (e : TypeId) (w : World) (base : Nat) (v : Value) (xs : List α) : Prop := OwnK (fun _ => True) d e w base v xs

section
variable {α : Type} {ok : Nat → Prop} {d : Kn α} {e : TypeId} {w w' : World} {base : Nat} {v : Value} {xs : List α}
theorem OwnK.nil (ok : Nat → Prop) (d : Kn α) (e : TypeId) (w : World) (base : Nat) : OwnK ok d e w base (.slice none 0 0) [] := ⟨[], World.ownsRow_nil _ _ _ _, Elems.nil _ _ _⟩
theorem Own.nil (d : Kn α) (e : TypeId) (w : World) (base : Nat) : Own d e w base (.slice none 0 0) [] := OwnK.nil _ _ _ _ _
theorem OwnK.lt (h : OwnK ok d e w base v xs) (k : Nat) (hk : v.ownBlock = some k) : base ≤ k ∧ k < w.heap.size := by
  obtain ⟨cs, ho, _⟩ := h
  exact ho.lt k hk
theorem OwnK.imp {ok' : Nat → Prop} (h : OwnK ok d e w base v xs) (hi : ∀ k, ok k → k < w.heap.size → ok' k) : OwnK ok' d e w base v xs := by
  obtain ⟨cs, ho, hr⟩ := h
  exact ⟨cs, ho, hr.imp fun x cs hk => d.mono (fun k hk => ⟨hi k hk.1.1 hk.2, hk.1.2⟩) (d.bound hk)⟩
theorem OwnK.below (h : OwnK ok d e w base v xs) (hb : Below w.heap.size w w') : OwnK ok d e w' base v xs := by
  obtain ⟨cs, ho, hr⟩ := h
  exact ⟨cs, ho.kept (row := none) ⟨hb.os, hb.tape, hb.output, hb.size, fun k hk _ => hb.block k hk⟩ (by cases v.ownBlock <;> simp), hr.imp fun x cs hk => Kn.below hk hb⟩
/-- Another block is written: neither the row's nor one that an element reads. -/
theorem OwnK.grown (h : OwnK ok d e w base v xs) {row : Option Nat} (hg : w.grownBy w' row) (hne : v.ownBlock = none ∨ v.ownBlock ≠ row) (hin : ∀ k, ok k → some k ≠ row) : OwnK ok d e w' base v xs := by
  obtain ⟨cs, ho, hr⟩ := h
  exact ⟨cs, ho.kept hg hne, hr.imp fun x cs hk => Kn.step hk fun k hk hlt => hg.block k hlt (hin k hk.1)⟩
theorem OwnK.lower {b' : Nat} (h : OwnK ok d e w base v xs) (hb : b' ≤ base) : OwnK ok d e w b' v xs := by
  obtain ⟨cs, ⟨h1, h2⟩, hr⟩ := h
  refine ⟨cs, ⟨h1, ?_⟩, hr⟩
  rcases h2 with h2 | ⟨g, cap, cur, r1, r2, r3⟩
  · exact .inl h2
  · exact .inr ⟨g, cap, cur, r1, by omega, r3⟩
/-- Where it lies, and what its elements read. -/
theorem OwnK.reads (h : OwnK ok d e w base v xs) : ∃ A c, v = .slice A xs.length c ∧ xs.length ≤ c ∧ Row d w (fun k => (base ≤ k ∨ ok k) ∧ k < w.heap.size) A xs.length xs := by
  obtain ⟨cs, ho, hr⟩ := h
  rcases ho.2 with ⟨rfl, hn⟩ | ⟨g, cap, cur, rfl, hb, hg, hnc, hcm, hcs, htake⟩
  · obtain rfl : xs = [] := List.eq_nil_of_length_eq_zero hn
    exact ⟨none, 0, rfl, Nat.le_refl _, Row.nil _ _ _ _⟩
  · have hlt : g < w.heap.size := (Array.getElem?_eq_some_iff.1 hg).1
    refine ⟨_, cap, rfl, hnc, rfl, by simp only [maxLen] at hcm; omega, fun hn => ⟨_, rfl, ⟨.inl hb, hlt⟩, hlt, fun j x hx => ⟨_, d.mono (fun k hk => ⟨.inr hk.1.1, hk.2⟩) (d.bound (hr.2 j x hx)), fun i u hu => ?_⟩⟩⟩
    rw [List.getElem?_take] at hu
    split at hu
    · rw [List.getElem?_drop] at hu
      exact ho.cells (g := g) rfl _ u hu
    · cases hu
theorem OwnK.shape (h : OwnK ok d e w base v xs) : ∃ A c, v = .slice A xs.length c ∧ xs.length ≤ c ∧ Row d w (fun k => k < w.heap.size) A xs.length xs := by
  obtain ⟨A, c, e, hc, hr⟩ := h.reads
  exact ⟨A, c, e, hc, hr.mono fun _ hk => hk.2⟩
end
end Go.Proofs.YtlinhckgdfhppaaK
