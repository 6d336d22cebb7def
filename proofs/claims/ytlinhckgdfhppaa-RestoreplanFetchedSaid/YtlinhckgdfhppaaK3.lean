/- Kinds, third part: append, literals and stores on rows of the call's own. -/
import Derived.Test.YtlinhckgdfhppaaK2
import Derived.Deep.RegionLaw
set_option linter.unusedSimpArgs false
set_option linter.unusedVariables false
namespace Go.Proofs.YtlinhckgdfhppaaK
open Go Go.RowKit

theorem grownBy_of_below {w w' : World} (h : Below w.heap.size w w') (row : Option Nat) : w.grownBy w' row := ⟨h.os, h.tape, h.output, h.size, fun i hi _ => h.block i hi⟩
theorem grownBy_trans {a b c : World} {row : Option Nat} (h : a.grownBy b row) (k : b.grownBy c row) : a.grownBy c row :=
  ⟨k.os.trans h.os, k.tape.trans h.tape, k.output.trans h.output, Nat.le_trans h.size k.size, fun i hi hne => (k.block i (Nat.lt_of_lt_of_le hi h.size) hne).trans (h.block i hi hne)⟩
/-- What has grown at an own row from base on is as it was below base. -/
theorem below_of_grown {B : Nat} {w w' : World} {row : Option Nat} (hg : w.grownBy w' row) (hB : B ≤ w.heap.size) (hr : ∀ k, row = some k → B ≤ k) : Below B w w' := (Below.refl B w).grown hg hB hr

section
variable {α : Type} {ok : Nat → Prop} {d : Kn α} {e : TypeId} {P : Program}
/-- What an append leaves: the row, and the frame. -/
theorem own_appended {w w1 : World} {base : Nat} {v v1 : Value} {xs ys : List α} {cs ds : List Value} (hr : Elems d w (fun k => ok k ∧ v.ownBlock ≠ some k) xs cs) (hy : Elems d w (fun k => ok k ∧ v.ownBlock ≠ some k) ys ds)
    (hown : w1.ownsRow base e d.sz v1 (xs.length + ys.length) (cs ++ ds)) (hg : w.grownBy w1 v.ownBlock) (hat : v1.ownBlock = v.ownBlock ∨ ∃ b, v1.ownBlock = some b ∧ w.heap.size ≤ b) : OwnK ok d e w1 base v1 (xs ++ ys) := by
  refine ⟨cs ++ ds, by rw [List.length_append]; exact hown, ((hr.append hy).imp fun x c hk => ?_)⟩
  refine d.mono (fun k hk => ?_) (d.move (w' := w1) (fun k hk => hg.block k hk.2 (fun he => hk.1.2 he.symm)) (d.bound hk))
  rcases hat with hat | ⟨b, hb, hle⟩
  · rw [hat]; exact hk.1
  · refine ⟨hk.1.1, ?_⟩
    rw [hb]
    intro he
    injection he with he
    have := hk.2
    omega

/-- append(v, ys...): ys a row that is read. -/
theorem run_app_row (w : World) (base : Nat) (t ty : TypeId) (z : Value) (bytes : Nat) (ht : P.underlying t = some (.slice e)) (hinfo : (P.info? e).map (fun i => (i.zero, i.size, i.bytes)) = some (some z, d.sz, bytes)) (hz : z.cells.size = d.sz) (hs0 : 0 < d.sz)
    (v : Value) (xs ys : List α) (A : Option Addr) (c : Nat) (HO : OwnK ok d e w base v xs) (ds : List Value) (hds : Elems d w (fun k => ok k ∧ v.ownBlock ≠ some k) ys ds) (hcells : 0 < ys.length → ∃ ad, A = some ad ∧ ∀ j u, ds[j]? = some u → w.cell? (ad.add j) = some u)
    (hbase : base ≤ w.heap.size) (h63 : xs.length + ys.length ≤ maxLen) (hl : (xs.length + ys.length) * bytes ≤ 140737488355328) :
    ∃ v1 w1, (Builtin.append_ #[t, t] ty #[v, .slice A ys.length c]).run P w = .ok v1 w1 ∧ OwnK ok d e w1 base v1 (xs ++ ys) ∧ w.grownBy w1 v.ownBlock ∧ (v1.ownBlock = v.ownBlock ∨ ∃ b, v1.ownBlock = some b ∧ w.heap.size ≤ b) := by
  obtain ⟨i0, hi, hzz⟩ := Option.map_eq_some_iff.1 hinfo
  simp only [Prod.mk.injEq] at hzz
  obtain ⟨hz0, hz1, hz2⟩ := hzz
  obtain ⟨cs, ho, hr⟩ := HO
  rcases Nat.eq_zero_or_pos ys.length with h0 | h0
  · have hy0 : ys = [] := List.eq_nil_of_length_eq_zero h0
    subst hy0
    refine ⟨v, w, ?_, by rw [List.append_nil]; exact ⟨cs, ho, hr⟩, World.grownBy.refl w _, .inl rfl⟩
    cases A with
    | none =>
      rcases ho.2 with ⟨rfl, hn⟩ | ⟨g, cap, cur, rfl, hb, hg, hnc, hcm, hcs, htake⟩
      · simp [Builtin.append_, run_underlying ht, sizeOf, typeInfo, hi, Builtin.lenOf, Builtin.firstCells]
      · simp [Builtin.append_, run_underlying ht, sizeOf, typeInfo, hi, Builtin.lenOf, Builtin.firstCells, hnc, storeCells]
    | some ad =>
      rcases ho.2 with ⟨rfl, hn⟩ | ⟨g, cap, cur, rfl, hb, hg, hnc, hcm, hcs, htake⟩
      · simp [Builtin.append_, run_underlying ht, sizeOf, typeInfo, hi, Builtin.lenOf, Builtin.firstCells, loadCells, loadCellsFrom]
      · simp [Builtin.append_, run_underlying ht, sizeOf, typeInfo, hi, Builtin.lenOf, Builtin.firstCells, loadCells, loadCellsFrom, hnc, storeCells]
  · obtain ⟨ad, rfl, hc⟩ := hcells h0
    obtain ⟨v1, w1, hrun, h2, h3, _, h5⟩ := run_append_own_at (P := P) w base t ty e i0 z d.sz bytes ht hi hz0 hz1 hz2 hz hs0 v xs.length cs ho ad ys.length c ds hds.1 hc hds.one h63 hl hbase
    have hat : v1.ownBlock = v.ownBlock ∨ ∃ b, v1.ownBlock = some b ∧ w.heap.size ≤ b := h5.imp_right fun h => ⟨_, h, Nat.le_refl _⟩
    exact ⟨v1, w1, hrun, own_appended hr hds h2 h3 hat, h3, hat⟩

variable {ops : Array Oper} {rest : List Oper} {o : Oper} {a : Act} {Q : Exit → Act → World → Prop} {K : Act → World → Prop} {E : Prop}
/-- append(v, y): the walk's goal stands behind the variadic's box. -/
theorem wp_app_one {W : World} (d : Kn α) (base : Nat) (s x : Operand) (t : TypeId) (z : Value) (bytes : Nat)
    (ho : o.op = .call { callee := .builtin .append, args := #[s, x], argTypes := #[t, t] })
    (ht : P.underlying t = some (.slice e)) (hinfo : (P.info? e).map (fun i => (i.zero, i.size, i.bytes)) = some (some z, d.sz, bytes)) (hz : z.cells.size = d.sz) (hs0 : 0 < d.sz)
    (v : Value) (xs : List α) (y : α) (cs : List Value) (hs : a.eval s = v) (hx : a.eval x = .slice (some ⟨W.heap.size, 0, none⟩) 1 1)
    (HO : OwnK ok d e W base v xs) (hy : d.K W (fun k => ok k ∧ v.ownBlock ≠ some k) y cs) (hbase : base ≤ W.heap.size) (h63 : xs.length + 1 ≤ 9223372036854775807) (hl : (xs.length + 1) * bytes ≤ 140737488355328)
    (h : ∀ v1 w1, OwnK ok d e w1 base v1 (xs ++ [y]) → W.grownBy w1 v.ownBlock → (v1.ownBlock = v.ownBlock ∨ ∃ b, v1.ownBlock = some b ∧ W.heap.size ≤ b) → K (a.put o.dst v1) w1) :
    o.wp P a (W.alloc (.cells cs.toArray e)) K Q := by
  have hb : Below W.heap.size W (W.alloc (.cells cs.toArray e)) := (Below.refl _ _).alloc (Nat.le_refl _) _
  obtain ⟨v1, w1, hrun, h2, h3, h4⟩ := run_app_row (P := P) (W.alloc (.cells cs.toArray e)) base t o.type z bytes ht hinfo hz hs0 v xs [y] (some ⟨W.heap.size, 0, none⟩) 1 (HO.below hb) cs (Elems.single (Kn.below hy hb))
    (fun _ => ⟨_, rfl, fun j u hu => by
      rw [add_lit0, cell_of_row _ W.heap.size j cs.toArray e (0, 0) (heap_alloc_new W _)]
      simpa using hu⟩) (by simp; omega) (by simpa [maxLen] using h63) (by simpa using hl)
  unfold Oper.wp execOp
  have hx' : a.eval x = .slice (some ⟨W.heap.size, 0, none⟩) [y].length 1 := hx
  simp only [ho, resolve, invoke, builtin, Sem.run_bind, Sem.run_pure, Result.andThen_ok, List.map_toArray, List.map_cons, List.map_nil, hs, hx', hrun]
  refine (h v1 w1 h2 (grownBy_trans (World.grownBy_alloc W _ _) h3) ?_)
  rcases h4 with h4 | ⟨b, h4, h5⟩
  · exact .inl h4
  · exact .inr ⟨b, h4, by simp at h5; omega⟩
/-- append(v, ys...). -/
theorem wp_app_row {W : World} (d : Kn α) (base : Nat) (s x : Operand) (t : TypeId) (z : Value) (bytes : Nat)
    (ho : o.op = .call { callee := .builtin .append, args := #[s, x], argTypes := #[t, t] })
    (ht : P.underlying t = some (.slice e)) (hinfo : (P.info? e).map (fun i => (i.zero, i.size, i.bytes)) = some (some z, d.sz, bytes)) (hz : z.cells.size = d.sz) (hs0 : 0 < d.sz)
    (v : Value) (xs ys : List α) (A : Option Addr) (n c : Nat) (hs : a.eval s = v) (hx : a.eval x = .slice A n c)
    (HO : OwnK ok d e W base v xs) (HR : Row d W (fun k => ok k ∧ v.ownBlock ≠ some k) A n ys) (hbase : base ≤ W.heap.size) (h63 : xs.length + n ≤ 9223372036854775807) (hl : (xs.length + n) * bytes ≤ 140737488355328)
    (h : ∀ v1 w1, OwnK ok d e w1 base v1 (xs ++ ys) → W.grownBy w1 v.ownBlock → (v1.ownBlock = v.ownBlock ∨ ∃ b, v1.ownBlock = some b ∧ W.heap.size ≤ b) → K (a.put o.dst v1) w1) :
    o.wp P a W K Q := by
  obtain ⟨hlen, _, hrow⟩ := HR
  subst hlen
  have key : ∃ ds, Elems d W (fun k => ok k ∧ v.ownBlock ≠ some k) ys ds ∧ (0 < ys.length → ∃ ad, A = some ad ∧ ∀ j u, ds[j]? = some u → W.cell? (ad.add j) = some u) := by
    rcases Nat.eq_zero_or_pos ys.length with h0 | h0
    · obtain rfl : ys = [] := List.eq_nil_of_length_eq_zero h0
      exact ⟨[], Elems.nil _ _ _, fun h => by simp at h⟩
    · obtain ⟨ad, rfl, _, _, hc⟩ := hrow h0
      have hall : ∀ m, m ≤ ys.length → ∃ ds, Elems d W (fun k => ok k ∧ v.ownBlock ≠ some k) (ys.take m) ds ∧ ∀ j u, ds[j]? = some u → W.cell? (ad.add j) = some u := by
        intro m
        induction m with
        | zero => exact fun _ => ⟨[], by simpa using Elems.nil d W _, fun j u hu => by simp at hu⟩
        | succ m ih =>
          intro hm
          obtain ⟨ds, h1, h2⟩ := ih (by omega)
          obtain ⟨cs, hk, hcell⟩ := hc m ys[m] (List.getElem?_eq_getElem (by omega))
          refine ⟨ds ++ cs, by rw [List.take_succ_eq_append_getElem (by omega)]; exact h1.append (Elems.single hk), fun j u hu => ?_⟩
          have hdl : ds.length = m * d.sz := by rw [h1.1, List.length_take, Nat.min_eq_left (by omega)]
          rcases Nat.lt_or_ge j ds.length with hj | hj
          · rw [List.getElem?_append_left hj] at hu
            exact h2 j u hu
          · rw [List.getElem?_append_right hj] at hu
            have := hcell _ u hu
            rwa [show m * d.sz + (j - ds.length) = j by omega] at this
      obtain ⟨ds, h1, h2⟩ := hall ys.length (Nat.le_refl _)
      rw [List.take_length] at h1
      exact ⟨ds, h1, fun _ => ⟨ad, rfl, h2⟩⟩
  obtain ⟨ds, hds, hcells⟩ := key
  obtain ⟨v1, w1, hrun, h2, h3, h4⟩ := run_app_row (P := P) W base t o.type z bytes ht hinfo hz hs0 v xs ys A c HO ds hds hcells hbase (by simpa [maxLen] using h63) hl
  unfold Oper.wp execOp
  simp only [ho, resolve, invoke, builtin, Sem.run_bind, Sem.run_pure, Result.andThen_ok, List.map_toArray, List.map_cons, List.map_nil, hs, hx, hrun]
  exact h v1 w1 h2 h3 h4
/-- append(v, y): the walk's goal stands behind the variadic's box. -/
theorem app_one {W : World} (d : Kn α) (base : Nat) (hgd : o.guard = none) (s x : Operand) (t : TypeId) (z : Value) (bytes : Nat)
    (ho : o.op = .call { callee := .builtin .append, args := #[s, x], argTypes := #[t, t] })
    (ht : P.underlying t = some (.slice e)) (hinfo : (P.info? e).map (fun i => (i.zero, i.size, i.bytes)) = some (some z, d.sz, bytes)) (hz : z.cells.size = d.sz) (hs0 : 0 < d.sz)
    (v : Value) (xs : List α) (y : α) (cs : List Value) (hs : a.eval s = v) (hx : a.eval x = .slice (some ⟨W.heap.size, 0, none⟩) 1 1)
    (HO : OwnK ok d e W base v xs) (hy : d.K W (fun k => ok k ∧ v.ownBlock ≠ some k) y cs) (hbase : base ≤ W.heap.size) (h63 : xs.length + 1 ≤ 9223372036854775807) (hl : (xs.length + 1) * bytes ≤ 140737488355328)
    (h : ∀ v1 w1, OwnK ok d e w1 base v1 (xs ++ [y]) → W.grownBy w1 v.ownBlock → (v1.ownBlock = v.ownBlock ∨ ∃ b, v1.ownBlock = some b ∧ W.heap.size ≤ b) → wpList P ops Q rest (a.put o.dst v1) w1) :
    wpList P ops Q (o :: rest) a (W.alloc (.cells cs.toArray e)) :=
  wpList_plain hgd fun _ hK => wp_app_one d base s x t z bytes ho ht hinfo hz hs0 v xs y cs hs hx HO hy hbase h63 hl fun v1 w1 h2 h3 h4 => hK _ _ (h v1 w1 h2 h3 h4)
/-- append(v, ys...). -/
theorem app_row {W : World} (d : Kn α) (base : Nat) (hgd : o.guard = none) (s x : Operand) (t : TypeId) (z : Value) (bytes : Nat)
    (ho : o.op = .call { callee := .builtin .append, args := #[s, x], argTypes := #[t, t] })
    (ht : P.underlying t = some (.slice e)) (hinfo : (P.info? e).map (fun i => (i.zero, i.size, i.bytes)) = some (some z, d.sz, bytes)) (hz : z.cells.size = d.sz) (hs0 : 0 < d.sz)
    (v : Value) (xs ys : List α) (A : Option Addr) (n c : Nat) (hs : a.eval s = v) (hx : a.eval x = .slice A n c)
    (HO : OwnK ok d e W base v xs) (HR : Row d W (fun k => ok k ∧ v.ownBlock ≠ some k) A n ys) (hbase : base ≤ W.heap.size) (h63 : xs.length + n ≤ 9223372036854775807) (hl : (xs.length + n) * bytes ≤ 140737488355328)
    (h : ∀ v1 w1, OwnK ok d e w1 base v1 (xs ++ ys) → W.grownBy w1 v.ownBlock → (v1.ownBlock = v.ownBlock ∨ ∃ b, v1.ownBlock = some b ∧ W.heap.size ≤ b) → wpList P ops Q rest (a.put o.dst v1) w1) :
    wpList P ops Q (o :: rest) a W :=
  wpList_plain hgd fun _ hK => wp_app_row d base s x t z bytes ho ht hinfo hz hs0 v xs ys A n c hs hx HO HR hbase h63 hl fun v1 w1 h2 h3 h4 => hK _ _ (h v1 w1 h2 h3 h4)
/-- append(v, y): the walk's goal stands behind the variadic's box. -/
theorem step_app_one {W : World} (d : Kn α) (base : Nat) (hgd : o.guard = none) (s x : Operand) (t : TypeId) (z : Value) (bytes : Nat)
    (ho : o.op = .call { callee := .builtin .append, args := #[s, x], argTypes := #[t, t] })
    (ht : P.underlying t = some (.slice e)) (hinfo : (P.info? e).map (fun i => (i.zero, i.size, i.bytes)) = some (some z, d.sz, bytes)) (hz : z.cells.size = d.sz) (hs0 : 0 < d.sz)
    (v : Value) (xs : List α) (y : α) (cs : List Value) (hs : a.eval s = v) (hx : a.eval x = .slice (some ⟨W.heap.size, 0, none⟩) 1 1)
    (HO : OwnK ok d e W base v xs) (hy : d.K W (fun k => ok k ∧ v.ownBlock ≠ some k) y cs) (hbase : base ≤ W.heap.size) (h63 : xs.length + 1 ≤ 9223372036854775807) (hl : (xs.length + 1) * bytes ≤ 140737488355328)
    (h : ∀ v1 w1, OwnK ok d e w1 base v1 (xs ++ [y]) → W.grownBy w1 v.ownBlock → (v1.ownBlock = v.ownBlock ∨ ∃ b, v1.ownBlock = some b ∧ W.heap.size ≤ b) → K (a.put o.dst v1) w1) :
    if Region.wanted o (yielded ops a.tmps) = true then Oper.wp P o a (W.alloc (.cells cs.toArray e)) K Q else E := by
  rw [if_pos (by simp [Region.wanted, hgd])]
  exact wp_app_one d base s x t z bytes ho ht hinfo hz hs0 v xs y cs hs hx HO hy hbase h63 hl h
/-- append(v, ys...). -/
theorem step_app_row {W : World} (d : Kn α) (base : Nat) (hgd : o.guard = none) (s x : Operand) (t : TypeId) (z : Value) (bytes : Nat)
    (ho : o.op = .call { callee := .builtin .append, args := #[s, x], argTypes := #[t, t] })
    (ht : P.underlying t = some (.slice e)) (hinfo : (P.info? e).map (fun i => (i.zero, i.size, i.bytes)) = some (some z, d.sz, bytes)) (hz : z.cells.size = d.sz) (hs0 : 0 < d.sz)
    (v : Value) (xs ys : List α) (A : Option Addr) (n c : Nat) (hs : a.eval s = v) (hx : a.eval x = .slice A n c)
    (HO : OwnK ok d e W base v xs) (HR : Row d W (fun k => ok k ∧ v.ownBlock ≠ some k) A n ys) (hbase : base ≤ W.heap.size) (h63 : xs.length + n ≤ 9223372036854775807) (hl : (xs.length + n) * bytes ≤ 140737488355328)
    (h : ∀ v1 w1, OwnK ok d e w1 base v1 (xs ++ ys) → W.grownBy w1 v.ownBlock → (v1.ownBlock = v.ownBlock ∨ ∃ b, v1.ownBlock = some b ∧ W.heap.size ≤ b) → K (a.put o.dst v1) w1) :
    if Region.wanted o (yielded ops a.tmps) = true then Oper.wp P o a W K Q else E := by
  rw [if_pos (by simp [Region.wanted, hgd])]
  exact wp_app_row d base s x t z bytes ho ht hinfo hz hs0 v xs ys A n c hs hx HO HR hbase h63 hl h
end

/-! ### one cell an element -/
section
variable {α : Type} {enc : α → Value} {h1 : ∀ x, (enc x).oneCell' = true} {e : TypeId} {w : World} {base : Nat} {xs : List α}
theorem elems_scalar (w : World) (ok : Nat → Prop) (xs : List α) : Elems (Kn.scalar enc h1) w ok xs (xs.map enc) := by
  refine ⟨by simp [Kn.scalar], fun j x hx => ?_⟩
  show ((xs.map enc).drop (j * 1)).take 1 = [enc x]
  have hj : j < xs.length := (List.getElem?_eq_some_iff.1 hx).1
  have hx' : xs[j] = x := (List.getElem?_eq_some_iff.1 hx).2
  rw [Nat.mul_one, List.drop_eq_getElem_cons (by simpa using hj)]
  simp [hx']
theorem elems_scalar_eq {ok : Nat → Prop} {cs : List Value} (h : Elems (Kn.scalar enc h1) w ok xs cs) : cs = xs.map enc := by
  apply List.ext_getElem?
  intro j
  have hl : cs.length = xs.length := by have := h.1; simpa [Kn.scalar] using this
  rcases Nat.lt_or_ge j xs.length with hj | hj
  · have := h.2 j xs[j] (List.getElem?_eq_getElem hj)
    have h2 : (cs.drop (j * 1)).take 1 = [enc xs[j]] := this
    rw [Nat.mul_one] at h2
    have h3 : cs[j]? = some (enc xs[j]) := by
      have h4 : (List.take 1 (List.drop j cs))[0]? = some (enc xs[j]) := by rw [h2]; rfl
      rwa [List.getElem?_take, if_pos (by omega), List.getElem?_drop, Nat.add_zero] at h4
    rw [h3, List.getElem?_map, List.getElem?_eq_getElem hj]
    rfl
  · rw [List.getElem?_eq_none (by omega), List.getElem?_eq_none (by simpa using hj)]
theorem own_scalar {ok : Nat → Prop} {v : Value} (h : w.ownsRow base e 1 v xs.length (xs.map enc)) : OwnK ok (Kn.scalar enc h1) e w base v xs := ⟨_, h, elems_scalar w _ xs⟩
theorem OwnK.scalar {ok : Nat → Prop} {v : Value} (h : OwnK ok (Kn.scalar enc h1) e w base v xs) : w.ownsRow base e 1 v xs.length (xs.map enc) := by
  obtain ⟨cs, ho, hr⟩ := h
  rw [elems_scalar_eq hr] at ho
  exact ho
end
theorem cut_from {α : Type} {P : Program} (d : Kn α) (t e : TypeId) (kl : IntKind) {z : Option Value} {bytes : Nat} (ht : P.underlying t = some (.slice e)) (hinfo : (P.info? e).map (fun i => (i.zero, i.size, i.bytes)) = some (z, d.sz, bytes)) (A : Option Addr) (n c m : Nat) (hm : m ≤ n) (hc : n ≤ c) :
    ∃ A' : Option Addr, (∀ W : World, (Instr.slice t (.slice A n c) (some (.int kl (m : Int))) none none).run P W = .ok (.slice A' (n - m) (c - m)) W) ∧
      ∀ (w : World) (ok : Nat → Prop) (xs : List α), Row d w ok A n xs → Row d w ok A' (n - m) (xs.drop m) := by
  obtain ⟨i, hi, hzz⟩ := Option.map_eq_some_iff.1 hinfo
  simp only [Prod.mk.injEq] at hzz
  have hel : P.elem t = e := by simp [Program.elem, ht]
  have hu : P.underlying t = some (.slice (P.elem t)) := by rw [hel]; exact ht
  refine ⟨if c = m then A else A.map (·.add (m * d.sz)), fun W => ?_, fun w ok xs h => h.drop m c hm hc⟩
  rw [run_slice_l W t A n c hu kl (m : Int) (Int.natCast_nonneg _) (by omega), hel]
  simp [sizeOf, typeInfo, hi, hzz.2.1, sliced, Result.andThen]
theorem OwnK.empty {α : Type} (ok : Nat → Prop) (d : Kn α) (e : TypeId) (w : World) (base : Nat) (hb : base ≤ w.heap.size) : OwnK ok d e (w.alloc (.cells #[] e)) base (.slice (some ⟨w.heap.size, 0, none⟩) 0 0) [] := by
  refine ⟨[], ⟨by simp, .inr ⟨w.heap.size, 0, #[], rfl, hb, heap_alloc_new w _, Nat.le_refl _, by simp [maxLen], by simp, by simp⟩⟩, Elems.nil _ _ _⟩
theorem Own.empty {α : Type} (d : Kn α) (e : TypeId) (w : World) (base : Nat) (hb : base ≤ w.heap.size) : Own d e (w.alloc (.cells #[] e)) base (.slice (some ⟨w.heap.size, 0, none⟩) 0 0) [] := OwnK.empty _ _ _ _ _ hb
theorem OwnK.base_le {α : Type} {ok : Nat → Prop} {d : Kn α} {e : TypeId} {w w1 : World} {base : Nat} {v : Value} {xs : List α} (h : OwnK ok d e w base v xs) (hg : w.grownBy w1 v.ownBlock) {B : Nat} (hB : B ≤ base) (hw : base ≤ w.heap.size) : Below B w w1 :=
  below_of_grown hg (Nat.le_trans hB hw) fun k hk => Nat.le_trans hB (h.lt k hk).1
end Go.Proofs.YtlinhckgdfhppaaK
