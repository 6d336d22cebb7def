import Derived.Test.YtlinhckgdfhppaaM9
import Derived.Deep.Slices
import Derived.Deep.Fields
import Derived.ChangeSame
import Derived.Lib.SmallJoins
set_option linter.unusedSimpArgs false
set_option linter.unusedVariables false
namespace Go.Proofs.Ytlinhckgdfhppaa
open Go Go.RowKit Go.Proofs.YtlinhckgdfhppaaK Go.ChangeShapes Go.WideShapes Go.Deep Go.Joins

/-! What came in, as rows. -/
section
variable {H : Type} {enc : TypeId × Value → H} {P : Program} {w : World} {base : Nat} {spare : Nat → Bool} {held : Bool}
theorem open_slice_fields {t e : TypeId} {fs : Array Field} {fuel : Nat} {cs : List Value} {x : DataW H × List MemPlace} (ht : P.underlying t = some (.slice e)) (he : P.underlying e = some (.struct fs))
    (hone : oneCellFields P fs = true) (hC : P.cellsOf e = fs.size) (h : DataW.trod enc P w base spare held fuel t cs = some x) :
    cs = [.slice none 0 0] ∨
    ∃ (a : Addr) (len cap : Nat), cs = [.slice (some a) len cap] ∧ len ≤ cap ∧ cap ≤ maxLen ∧
      ∀ i, i < len → ∃ n : Nat, ∀ (j : Nat) (f : Field), fs[j]? = some f → ∃ (v : Value) (y : DataW H × List MemPlace), w.cell? (a.add (i * fs.size + j)) = some v ∧ DataW.trod enc P w base spare held n f.type [v] = some y := by
  rcases open_slice ht h with h0 | ⟨a, len, cap, m, n, D, Pl, hcs, hb, hl, hm, hmm, hx, hi⟩
  · exact .inl h0.1
  · refine .inr ⟨a, len, cap, hcs, hl, hm, fun i him => ?_⟩
    have him' : i < m := by rw [hmm]; split <;> omega
    obtain ⟨cs', hc, ht'⟩ := hi i him'
    rw [hC] at hc
    obtain ⟨ys, n', hn', hy, hlen, hyl, hf⟩ := DataW.trod_struct he ht'
    obtain ⟨_, hcl, hat⟩ := World.cells?_some hc
    refine ⟨n', fun j f hj => ?_⟩
    obtain ⟨ho, hk⟩ := hone_of hone j f hj
    have hjl : j < fs.size := (Array.getElem?_eq_some_iff.1 hj).1
    have hcell := hat j hjl
    have hv : cs'[j]? = some (cs'[j]'(by omega)) := List.getElem?_eq_getElem (by omega)
    have h1 := hf j f hj
    rw [ho, hk] at h1
    have hone' : (cs'.drop j).take 1 = [cs'[j]'(by omega)] := by
      rw [List.drop_eq_getElem_cons (by omega)]
      rfl
    rw [hone'] at h1
    have hys : ys[j]? = some (ys[j]'(by omega)) := List.getElem?_eq_getElem (by omega)
    refine ⟨_, _, ?_, h1.trans hys⟩
    rw [← Go.Deep.add_add, hcell, hv]
/-- A row out of its elements. -/
theorem row_of {α : Type} (d : Kn α) {a : Addr} {len : Nat} (hm : len ≤ 9223372036854775807) (h : ∀ i, i < len → ∃ x cs, d.K w (fun k => k < w.heap.size) x cs ∧ (∀ (j : Nat) (u : Value), cs[j]? = some u → w.cell? (a.add (i * d.sz + j)) = some u) ∧ a.block < w.heap.size) :
    ∃ xs : List α, xs.length = len ∧ Row d w (fun k => k < w.heap.size) (some a) len xs := by
  have hex : ∀ i : Fin len, ∃ x : α, ∃ cs, d.K w (fun k => k < w.heap.size) x cs ∧ (∀ (j : Nat) (u : Value), cs[j]? = some u → w.cell? (a.add (i.1 * d.sz + j)) = some u) ∧ a.block < w.heap.size := fun i => h i.1 i.2
  obtain ⟨f, hf⟩ := Classical.axiomOfChoice hex
  refine ⟨List.ofFn f, by simp, by simp, hm, fun hpos => ⟨a, rfl, ?_, ?_, fun j x hx => ?_⟩⟩
  · obtain ⟨_, _, _, hb⟩ := hf ⟨0, hpos⟩; exact hb
  · obtain ⟨_, _, _, hb⟩ := hf ⟨0, hpos⟩; exact hb
  · have hj : j < len := by have := (List.getElem?_eq_some_iff.1 hx).1; simpa using this
    obtain ⟨cs, h1, h2, _⟩ := hf ⟨j, hj⟩
    have e : f ⟨j, hj⟩ = x := by
      have := (List.getElem?_eq_some_iff.1 hx).2
      simpa using this
    rw [e] at h1
    exact ⟨cs, h1, h2⟩
theorem open_pieces {t e : TypeId} {f0 f1 : Field} {fuel : Nat} {v : Value} {x : DataW H × List MemPlace} (ht : P.underlying t = some (.slice e)) (he : P.underlying e = some (.struct #[f0, f1])) (hone : oneCellFields P #[f0, f1] = true) (hC : P.cellsOf e = 2)
    (h0 : P.underlying f0.type = some .string) (h1 : P.underlying f1.type = some (.int .i64)) (h : DataW.trod enc P w base spare held fuel t [v] = some x) :
    ∃ A n c xs, v = .slice A n c ∧ n ≤ c ∧ xs.length = n ∧ Row kPiece w (fun k => k < w.heap.size) A n xs := by
  rcases open_slice_fields ht he hone hC h with e | ⟨a, len, cap, e, hl, hm, hi⟩
  · injection e with e
    exact ⟨none, 0, 0, [], e, Nat.le_refl _, rfl, Row.nil _ _ _ _⟩
  · injection e with e
    obtain ⟨xs, hxl, hr⟩ := row_of (w := w) kPiece (a := a) (len := len) (by unfold maxLen at hm; omega) fun i hi' => by
      obtain ⟨n, hf⟩ := hi i hi'
      obtain ⟨v0, y0, c0, r0⟩ := hf 0 f0 rfl
      obtain ⟨v1, y1, c1, r1⟩ := hf 1 f1 rfl
      obtain ⟨s, e0, _, _⟩ := DataW.trod_string h0 r0
      obtain ⟨z, e1, _, _⟩ := DataW.trod_int h1 r1
      injection e0 with e0
      injection e1 with e1
      subst e0
      subst e1
      refine ⟨(s, z), _, kPiece_mk _ _ (s, z), fun j u hu => ?_, by have := World.block_lt_of_cell? w _ c0; rwa [Go.Proofs.YtlinhckgdfhppaaK.block_add] at this⟩
      match j, hu with
      | 0, hu => injection hu with hu; subst hu; exact c0
      | 1, hu => injection hu with hu; subst hu; exact c1
    exact ⟨some a, len, cap, xs, e, hl, hxl, hr⟩
theorem open_introw {t e : TypeId} {fuel : Nat} {v : Value} {x : DataW H × List MemPlace} (ht : P.underlying t = some (.slice e)) (he : P.underlying e = some (.int .i64)) (hC : P.cellsOf e = 1) (h : DataW.trod enc P w base spare held fuel t [v] = some x) :
    ∃ A n c xs, v = .slice A n c ∧ n ≤ c ∧ xs.length = n ∧ Row (Kn.int .i64) w (fun k => k < w.heap.size) A n xs := by
  rcases open_slice ht h with h0 | ⟨a, len, cap, m, n, D, Pl, hcs, hb, hl, hm, hmm, hx, hi⟩
  · have e0 := h0.1
    injection e0 with e0
    exact ⟨none, 0, 0, [], e0, Nat.le_refl _, rfl, Row.nil _ _ _ _⟩
  · injection hcs with hcs
    obtain ⟨xs, hxl, hr⟩ := row_of (w := w) (Kn.int .i64) (a := a) (len := len) (by unfold maxLen at hm; omega) fun i hi' => by
      have him' : i < m := by rw [hmm]; split <;> omega
      obtain ⟨cs', hc, ht'⟩ := hi i him'
      rw [hC] at hc
      obtain ⟨z, e1, _, _⟩ := DataW.trod_int he ht'
      subst e1
      obtain ⟨_, hcl, hat⟩ := World.cells?_some hc
      have hcell := hat 0 (by omega)
      rw [Go.Deep.add_add] at hcell
      refine ⟨z, _, rfl, fun j u hu => ?_, by have := World.block_lt_of_cell? w _ hcell; rwa [Go.Proofs.YtlinhckgdfhppaaK.block_add] at this⟩
      match j, hu with
      | 0, hu => injection hu with hu; subst hu; exact hcell
    exact ⟨some a, len, cap, xs, hcs, hl, hxl, hr⟩
theorem open_holds {t e ep ek : TypeId} {f0 f1 f2 f3 g0 g1 : Field} {fuel : Nat} {v : Value} {x : DataW H × List MemPlace} (ht : P.underlying t = some (.slice e)) (he : P.underlying e = some (.struct #[f0, f1, f2, f3])) (hone : oneCellFields P #[f0, f1, f2, f3] = true) (hC : P.cellsOf e = 4)
    (h0 : P.underlying f0.type = some (.int .i64)) (h1 : P.underlying f1.type = some (.slice ep)) (hp : P.underlying ep = some (.struct #[g0, g1])) (hpone : oneCellFields P #[g0, g1] = true) (hpC : P.cellsOf ep = 2) (hg0 : P.underlying g0.type = some .string) (hg1 : P.underlying g1.type = some (.int .i64))
    (h2 : P.underlying f2.type = some (.slice ek)) (hk : P.underlying ek = some (.int .i64)) (hkC : P.cellsOf ek = 1) (h3 : P.underlying f3.type = some .bool) (h : DataW.trod enc P w base spare held fuel t [v] = some x) :
    ∃ A n c xs, v = .slice A n c ∧ n ≤ c ∧ xs.length = n ∧ Row kHold w (fun k => k < w.heap.size) A n xs := by
  rcases open_slice_fields ht he hone hC h with e | ⟨a, len, cap, e, hl, hm, hi⟩
  · injection e with e
    exact ⟨none, 0, 0, [], e, Nat.le_refl _, rfl, Row.nil _ _ _ _⟩
  · injection e with e
    obtain ⟨xs, hxl, hr⟩ := row_of (w := w) kHold (a := a) (len := len) (by unfold maxLen at hm; omega) fun i hi' => by
      obtain ⟨n, hf⟩ := hi i hi'
      obtain ⟨v0, y0, c0, r0⟩ := hf 0 f0 rfl
      obtain ⟨v1, y1, c1, r1⟩ := hf 1 f1 rfl
      obtain ⟨v2, y2, c2, r2⟩ := hf 2 f2 rfl
      obtain ⟨v3, y3, c3, r3⟩ := hf 3 f3 rfl
      obtain ⟨z, e0, _, _⟩ := DataW.trod_int h0 r0
      obtain ⟨Ap, np, cp, ps, rfl, hcp, hpl, hrp⟩ := open_pieces h1 hp hpone hpC hg0 hg1 r1
      obtain ⟨Ak, nk, ck, ks, rfl, hck, hkl, hrk⟩ := open_introw h2 hk hkC r2
      obtain ⟨b, e3, _⟩ := DataW.trod_bool h3 r3
      injection e0 with e0
      injection e3 with e3
      subst e0
      subst e3
      subst hpl
      subst hkl
      refine ⟨⟨z, ps, ks, b⟩, _, kHold_mk (A := Ap) (c := cp) (A' := Ak) (c' := ck) hcp hrp hck hrk, fun j u hu => ?_, by have := World.block_lt_of_cell? w _ c0; rwa [Go.Proofs.YtlinhckgdfhppaaK.block_add] at this⟩
      match j, hu with
      | 0, hu => injection hu with hu; subst hu; exact c0
      | 1, hu => injection hu with hu; subst hu; exact c1
      | 2, hu => injection hu with hu; subst hu; exact c2
      | 3, hu => injection hu with hu; subst hu; exact c3
    exact ⟨some a, len, cap, xs, e, hl, hxl, hr⟩
theorem open_agg5 {r : Reach} {b0 : Nat} {t : TypeId} {f0 f1 f2 f3 f4 : Field} {v : Value} {d : DataW H} {p : List MemPlace} (hs : P.underlying t = some (.struct #[f0, f1, f2, f3, f4])) (hone : oneCellFields P #[f0, f1, f2, f3, f4] = true) (hC : P.cellsOf t = 5)
    (hv : Value.okWide P w r b0 t v) (h : DataW.Trod enc P w base spare held t v d p) :
    ∃ (v0 v1 v2 v3 v4 : Value) (y0 y1 y2 y3 y4 : DataW H × List MemPlace) (n : Nat), v = .agg #[v0, v1, v2, v3, v4] ∧ d = .agg [y0.1, y1.1, y2.1, y3.1, y4.1] ∧ p = y0.2 ++ (y1.2 ++ (y2.2 ++ (y3.2 ++ y4.2))) ∧
      DataW.trod enc P w base spare held n f0.type [v0] = some y0 ∧ DataW.trod enc P w base spare held n f1.type [v1] = some y1 ∧ DataW.trod enc P w base spare held n f2.type [v2] = some y2 ∧ DataW.trod enc P w base spare held n f3.type [v3] = some y3 ∧ DataW.trod enc P w base spare held n f4.type [v4] = some y4 := by
  obtain ⟨cs, rfl, hsz⟩ := okWide_struct hs hv
  obtain ⟨l⟩ := cs
  match l, hsz.trans hC with
  | [c0, c1, c2, c3, c4], _ =>
    obtain ⟨fuel, hf⟩ := h
    obtain ⟨xs, n, _, hx, _, hlen, hg⟩ := DataW.trod_struct hs hf
    obtain ⟨o0, k0⟩ := hone_of hone 0 f0 rfl
    obtain ⟨o1, k1⟩ := hone_of hone 1 f1 rfl
    obtain ⟨o2, k2⟩ := hone_of hone 2 f2 rfl
    obtain ⟨o3, k3⟩ := hone_of hone 3 f3 rfl
    obtain ⟨o4, k4⟩ := hone_of hone 4 f4 rfl
    match xs, hlen with
    | [y0, y1, y2, y3, y4], _ =>
      simp only [Prod.mk.injEq] at hx
      exact ⟨c0, c1, c2, c3, c4, y0, y1, y2, y3, y4, n, rfl, by simpa using hx.1, by simpa using hx.2, by simpa [Value.cells, o0, k0] using hg 0 f0 rfl, by simpa [Value.cells, o1, k1] using hg 1 f1 rfl, by simpa [Value.cells, o2, k2] using hg 2 f2 rfl, by simpa [Value.cells, o3, k3] using hg 3 f3 rfl, by simpa [Value.cells, o4, k4] using hg 4 f4 rfl⟩
end
end Go.Proofs.Ytlinhckgdfhppaa
