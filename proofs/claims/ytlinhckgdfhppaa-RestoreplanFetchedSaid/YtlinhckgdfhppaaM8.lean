/- A part of the proof: what the functions do, and plain laws. -/
import Derived.Test.YtlinhckgdfhppaaM7
import Derived.Test.YtlinhckgdfhppaaK9
set_option linter.unusedSimpArgs false
set_option linter.unusedVariables false
namespace Go.Proofs.Ytlinhckgdfhppaa
open Go Go.RowKit Go.Proofs.YtlinhckgdfhppaaK

/-- Blocks above rb stay. -/
def Stays (rb : Nat) (w w' : World) : Prop := ∀ k, k < w.heap.size → rb < k → w'.heap[k]? = w.heap[k]?
/-- A literal slice: n elements, cells cs of the element type t, in a block of its own. -/
def Lit (base n : Nat) (cs : Array Value) (t : TypeId) (v : Value) (w : World) : Prop := ∃ b, v = .slice (some ⟨b, 0, none⟩) n n ∧ base ≤ b ∧ w.heap[b]? = some (.cells cs t (0, 0))
theorem Lit.grow {base rb n : Nat} {cs : Array Value} {t : TypeId} {v : Value} {w w' : World} (hr : rb < base) (h : Lit base n cs t v w) (hb : Stays rb w w') : Lit base n cs t v w' := by
  obtain ⟨b, e, h1, h2⟩ := h
  exact ⟨b, e, h1, (hb b (blk_lt h2) (by omega)).trans h2⟩
abbrev strS : ByteArray := { data := #[115] }
def pc (i : Int) : Value := .agg #[.string strS, .int .i64 i]
def LitH (base : Nat) (d : Int) (n : Nat) (ps : Array Value) (m : Nat) (ss : Array Value) (v : Value) (w : World) : Prop := ∃ v1 v2, v = .agg #[.int .i64 d, v1, v2, .bool false] ∧ Lit base n ps 52 v1 w ∧ Lit base m ss 3 v2 w
theorem LitH.grow {base rb : Nat} {d : Int} {n : Nat} {ps : Array Value} {m : Nat} {ss : Array Value} {v : Value} {w w' : World} (hr : rb < base) (h : LitH base d n ps m ss v w) (hb : Stays rb w w') : LitH base d n ps m ss v w' := by
  obtain ⟨v1, v2, e, h1, h2⟩ := h
  exact ⟨v1, v2, e, h1.grow hr hb, h2.grow hr hb⟩
def LitH3 (base : Nat) (d : Int) (n : Nat) (ps : Array Value) (v : Value) (w : World) : Prop := ∃ v1, v = .agg #[.int .i64 d, v1, .slice none 0 0, .bool false] ∧ Lit base n ps 52 v1 w
theorem LitH3.grow {base rb : Nat} {d : Int} {n : Nat} {ps : Array Value} {v : Value} {w w' : World} (hr : rb < base) (h : LitH3 base d n ps v w) (hb : Stays rb w w') : LitH3 base d n ps v w' := by
  obtain ⟨v1, e, h1⟩ := h
  exact ⟨v1, e, h1.grow hr hb⟩
def psA : Array Value := #[.string strS, .int .i64 0]
def psB : Array Value := #[.string strS, .int .i64 1]
def psC : Array Value := #[.string strS, .int .i64 0, .string strS, .int .i64 1]
/-- The list of holdings. -/
def LitL (base : Nat) (v : Value) (w : World) : Prop := ∃ b v1 v2 v3 v4 v5, v = .slice (some ⟨b, 0, none⟩) 3 3 ∧ base ≤ b ∧ w.heap[b]? = some (.cells #[.int .i64 1, v1, v2, .bool false, .int .i64 2, v3, v4, .bool false, .int .i64 3, v5, .slice none 0 0, .bool false] 78 (0, 0)) ∧
  Lit base 1 psA 52 v1 w ∧ Lit base 1 #[.int .i64 1] 3 v2 w ∧ Lit base 1 psB 52 v3 w ∧ Lit base 1 #[.int .i64 2] 3 v4 w ∧ Lit base 2 psC 52 v5 w
theorem LitL.grow {base rb : Nat} {v : Value} {w w' : World} (hr : rb < base) (h : LitL base v w) (hb : Stays rb w w') : LitL base v w' := by
  obtain ⟨b, v1, v2, v3, v4, v5, e, h1, h2, k1, k2, k3, k4, k5⟩ := h
  exact ⟨b, v1, v2, v3, v4, v5, e, h1, (hb b (blk_lt h2) (by omega)).trans h2, k1.grow hr hb, k2.grow hr hb, k3.grow hr hb, k4.grow hr hb, k5.grow hr hb⟩
def nds : Array Value := #[.string strS, .int .i64 2]
/-- What the operations of the example's one region yield. -/
def GEx (thr : Int) (rb base : Nat) : Nat → Value → World → Prop
  | 0, v, _ => v = .agg nds
  | 1, v, w => Lit base 1 nds 69 v w
  | 2, v, _ => v = .int .i64 thr
  | 3, v, w => ∃ v1, v = .agg #[v1, .int .i64 thr, .bool false, .slice none 0 0, .slice none 0 0] ∧ Lit base 1 nds 69 v1 w
  | 4, v, _ => v = pc 0
  | 5, v, w => Lit base 1 psA 52 v w
  | 6, v, w => Lit base 1 #[.int .i64 1] 3 v w
  | 7, v, w => LitH base 1 1 psA 1 #[.int .i64 1] v w
  | 8, v, _ => v = pc 1
  | 9, v, w => Lit base 1 psB 52 v w
  | 10, v, w => Lit base 1 #[.int .i64 2] 3 v w
  | 11, v, w => LitH base 2 1 psB 1 #[.int .i64 2] v w
  | 12, v, _ => v = pc 0
  | 13, v, _ => v = pc 1
  | 14, v, w => Lit base 2 psC 52 v w
  | 15, v, w => LitH3 base 3 2 psC v w
  | 16, v, w => LitL base v w
  | 17, _, w => ∃ v1, w.heap[rb]? = some (.cells #[v1, .int .i64 thr, .bool false, .slice none 0 0, .slice none 0 0] 26 (0, 0)) ∧ Lit base 1 nds 69 v1 w
  | _, v, w => LitL base v w
/-- How a step changes the world: the store writes the result's block, all else lays blocks. -/
def TEx (rb : Nat) (i : Nat) (w w' : World) : Prop := (i = 17 → w.grownBy w' (some rb) ∧ ∃ cs, w'.heap[rb]? = some (.cells cs 26 (0, 0)) ∧ cs.size = 5) ∧ (i ≠ 17 → Below w.heap.size w w')
theorem TEx.stays {rb i : Nat} {w w' : World} (h : TEx rb i w w') : Stays rb w w' := fun k hk hr => by
  by_cases e : i = 17
  · exact (h.1 e).1.block k hk (fun e2 => by injection e2; omega)
  · exact (h.2 e).block k hk
theorem GEx.grow (thr : Int) {rb base : Nat} (hr : rb < base) (i j : Nat) (v : Value) (w w' : World) (hne : j ≠ i) (hT : TEx rb i w w') (h : GEx thr rb base j v w) : GEx thr rb base j v w' := by
  have hb := hT.stays
  match j, h with
  | 0, h => exact h
  | 1, h => exact Lit.grow hr h hb
  | 2, h => exact h
  | 3, ⟨v1, e, h⟩ => exact ⟨v1, e, h.grow hr hb⟩
  | 4, h => exact h
  | 5, h => exact Lit.grow hr h hb
  | 6, h => exact Lit.grow hr h hb
  | 7, h => exact LitH.grow hr h hb
  | 8, h => exact h
  | 9, h => exact Lit.grow hr h hb
  | 10, h => exact Lit.grow hr h hb
  | 11, h => exact LitH.grow hr h hb
  | 12, h => exact h
  | 13, h => exact h
  | 14, h => exact Lit.grow hr h hb
  | 15, h => exact LitH3.grow hr h hb
  | 16, h => exact LitL.grow hr h hb
  | 17, ⟨v1, e, h⟩ => exact ⟨v1, ((hT.2 (Ne.symm hne)).block _ (blk_lt e)).trans e, h.grow hr hb⟩
  | _ + 18, h => exact LitL.grow hr h hb
theorem five {cs : Array Value} (h : cs.size = 5) : ∃ x0 x1 x2 x3 x4, cs = #[x0, x1, x2, x3, x4] := by
  obtain ⟨l⟩ := cs
  match l, h with
  | [x0, x1, x2, x3, x4], _ => exact ⟨x0, x1, x2, x3, x4, rfl⟩
theorem arr25 {cs : Array Value} (h : cs.size = 25) : ∃ y0 y1 y2 y3 y4 y5 y6 y7 y8 y9 y10 y11 y12 y13 y14 y15 y16 y17 y18 y19 y20 y21 y22 y23 y24, cs = #[y0, y1, y2, y3, y4, y5, y6, y7, y8, y9, y10, y11, y12, y13, y14, y15, y16, y17, y18, y19, y20, y21, y22, y23, y24] := by
  obtain ⟨l⟩ := cs
  match l, h with
  | [y0, y1, y2, y3, y4, y5, y6, y7, y8, y9, y10, y11, y12, y13, y14, y15, y16, y17, y18, y19, y20, y21, y22, y23, y24], _ => exact ⟨y0, y1, y2, y3, y4, y5, y6, y7, y8, y9, y10, y11, y12, y13, y14, y15, y16, y17, y18, y19, y20, y21, y22, y23, y24, rfl⟩
def slEx (j : Nat) : Nat := if j < 17 then 8 + j else if j = 18 then 3 else 100 + j
structure IEx (w W0 : World) (rb : Nat) (w' : World) : Prop where
  os : w'.os = W0.os
  tape : w'.tape = W0.tape
  output : w'.output = W0.output
  size : W0.heap.size ≤ w'.heap.size
  block : ∀ k, k < W0.heap.size → k ≠ rb → w'.heap[k]? = W0.heap[k]?
  res : ∃ cs, w'.heap[rb]? = some (.cells cs 26 (0, 0)) ∧ cs.size = 5
theorem IEx.step {w W0 : World} {rb i : Nat} {u u' : World} (h : IEx w W0 rb u) (hT : TEx rb i u u') : IEx w W0 rb u' := by
  by_cases e : i = 17
  · obtain ⟨hg, hc⟩ := hT.1 e
    exact ⟨hg.os.trans h.os, hg.tape.trans h.tape, hg.output.trans h.output, Nat.le_trans h.size hg.size, fun k hk hne => (hg.block k (Nat.lt_of_lt_of_le hk h.size) (fun e => hne (by injection e))).trans (h.block k hk hne), hc⟩
  · have hb := hT.2 e
    obtain ⟨cs, hc, hs⟩ := h.res
    exact ⟨hb.os.trans h.os, hb.tape.trans h.tape, hb.output.trans h.output, Nat.le_trans h.size hb.size, fun k hk hne => (hb.block k (Nat.lt_of_lt_of_le hk h.size)).trans (h.block k hk hne), cs, (hb.block rb (blk_lt hc)).trans hc, hs⟩
def exG (thr : Int) : Goal := ⟨[(strS, 2)], thr, false, [], []⟩
def exL : List Hold := [⟨1, [(strS, 0)], [1], false⟩, ⟨2, [(strS, 1)], [2], false⟩, ⟨3, [(strS, 0), (strS, 1)], [], false⟩]
theorem litRow {α : Type} (d : Kn α) {w : World} {ok : Nat → Prop} {b : Nat} {cs : Array Value} {t : TypeId} (xs : List α) (h : w.heap[b]? = some (.cells cs t (0, 0))) (hn : xs.length ≤ 9223372036854775807) (hok : ok b)
    (hK : ∀ j x, xs[j]? = some x → ∃ ks, d.K w ok x ks ∧ ∀ i u, ks[i]? = some u → cs[j * d.sz + i]? = some u) : Row d w ok (some ⟨b, 0, none⟩) xs.length xs :=
  ⟨rfl, hn, fun _ => ⟨_, rfl, hok, blk_lt h, fun j x hx => by
    obtain ⟨ks, h1, h2⟩ := hK j x hx
    exact ⟨ks, h1, fun i u hu => by rw [add_lit0, cell_of_row _ _ _ _ _ _ h]; exact h2 i u hu⟩⟩⟩
theorem litP1 {w : World} {ok : Nat → Prop} {b : Nat} {t : TypeId} (s : ByteArray) (i : Int) (h : w.heap[b]? = some (.cells #[.string s, .int .i64 i] t (0, 0))) (hok : ok b) : Row kPiece w ok (some ⟨b, 0, none⟩) 1 [(s, i)] :=
  litRow kPiece [(s, i)] h (by simp) hok fun j x hx => by
    match j, hx with
    | 0, hx =>
      obtain rfl : (s, i) = x := by simpa using hx
      refine ⟨_, kPiece_mk w ok (s, i), fun k u hu => ?_⟩
      match k, hu with
      | 0, hu => exact hu
      | 1, hu => exact hu
    | j + 1, hx => simp at hx
theorem litP2 {w : World} {ok : Nat → Prop} {b : Nat} (s : ByteArray) (i i' : Int) (h : w.heap[b]? = some (.cells #[.string s, .int .i64 i, .string s, .int .i64 i'] 52 (0, 0))) (hok : ok b) : Row kPiece w ok (some ⟨b, 0, none⟩) 2 [(s, i), (s, i')] :=
  litRow kPiece [(s, i), (s, i')] h (by simp) hok fun j x hx => by
    match j, hx with
    | 0, hx =>
      obtain rfl : (s, i) = x := by simpa using hx
      refine ⟨_, kPiece_mk w ok (s, i), fun k u hu => ?_⟩
      match k, hu with
      | 0, hu => exact hu
      | 1, hu => exact hu
    | 1, hx =>
      obtain rfl : (s, i') = x := by simpa using hx
      refine ⟨_, kPiece_mk w ok (s, i'), fun k u hu => ?_⟩
      match k, hu with
      | 0, hu => exact hu
      | 1, hu => exact hu
    | j + 2, hx => simp at hx
theorem litI1 {w : World} {ok : Nat → Prop} {b : Nat} {t : TypeId} (i : Int) (h : w.heap[b]? = some (.cells #[.int .i64 i] t (0, 0))) (hok : ok b) : Row (Kn.int .i64) w ok (some ⟨b, 0, none⟩) 1 [i] :=
  litRow (Kn.int .i64) [i] h (by simp) hok fun j x hx => by
    match j, hx with
    | 0, hx =>
      obtain rfl : i = x := by simpa using hx
      refine ⟨_, rfl, fun k u hu => ?_⟩
      match k, hu with
      | 0, hu => exact hu
    | j + 1, hx => simp at hx
theorem litL {w : World} {base : Nat} {v : Value} (h : LitL base v w) : ∃ A, v = .slice A 3 3 ∧ Row kHold w (fun k => base ≤ k ∧ k < w.heap.size) A 3 exL := by
  obtain ⟨b, v1, v2, v3, v4, v5, rfl, h1, h2, ⟨x1, rfl, p1, q1⟩, ⟨x2, rfl, p2, q2⟩, ⟨x3, rfl, p3, q3⟩, ⟨x4, rfl, p4, q4⟩, ⟨x5, rfl, p5, q5⟩⟩ := h
  refine ⟨_, rfl, litRow kHold exL h2 (by decide) ⟨h1, blk_lt h2⟩ fun j x hx => ?_⟩
  match j, hx with
  | 0, hx =>
    obtain rfl : (⟨1, [(strS, 0)], [1], false⟩ : Hold) = x := by simpa [exL] using hx
    refine ⟨_, kHold_mk (A := some ⟨x1, 0, none⟩) (c := 1) (A' := some ⟨x2, 0, none⟩) (c' := 1) (by decide) (litP1 strS 0 q1 ⟨p1, blk_lt q1⟩) (by decide) (litI1 1 q2 ⟨p2, blk_lt q2⟩), fun k u hu => ?_⟩
    match k, hu with
    | 0, hu => exact hu
    | 1, hu => exact hu
    | 2, hu => exact hu
    | 3, hu => exact hu
  | 1, hx =>
    obtain rfl : (⟨2, [(strS, 1)], [2], false⟩ : Hold) = x := by simpa [exL] using hx
    refine ⟨_, kHold_mk (A := some ⟨x3, 0, none⟩) (c := 1) (A' := some ⟨x4, 0, none⟩) (c' := 1) (by decide) (litP1 strS 1 q3 ⟨p3, blk_lt q3⟩) (by decide) (litI1 2 q4 ⟨p4, blk_lt q4⟩), fun k u hu => ?_⟩
    match k, hu with
    | 0, hu => exact hu
    | 1, hu => exact hu
    | 2, hu => exact hu
    | 3, hu => exact hu
  | 2, hx =>
    obtain rfl : (⟨3, [(strS, 0), (strS, 1)], [], false⟩ : Hold) = x := by simpa [exL] using hx
    refine ⟨_, kHold_mk (A := some ⟨x5, 0, none⟩) (c := 2) (A' := none) (c' := 0) (by decide) (litP2 strS 0 1 q5 ⟨p5, blk_lt q5⟩) (by decide) (Row.nil _ _ _ _), fun k u hu => ?_⟩
    match k, hu with
    | 0, hu => exact hu
    | 1, hu => exact hu
    | 2, hu => exact hu
    | 3, hu => exact hu
  | j + 3, hx => simp [exL] at hx
set_option maxRecDepth 100000 in
set_option maxHeartbeats 1000000 in
theorem example_any (thr : Int) (w : World) : Calls Try.prog 35 #[.int .i64 thr] w fun e w' => ∃ A1 A4, e = .returned (.tuple #[.agg (goalCells (exG thr) A1 1 none 0 none 0), .slice A4 3 3]) ∧ GoalIn w' (fun k => w.heap.size ≤ k ∧ k < w'.heap.size) (exG thr) A1 1 none 0 none 0 ∧ Row kHold w' (fun k => w.heap.size ≤ k ∧ k < w'.heap.size) A4 3 exL ∧ Below w.heap.size w w' := by
  go_enter Try.func35, Try.ntmps35
  go_upto_region 2 with (fail)
  obtain ⟨W0, hW0⟩ : ∃ W0 : World, W0 = ((w.alloc (.cells #[.slice none 0 0, .int .i64 0, .bool false, .slice none 0 0, .slice none 0 0] 26)).alloc (.cells #[.string strS, .int .i64 0] 52)).alloc (.cells #[.string strS, .int .i64 1] 52) := ⟨_, rfl⟩
  rw [← hW0]
  have h1 : (w.alloc (.cells #[.slice none 0 0, .int .i64 0, .bool false, .slice none 0 0, .slice none 0 0] 26)).heap.size = w.heap.size + 1 := by simp
  have h2 : ((w.alloc (.cells #[.slice none 0 0, .int .i64 0, .bool false, .slice none 0 0, .slice none 0 0] 26)).alloc (.cells #[.string strS, .int .i64 0] 52)).heap.size = w.heap.size + 2 := by simp
  have X0 : W0.heap[w.heap.size]? = some (.cells #[.slice none 0 0, .int .i64 0, .bool false, .slice none 0 0, .slice none 0 0] 26 (0, 0)) := by rw [hW0]; exact (Below.heap_alloc _ _ _ (by omega)).trans ((Below.heap_alloc _ _ _ (by omega)).trans (heap_alloc_new w _))
  have X1 : W0.heap[w.heap.size + 1]? = some (.cells #[.string strS, .int .i64 0] 52 (0, 0)) := by rw [hW0]; exact (Below.heap_alloc _ _ _ (by omega)).trans (by rw [← h1]; exact heap_alloc_new _ _)
  have X2 : W0.heap[w.heap.size + 2]? = some (.cells #[.string strS, .int .i64 1] 52 (0, 0)) := by rw [hW0, ← h2]; exact heap_alloc_new _ _
  have hs0 : W0.heap.size = w.heap.size + 3 := by rw [hW0]; simp
  have hB0 : Below w.heap.size w W0 := by rw [hW0]; exact ((((Below.refl _ _).alloc (Nat.le_refl _) _).alloc (by omega) _).alloc (by omega) _)
  clear hW0 h1 h2
  refine wp_region_facts slEx (GEx thr w.heap.size (w.heap.size + 3)) (TEx w.heap.size) (IEx w W0 w.heap.size) (by kernel_rfl) (by kernel_rfl) ⟨rfl, rfl, rfl, Nat.le_refl _, fun _ _ _ => rfl, _, X0, rfl⟩ (fun i u u' hT h => h.step hT) (fun i j v u u' hne hT h => GEx.grow thr (by omega) i j v u u' hne hT h) ?_ ?_ ?_
  · intro i j hi hj e
    simp only [List.length_cons, List.length_nil] at hi hj
    unfold slEx at e
    split at e <;> split at e <;> (try split at e) <;> (try split at e) <;> omega
  · intro i o ho a' w' hF hI hd
    have hi : i < 19 := (List.getElem?_eq_some_iff.1 ho).1
    obtain ⟨tm, df⟩ := a'
    obtain ⟨y0, y1, y2, y3, y4, y5, y6, y7, y8, y9, y10, y11, y12, y13, y14, y15, y16, y17, y18, y19, y20, y21, y22, y23, y24, rfl⟩ := arr25 hF.size
    obtain rfl : df = [] := hF.defers
    have far : ∀ s, s < 8 → s ≠ 3 → ∀ j, j < 19 → slEx j ≠ s := fun s h1 h2 j hj => by
      unfold slEx
      split
      · omega
      · split <;> omega
    have s0 : y0 = .int .i64 thr := hF.far 0 (far 0 (by omega) (by omega))
    have s2 : y2 = .pointer (some ⟨w.heap.size, 0, none⟩) := hF.far 2 (far 2 (by omega) (by omega))
    have s4 : y4 = .pointer (some ⟨w.heap.size + 1, 0, none⟩) := hF.far 4 (far 4 (by omega) (by omega))
    have s5 : y5 = .pointer (some ⟨w.heap.size + 2, 0, none⟩) := hF.far 5 (far 5 (by omega) (by omega))
    have hszw : w.heap.size + 3 ≤ w'.heap.size := by have := hI.size; omega
    have hrb : w.heap.size < w.heap.size + 3 := by omega
    have c0 : w'.cell? ⟨w.heap.size + 1, 0, none⟩ = some (.string strS) := (World.cell?_of_block (hI.block _ (show w.heap.size + 1 < W0.heap.size by omega) (by show w.heap.size + 1 ≠ _; omega))).trans ((cell_of_row _ _ 0 _ _ _ X1).trans rfl)
    have c1 : w'.cell? ⟨w.heap.size + 1, 1, none⟩ = some (.int .i64 0) := (World.cell?_of_block (hI.block _ (show w.heap.size + 1 < W0.heap.size by omega) (by show w.heap.size + 1 ≠ _; omega))).trans ((cell_of_row _ _ 1 _ _ _ X1).trans rfl)
    have c2 : w'.cell? ⟨w.heap.size + 2, 0, none⟩ = some (.string strS) := (World.cell?_of_block (hI.block _ (show w.heap.size + 2 < W0.heap.size by omega) (by show w.heap.size + 2 ≠ _; omega))).trans ((cell_of_row _ _ 0 _ _ _ X2).trans rfl)
    have c3 : w'.cell? ⟨w.heap.size + 2, 1, none⟩ = some (.int .i64 1) := (World.cell?_of_block (hI.block _ (show w.heap.size + 2 < W0.heap.size by omega) (by show w.heap.size + 2 ≠ _; omega))).trans ((cell_of_row _ _ 1 _ _ _ X2).trans rfl)
    subst s0 s2 s4 s5
    clear hF
    rcases (show i = 0 ∨ i = 1 ∨ i = 2 ∨ i = 3 ∨ i = 4 ∨ i = 5 ∨ i = 6 ∨ i = 7 ∨ i = 8 ∨ i = 9 ∨ i = 10 ∨ i = 11 ∨ i = 12 ∨ i = 13 ∨ i = 14 ∨ i = 15 ∨ i = 16 ∨ i = 17 ∨ i = 18 by omega) with rfl | rfl | rfl | rfl | rfl | rfl | rfl | rfl | rfl | rfl | rfl | rfl | rfl | rfl | rfl | rfl | rfl | rfl | rfl
    all_goals (simp only [List.getElem?_cons_zero, List.getElem?_cons_succ, Option.some.injEq] at ho; subst ho)
    · refine ⟨.agg nds, w', .inl ⟨rfl, by show _ < 25; decide, ?_⟩, ⟨fun h => (by cases h), fun _ => Below.refl _ _⟩, rfl⟩
      first | (go_simp; done) | (go_simp; rfl)
    · have h0 : y8 = .agg nds := hd 0 (by kernel_rfl)
      subst h0
      refine ⟨.slice (some ⟨w'.heap.size, 0, none⟩) 1 1, w'.alloc (.cells nds 69), .inl ⟨rfl, by show _ < 25; decide, ?_⟩, ⟨fun h => (by cases h), fun _ => (Below.refl _ _).alloc (Nat.le_refl _) _⟩, ⟨_, rfl, hszw, heap_alloc_new w' _⟩⟩
      first | (go_simp; done) | (go_simp; rfl)
    · refine ⟨.int .i64 thr, w', .inl ⟨rfl, by show _ < 25; decide, ?_⟩, ⟨fun h => (by cases h), fun _ => Below.refl _ _⟩, rfl⟩
      first | (go_simp; done) | (go_simp; rfl)
    · obtain ⟨b1, e1, k1, k2⟩ : Lit (w.heap.size + 3) 1 nds 69 (y9) w' := hd 1 (by kernel_rfl)
      subst e1
      have h2 : y10 = .int .i64 thr := hd 2 (by kernel_rfl)
      subst h2
      refine ⟨.agg #[.slice (some ⟨b1, 0, none⟩) 1 1, .int .i64 thr, .bool false, .slice none 0 0, .slice none 0 0], w', .inl ⟨rfl, by show _ < 25; decide, ?_⟩, ⟨fun h => (by cases h), fun _ => Below.refl _ _⟩, ⟨_, rfl, b1, rfl, k1, k2⟩⟩
      first | (go_simp; done) | (go_simp; rfl)
    · refine ⟨pc 0, w', .inl ⟨rfl, by show _ < 25; decide, ?_⟩, ⟨fun h => (by cases h), fun _ => Below.refl _ _⟩, rfl⟩
      first | (go_simp; done) | (go_simp; rfl)
    · have h4 : y12 = pc 0 := hd 4 (by kernel_rfl)
      subst h4
      refine ⟨.slice (some ⟨w'.heap.size, 0, none⟩) 1 1, w'.alloc (.cells psA 52), .inl ⟨rfl, by show _ < 25; decide, ?_⟩, ⟨fun h => (by cases h), fun _ => (Below.refl _ _).alloc (Nat.le_refl _) _⟩, ⟨_, rfl, hszw, heap_alloc_new w' _⟩⟩
      first | (go_simp; done) | (go_simp; rfl)
    · refine ⟨.slice (some ⟨w'.heap.size, 0, none⟩) 1 1, w'.alloc (.cells #[.int .i64 1] 3), .inl ⟨rfl, by show _ < 25; decide, ?_⟩, ⟨fun h => (by cases h), fun _ => (Below.refl _ _).alloc (Nat.le_refl _) _⟩, ⟨_, rfl, hszw, heap_alloc_new w' _⟩⟩
      first | (go_simp; done) | (go_simp; rfl)
    · obtain ⟨b1, e1, k1, k2⟩ : Lit (w.heap.size + 3) 1 psA 52 (y13) w' := hd 5 (by kernel_rfl)
      subst e1
      obtain ⟨b2, e2, k3, k4⟩ : Lit (w.heap.size + 3) 1 #[.int .i64 1] 3 (y14) w' := hd 6 (by kernel_rfl)
      subst e2
      refine ⟨.agg #[.int .i64 1, .slice (some ⟨b1, 0, none⟩) 1 1, .slice (some ⟨b2, 0, none⟩) 1 1, .bool false], w', .inl ⟨rfl, by show _ < 25; decide, ?_⟩, ⟨fun h => (by cases h), fun _ => Below.refl _ _⟩, ⟨_, _, rfl, ⟨b1, rfl, k1, k2⟩, ⟨b2, rfl, k3, k4⟩⟩⟩
      first | (go_simp; done) | (go_simp; rfl)
    · refine ⟨pc 1, w', .inl ⟨rfl, by show _ < 25; decide, ?_⟩, ⟨fun h => (by cases h), fun _ => Below.refl _ _⟩, rfl⟩
      first | (go_simp; done) | (go_simp; rfl)
    · have h8 : y16 = pc 1 := hd 8 (by kernel_rfl)
      subst h8
      refine ⟨.slice (some ⟨w'.heap.size, 0, none⟩) 1 1, w'.alloc (.cells psB 52), .inl ⟨rfl, by show _ < 25; decide, ?_⟩, ⟨fun h => (by cases h), fun _ => (Below.refl _ _).alloc (Nat.le_refl _) _⟩, ⟨_, rfl, hszw, heap_alloc_new w' _⟩⟩
      first | (go_simp; done) | (go_simp; rfl)
    · refine ⟨.slice (some ⟨w'.heap.size, 0, none⟩) 1 1, w'.alloc (.cells #[.int .i64 2] 3), .inl ⟨rfl, by show _ < 25; decide, ?_⟩, ⟨fun h => (by cases h), fun _ => (Below.refl _ _).alloc (Nat.le_refl _) _⟩, ⟨_, rfl, hszw, heap_alloc_new w' _⟩⟩
      first | (go_simp; done) | (go_simp; rfl)
    · obtain ⟨b1, e1, k1, k2⟩ : Lit (w.heap.size + 3) 1 psB 52 (y17) w' := hd 9 (by kernel_rfl)
      subst e1
      obtain ⟨b2, e2, k3, k4⟩ : Lit (w.heap.size + 3) 1 #[.int .i64 2] 3 (y18) w' := hd 10 (by kernel_rfl)
      subst e2
      refine ⟨.agg #[.int .i64 2, .slice (some ⟨b1, 0, none⟩) 1 1, .slice (some ⟨b2, 0, none⟩) 1 1, .bool false], w', .inl ⟨rfl, by show _ < 25; decide, ?_⟩, ⟨fun h => (by cases h), fun _ => Below.refl _ _⟩, ⟨_, _, rfl, ⟨b1, rfl, k1, k2⟩, ⟨b2, rfl, k3, k4⟩⟩⟩
      first | (go_simp; done) | (go_simp; rfl)
    · refine ⟨pc 0, w', .inl ⟨rfl, by show _ < 25; decide, ?_⟩, ⟨fun h => (by cases h), fun _ => Below.refl _ _⟩, rfl⟩
      first | (go_simp; done) | (go_simp; rfl)
    · refine ⟨pc 1, w', .inl ⟨rfl, by show _ < 25; decide, ?_⟩, ⟨fun h => (by cases h), fun _ => Below.refl _ _⟩, rfl⟩
      first | (go_simp; done) | (go_simp; rfl)
    · have h12 : y20 = pc 0 := hd 12 (by kernel_rfl)
      subst h12
      have h13 : y21 = pc 1 := hd 13 (by kernel_rfl)
      subst h13
      refine ⟨.slice (some ⟨w'.heap.size, 0, none⟩) 2 2, w'.alloc (.cells psC 52), .inl ⟨rfl, by show _ < 25; decide, ?_⟩, ⟨fun h => (by cases h), fun _ => (Below.refl _ _).alloc (Nat.le_refl _) _⟩, ⟨_, rfl, hszw, heap_alloc_new w' _⟩⟩
      first | (go_simp; done) | (go_simp; rfl)
    · obtain ⟨b1, e1, k1, k2⟩ : Lit (w.heap.size + 3) 2 psC 52 (y22) w' := hd 14 (by kernel_rfl)
      subst e1
      refine ⟨.agg #[.int .i64 3, .slice (some ⟨b1, 0, none⟩) 2 2, .slice none 0 0, .bool false], w', .inl ⟨rfl, by show _ < 25; decide, ?_⟩, ⟨fun h => (by cases h), fun _ => Below.refl _ _⟩, ⟨_, rfl, b1, rfl, k1, k2⟩⟩
      first | (go_simp; done) | (go_simp; rfl)
    · obtain ⟨v1, v2, e1, l1, l2⟩ : LitH (w.heap.size + 3) 1 1 psA 1 #[.int .i64 1] (y15) w' := hd 7 (by kernel_rfl)
      subst e1
      obtain ⟨v3, v4, e2, l3, l4⟩ : LitH (w.heap.size + 3) 2 1 psB 1 #[.int .i64 2] (y19) w' := hd 11 (by kernel_rfl)
      subst e2
      obtain ⟨v5, e3, l5⟩ : LitH3 (w.heap.size + 3) 3 2 psC (y23) w' := hd 15 (by kernel_rfl)
      subst e3
      have hst : Stays w.heap.size w' (w'.alloc (.cells #[.int .i64 1, v1, v2, .bool false, .int .i64 2, v3, v4, .bool false, .int .i64 3, v5, .slice none 0 0, .bool false] 78)) := fun k hk _ => Below.heap_alloc w' _ k hk
      obtain ⟨x1, rfl, y1, z1⟩ := l1
      obtain ⟨x2, rfl, y2, z2⟩ := l2
      obtain ⟨x3, rfl, y3, z3⟩ := l3
      obtain ⟨x4, rfl, y4, z4⟩ := l4
      obtain ⟨x5, rfl, y5, z5⟩ := l5
      refine ⟨.slice (some ⟨w'.heap.size, 0, none⟩) 3 3, w'.alloc (.cells #[.int .i64 1, .slice (some ⟨x1, 0, none⟩) 1 1, .slice (some ⟨x2, 0, none⟩) 1 1, .bool false, .int .i64 2, .slice (some ⟨x3, 0, none⟩) 1 1, .slice (some ⟨x4, 0, none⟩) 1 1, .bool false, .int .i64 3, .slice (some ⟨x5, 0, none⟩) 2 2, .slice none 0 0, .bool false] 78), .inl ⟨rfl, by show _ < 25; decide, ?_⟩, ⟨fun h => (by cases h), fun _ => (Below.refl _ _).alloc (Nat.le_refl _) _⟩, ⟨_, _, _, _, _, _, rfl, hszw, heap_alloc_new w' _, Lit.grow hrb ⟨x1, rfl, y1, z1⟩ hst, Lit.grow hrb ⟨x2, rfl, y2, z2⟩ hst, Lit.grow hrb ⟨x3, rfl, y3, z3⟩ hst, Lit.grow hrb ⟨x4, rfl, y4, z4⟩ hst, Lit.grow hrb ⟨x5, rfl, y5, z5⟩ hst⟩⟩
      first | (go_simp; done) | (go_simp; rfl)
    · obtain ⟨v1, e1, l1⟩ : ∃ v1, y11 = .agg #[v1, .int .i64 thr, .bool false, .slice none 0 0, .slice none 0 0] ∧ Lit (w.heap.size + 3) 1 nds 69 v1 w' := hd 3 (by kernel_rfl)
      subst e1
      obtain ⟨b1, rfl, y1, z1⟩ := l1
      obtain ⟨cs, hc, hcs⟩ := hI.res
      obtain ⟨x0, x1, x2, x3, x4, rfl⟩ := five hcs
      have r0 : w'.cell? ⟨w.heap.size, 0, none⟩ = some x0 := (cell_of_row _ _ 0 _ _ _ hc).trans rfl
      have r1 : w'.cell? ⟨w.heap.size, 1, none⟩ = some x1 := (cell_of_row _ _ 1 _ _ _ hc).trans rfl
      have r2 : w'.cell? ⟨w.heap.size, 2, none⟩ = some x2 := (cell_of_row _ _ 2 _ _ _ hc).trans rfl
      have r3 : w'.cell? ⟨w.heap.size, 3, none⟩ = some x3 := (cell_of_row _ _ 3 _ _ _ hc).trans rfl
      have r4 : w'.cell? ⟨w.heap.size, 4, none⟩ = some x4 := (cell_of_row _ _ 4 _ _ _ hc).trans rfl
      have fz : ∀ i, w'.frozen? ⟨w.heap.size, i, none⟩ = false := fun i => blk_frozen hc
      have hg := grownBy_trans (grownBy_trans (grownBy_trans (grownBy_trans (grownBy_set w' ⟨w.heap.size, 0, none⟩ (.slice (some ⟨b1, 0, none⟩) 1 1)) (grownBy_set _ ⟨w.heap.size, 1, none⟩ (.int .i64 thr))) (grownBy_set _ ⟨w.heap.size, 2, none⟩ (.bool false))) (grownBy_set _ ⟨w.heap.size, 3, none⟩ (.slice none 0 0))) (grownBy_set _ ⟨w.heap.size, 4, none⟩ (.slice none 0 0))
      have hk := blk_set (i := 4) (blk_set (i := 3) (blk_set (i := 2) (blk_set (i := 1) (blk_set (i := 0) hc (.slice (some ⟨b1, 0, none⟩) 1 1)) (.int .i64 thr)) (.bool false)) (.slice none 0 0)) (.slice none 0 0)
      refine ⟨undef, _, .inr ⟨rfl, rfl, by show 25 ≤ _; decide, ?_⟩, ⟨fun _ => ⟨hg, _, hk, rfl⟩, fun h => absurd rfl h⟩, ⟨_, hk, b1, rfl, y1, (hg.block _ (blk_lt z1) (fun e => by injection e with e; have e3 : b1 = w.heap.size := e; omega)).trans z1⟩⟩
      first | (go_simp; done) | (go_simp; rfl)
    · have h16 : LitL (w.heap.size + 3) y24 w' := hd 16 (by kernel_rfl)
      refine ⟨_, w', .inl ⟨rfl, by show _ < 25; decide, ?_⟩, ⟨fun h => (by cases h), fun _ => Below.refl _ _⟩, h16⟩
      first | (go_simp; done) | (go_simp; rfl)
  · intro a' w' hF hR hG
    obtain ⟨tm, df⟩ := a'
    obtain ⟨y0, y1, y2, y3, y4, y5, y6, y7, y8, y9, y10, y11, y12, y13, y14, y15, y16, y17, y18, y19, y20, y21, y22, y23, y24, rfl⟩ := arr25 hF.size
    obtain rfl : df = [] := hF.defers
    have far : ∀ s, s < 8 → s ≠ 3 → ∀ j, j < 19 → slEx j ≠ s := fun s h1 h2 j hj => by
      unfold slEx
      split
      · omega
      · split <;> omega
    have s2 : y2 = .pointer (some ⟨w.heap.size, 0, none⟩) := hF.far 2 (far 2 (by omega) (by omega))
    subst s2
    have hl : LitL (w.heap.size + 3) y3 w' := hG 18 (by decide)
    obtain ⟨v1, hk, ⟨b1, rfl, z1, z2⟩⟩ : ∃ v1, w'.heap[w.heap.size]? = some (.cells #[v1, .int .i64 thr, .bool false, .slice none 0 0, .slice none 0 0] 26 (0, 0)) ∧ Lit (w.heap.size + 3) 1 nds 69 v1 w' := hG 17 (by decide)
    obtain ⟨A4, rfl, hr4⟩ := litL hl
    have r0 : w'.cell? ⟨w.heap.size, 0, none⟩ = some (.slice (some ⟨b1, 0, none⟩) 1 1) := (cell_of_row _ _ 0 _ _ _ hk).trans rfl
    have r1 : w'.cell? ⟨w.heap.size, 1, none⟩ = some (.int .i64 thr) := (cell_of_row _ _ 1 _ _ _ hk).trans rfl
    have r2 : w'.cell? ⟨w.heap.size, 2, none⟩ = some (.bool false) := (cell_of_row _ _ 2 _ _ _ hk).trans rfl
    have r3 : w'.cell? ⟨w.heap.size, 3, none⟩ = some (.slice none 0 0) := (cell_of_row _ _ 3 _ _ _ hk).trans rfl
    have r4 : w'.cell? ⟨w.heap.size, 4, none⟩ = some (.slice none 0 0) := (cell_of_row _ _ 4 _ _ _ hk).trans rfl
    have HR4 := As.mk hr4
    have HN := As.mk (litP1 (ok := fun k => w.heap.size + 3 ≤ k ∧ k < w'.heap.size) strS 2 z2 ⟨z1, blk_lt z2⟩)
    have HBW : As (Below w.heap.size w w') := ⟨hR.os.trans hB0.os, hR.tape.trans hB0.tape, hR.output.trans hB0.output, Nat.le_trans hB0.size hR.size, fun k hk => (hR.block k (by omega) (by omega)).trans (hB0.block k hk)⟩
    clear hF hG hl hk hr4 hR far X0 X1 X2 z2
    go_wp2
    refine bodyPost_ret (v := .tuple #[.agg #[.slice (some ⟨b1, 0, none⟩) 1 1, .int .i64 thr, .bool false, .slice none 0 0, .slice none 0 0], .slice A4 3 3]) ?_ rfl ?_
    · simp [results, Try.results35, go_sem, r0, r1, r2, r3, r4]
    · refine ⟨some ⟨b1, 0, none⟩, A4, rfl, ⟨HN.o.mono fun k hk => ⟨by omega, hk.2⟩, Nat.le_refl _, Row.nil _ _ _ _, Nat.le_refl _, Row.nil _ _ _ _, Nat.le_refl _⟩, HR4.o.mono fun k hk => ⟨by omega, hk.2⟩, HBW.o⟩
end Go.Proofs.Ytlinhckgdfhppaa
namespace Go.Proofs.Ytlinhckgdfhppaa
open Go Go.RowKit Go.Proofs.YtlinhckgdfhppaaK Go.Sort

/-! The chapter's example, reckoned. -/
theorem sortU_unique (xs l' : List (BitVec 64)) (hp : l'.Perm xs) (hs : l'.Pairwise fun a b => ¬ ltU b a) : l' = sortU xs := by
  have hq : (sortU xs).Pairwise fun a b => ¬ ltU b a := by
    have := List.pairwise_mergeSort (le := fun x y => !(ltOf cfU) y x) (by
      intro a b c h1 h2
      simp only [Bool.not_eq_true'] at *
      exact swoU.ntrans _ _ _ h2 h1) (by
      intro a b
      rw [Bool.or_eq_true, Bool.not_eq_true', Bool.not_eq_true', ltU_no, ltU_no]
      unfold ltU
      omega) xs
    exact this.imp fun h => ltU_no.1 (by simpa using h)
  exact List.Perm.eq_of_pairwise (le := fun a b => ¬ ltU b a) (fun a b _ _ h1 h2 => totU a b (ltU_no.2 h2) (ltU_no.2 h1)) hs hq (hp.trans (List.mergeSort_perm _ _).symm)
theorem sortEx : sortH exL = exL := (sortH_unique exL exL (by decide +kernel) (List.Perm.refl _) (by decide +kernel)).symm
theorem validEx (thr : Int) (h : thr = 0 ∨ thr = 2) : Valid (exG thr) exL := by rcases h with rfl | rfl <;> decide +kernel
/-- The example's sums. -/
def tab (thr : Int) (s : Nat) : Int := lackSum (exG thr) exL (pickTo exL s 3)
theorem psumEx (thr : Int) (h : thr = 0 ∨ thr = 2) (s : Nat) : psum (exG thr) exL s = tab thr s := by
  have := psum_pick (validEx thr h) s
  rw [sortEx] at this
  exact this
theorem possEx (thr : Int) (h : thr = 0 ∨ thr = 2) : possOf (exG thr) exL = 0 := by
  refine possOf_yes (validEx thr h) ?_
  rw [psumEx thr h]
  rcases h with rfl | rfl <;> decide +kernel
theorem selEx (thr : Int) (h : thr = 0 ∨ thr = 2) : selTo (exG thr) exL (2 ^ exL.length) = ((List.range 8).filter fun s => decide (tab thr s = 0)).map (BitVec.ofNat 64) := by
  unfold selTo
  congr 1
  show (List.range 8).filter _ = _
  refine List.filter_congr fun s _ => ?_
  rw [psumEx thr h]
theorem setsEx0 : setsP (exG 0) exL = [4#64, 3#64, 5#64, 6#64, 7#64] := by
  unfold setsP
  rw [selEx 0 (.inl rfl)]
  exact (sortU_unique _ _ (by decide +kernel) (by decide +kernel)).symm
theorem setsEx2 : setsP (exG 2) exL = [3#64, 7#64] := by
  unfold setsP
  rw [selEx 2 (.inr rfl)]
  exact (sortU_unique _ _ (by decide +kernel) (by decide +kernel)).symm
theorem fewEx2 : fewestP (exG 2) exL = [1, 2] := by
  unfold fewestP
  rw [if_pos (possEx 2 (.inr rfl)), setsEx2, sortEx]
  decide +kernel
theorem fewEx0 : fewestP (exG 0) exL = [3] := by
  unfold fewestP
  rw [if_pos (possEx 0 (.inl rfl)), setsEx0, sortEx]
  decide +kernel
theorem minOKEx (x : BitVec 64) : minOK (exG 0) exL exL.length x ↔ ∀ i, i < 3 → x.toNat.testBit i = true → tab 0 (clrB x i).toNat ≠ 0 := by
  unfold minOK
  simp only [psumEx 0 (.inl rfl)]
  exact Iff.rfl
theorem minEx : minimalP (exG 0) exL = [[3], [1, 2]] := by
  unfold minimalP minTo
  rw [if_pos (possEx 0 (.inl rfl)), setsEx0, sortEx]
  have e : ([4#64, 3#64, 5#64, 6#64, 7#64].take 5).filter (fun x => decide (minOK (exG 0) exL exL.length x)) = ([4#64, 3#64, 5#64, 6#64, 7#64]).filter fun x => decide (∀ i, i < 3 → x.toNat.testBit i = true → tab 0 (clrB x i).toNat ≠ 0) := by
    refine List.filter_congr fun x _ => ?_
    exact decide_eq_decide.2 (minOKEx x)
  show List.map _ (([4#64, 3#64, 5#64, 6#64, 7#64].take 5).filter _) = _
  rw [e]
  decide +kernel
def nextP (p : Nat → Int) (s : Nat) : Nat → Nat × Int
  | 0 => (0, -1)
  | k + 1 => if (nextP p s k).2 < p s - p (s ||| 2 ^ k) then (k, p s - p (s ||| 2 ^ k)) else nextP p s k
theorem nextP_eq (g : Goal) (list : List Hold) (s : Nat) : ∀ k, nextTo g list s k = nextP (psum g list) s k
  | 0 => rfl
  | k + 1 => by rw [nextTo, nextP, nextP_eq g list s k]; rfl
theorem nxtEx (s : Nat) : nxt (exG 2) exL s = (nextP (tab 2) s 3).1 := by
  unfold nxt
  rw [nextP_eq, show psum (exG 2) exL = tab 2 from funext (psumEx 2 (.inr rfl))]
  rfl
theorem grEx : grTo (exG 2) exL 2 = (3, [1, 2]) := by
  have h1 : grTo (exG 2) exL 1 = (1, [1]) := by
    rw [grTo, if_neg (by rw [psumEx 2 (.inr rfl)]; decide +kernel), nxtEx, sortEx]
    decide +kernel
  rw [grTo, h1, if_neg (by rw [psumEx 2 (.inr rfl)]; decide +kernel), nxtEx, sortEx]
  decide +kernel
theorem greedyEx (out : List Int) (h : IsGreedy (exG 2) exL out) : out = [1, 2] := by
  obtain ⟨m, h1, h2⟩ := h.1 (possEx 2 (.inr rfl))
  have h3 : psum (exG 2) exL (grTo (exG 2) exL 2).1 = 0 := by rw [grEx, psumEx 2 (.inr rfl)]; decide +kernel
  rw [h2, grTo_one m 2 h1 h3, grEx]
theorem fetEx : fetchesP (exG 2) exL [3, 1] = [(3, (strS, 0)), (3, (strS, 1))] := by decide +kernel
end Go.Proofs.Ytlinhckgdfhppaa
namespace Go.Proofs.Ytlinhckgdfhppaa
open Go Go.RowKit Go.Proofs.YtlinhckgdfhppaaK

theorem litI2 {w : World} {ok : Nat → Prop} {b : Nat} {t : TypeId} (i i' : Int) (h : w.heap[b]? = some (.cells #[.int .i64 i, .int .i64 i'] t (0, 0))) (hok : ok b) : Row (Kn.int .i64) w ok (some ⟨b, 0, none⟩) 2 [i, i'] :=
  litRow (Kn.int .i64) [i, i'] h (by simp) hok fun j x hx => by
    match j, hx with
    | 0, hx =>
      obtain rfl : i = x := by simpa using hx
      refine ⟨_, rfl, fun k u hu => ?_⟩
      match k, hu with
      | 0, hu => exact hu
    | 1, hx =>
      obtain rfl : i' = x := by simpa using hx
      refine ⟨_, rfl, fun k u hu => ?_⟩
      match k, hu with
      | 0, hu => exact hu
    | j + 2, hx => simp at hx
theorem GoalIn.wide {w w' : World} {n0 : Nat} {g : Goal} {A1 A2 A3 : Option Addr} {c1 c2 c3 : Nat} (h : GoalIn w (fun k => n0 ≤ k ∧ k < w.heap.size) g A1 c1 A2 c2 A3 c3) (hb : Below w.heap.size w w') : GoalIn w' (fun k => k < w'.heap.size) g A1 c1 A2 c2 A3 c3 :=
  ⟨(h.n.below hb).mono fun k hk => Nat.lt_of_lt_of_le hk.2 hb.size, h.cn, (h.p.below hb).mono fun k hk => Nat.lt_of_lt_of_le hk.2 hb.size, h.cp, (h.s.below hb).mono fun k hk => Nat.lt_of_lt_of_le hk.2 hb.size, h.cs⟩
theorem row_wide {α : Type} {d : Kn α} {w w' : World} {n0 : Nat} {A : Option Addr} {n : Nat} {xs : List α} (h : Row d w (fun k => n0 ≤ k ∧ k < w.heap.size) A n xs) (hb : Below w.heap.size w w') : Row d w' (fun k => k < w'.heap.size) A n xs :=
  (h.below hb).mono fun k hk => Nat.lt_of_lt_of_le hk.2 hb.size
set_option maxRecDepth 100000 in
set_option maxHeartbeats 2000000 in
theorem awake_any (w : World) : Calls Try.prog 11 #[] w fun e w' => e = .returned (.bool true) ∧ Below w.heap.size w w' := by
  have EX := As.mk fun thr W => example_any thr W
  go_enter Try.func11, Try.ntmps11
  go_upto_region 2 with (go_at_call 35; refine (EX.o _ _).mono ?_; rintro e w1 ⟨A1, A4, rfl, hg1, hl1, hb1⟩)
  go_upto_region 3 with (go_at_call 35; refine (EX.o _ _).mono ?_; rintro e w2 ⟨B1, B4, rfl, hg2, hl2, hb2⟩)
  obtain ⟨W1, hW1⟩ : ∃ W1 : World, W1 = w1.alloc (.cells (goalCells (exG 2) A1 1 none 0 none 0) 26) := ⟨_, rfl⟩
  obtain ⟨W2, hW2⟩ : ∃ W2 : World, W2 = w2.alloc (.cells (goalCells (exG 0) B1 1 none 0 none 0) 26) := ⟨_, rfl⟩
  rw [← hW1] at hg2 hl2 hb2
  rw [← hW2]
  have u1 : Below w1.heap.size w1 W1 := by rw [hW1]; exact (Below.refl _ _).alloc (Nat.le_refl _) _
  have u2 : Below w2.heap.size w2 W2 := by rw [hW2]; exact (Below.refl _ _).alloc (Nat.le_refl _) _
  have s1 : W1.heap.size = w1.heap.size + 1 := by rw [hW1]; simp
  have s2 : W2.heap.size = w2.heap.size + 1 := by rw [hW2]; simp
  have s3 := hb2.size
  have x1 : W1.heap[w1.heap.size]? = some (.cells (goalCells (exG 2) A1 1 none 0 none 0) 26 (0, 0)) := by rw [hW1]; exact heap_alloc_new w1 _
  have x2 : W2.heap[w2.heap.size]? = some (.cells (goalCells (exG 0) B1 1 none 0 none 0) 26 (0, 0)) := by rw [hW2]; exact heap_alloc_new w2 _
  have b12 : Below w1.heap.size w1 W2 := u1.trans ((hb2.mono (by omega)).trans (u2.mono (by omega)))
  have HBW : As (Below w.heap.size w W2) := ⟨hb1.trans (b12.mono hb1.size)⟩
  have x1' : W2.heap[w1.heap.size]? = some (.cells (goalCells (exG 2) A1 1 none 0 none 0) 26 (0, 0)) := (u2.block _ (by omega)).trans ((hb2.block _ (by omega)).trans x1)
  have BX : As (∀ W : World, Below W2.heap.size W2 W → W.cell? ⟨w1.heap.size, 0, none⟩ = some (.slice A1 (exG 2).needs.length 1) ∧ W.cell? ⟨w1.heap.size, 1, none⟩ = some (.int .i64 (exG 2).thr) ∧ W.cell? ⟨w1.heap.size, 2, none⟩ = some (.bool (exG 2).index) ∧ W.cell? ⟨w1.heap.size, 3, none⟩ = some (.slice none (exG 2).pieces.length 0) ∧ W.cell? ⟨w1.heap.size, 4, none⟩ = some (.slice none (exG 2).shares.length 0) ∧
      W.cell? ⟨w2.heap.size, 0, none⟩ = some (.slice B1 (exG 0).needs.length 1) ∧ W.cell? ⟨w2.heap.size, 1, none⟩ = some (.int .i64 (exG 0).thr) ∧ W.cell? ⟨w2.heap.size, 2, none⟩ = some (.bool (exG 0).index) ∧ W.cell? ⟨w2.heap.size, 3, none⟩ = some (.slice none (exG 0).pieces.length 0) ∧ W.cell? ⟨w2.heap.size, 4, none⟩ = some (.slice none (exG 0).shares.length 0)) := ⟨fun W hW => by
    have e1 : W.heap[w1.heap.size]? = _ := (hW.block _ (by omega)).trans x1'
    have e2 : W.heap[w2.heap.size]? = _ := (hW.block _ (by omega)).trans x2
    exact ⟨(cell_of_row _ _ 0 _ _ _ e1).trans rfl, (cell_of_row _ _ 1 _ _ _ e1).trans rfl, (cell_of_row _ _ 2 _ _ _ e1).trans rfl, (cell_of_row _ _ 3 _ _ _ e1).trans rfl, (cell_of_row _ _ 4 _ _ _ e1).trans rfl, (cell_of_row _ _ 0 _ _ _ e2).trans rfl, (cell_of_row _ _ 1 _ _ _ e2).trans rfl, (cell_of_row _ _ 2 _ _ _ e2).trans rfl, (cell_of_row _ _ 3 _ _ _ e2).trans rfl, (cell_of_row _ _ 4 _ _ _ e2).trans rfl⟩⟩
  have G2 : As (∀ W : World, Below W2.heap.size W2 W → GoalIn W (fun k => k < W.heap.size) (exG 2) A1 1 none 0 none 0) := ⟨fun W hW => hg1.wide (bthen b12 hW (Nat.le_refl _))⟩
  have G0 : As (∀ W : World, Below W2.heap.size W2 W → GoalIn W (fun k => k < W.heap.size) (exG 0) B1 1 none 0 none 0) := ⟨fun W hW => hg2.wide (bthen u2 hW (Nat.le_refl _))⟩
  have LL : As (∀ W : World, Below W2.heap.size W2 W → Row kHold W (fun k => k < W.heap.size) A4 exL.length exL) := ⟨fun W hW => row_wide hl1 (bthen b12 hW (Nat.le_refl _))⟩
  have FEW2 : As (∀ W : World, Below W2.heap.size W2 W → Calls Try.prog 12 #[.agg (goalCells (exG 2) A1 1 none 0 none 0), .slice A4 3 3] W fun e w' => ∃ A c, e = .returned (.tuple #[.slice A 2 c, .int .i64 0]) ∧ Row (Kn.int .i64) w' (fun k => k < w'.heap.size) A 2 [1, 2] ∧ Below W2.heap.size W2 w') := ⟨fun W hW => by
    have := fewest_any (exG 2) A1 1 none 0 none 0 A4 3 exL W (G2.o W hW) (LL.o W hW)
    rw [fewEx2, possEx 2 (.inr rfl)] at this
    exact this.mono fun e w' ⟨A, c, he, _, hr, hb⟩ => ⟨A, c, he, hr.mono fun _ hk => hk.2, bthen hW hb (Nat.le_refl _)⟩⟩
  have FEW0 : As (∀ W : World, Below W2.heap.size W2 W → Calls Try.prog 12 #[.agg (goalCells (exG 0) B1 1 none 0 none 0), .slice A4 3 3] W fun e w' => ∃ A c, e = .returned (.tuple #[.slice A 1 c, .int .i64 0]) ∧ Row (Kn.int .i64) w' (fun k => k < w'.heap.size) A 1 [3] ∧ Below W2.heap.size W2 w' ∧ Below W.heap.size W w') := ⟨fun W hW => by
    have := fewest_any (exG 0) B1 1 none 0 none 0 A4 3 exL W (G0.o W hW) (LL.o W hW)
    rw [fewEx0, possEx 0 (.inl rfl)] at this
    exact this.mono fun e w' ⟨A, c, he, _, hr, hb⟩ => ⟨A, c, he, hr.mono fun _ hk => hk.2, bthen hW hb (Nat.le_refl _), hb⟩⟩
  have MIN : As (∀ W : World, Below W2.heap.size W2 W → Calls Try.prog 13 #[.agg (goalCells (exG 0) B1 1 none 0 none 0), .slice A4 3 3] W fun e w' => ∃ A c, e = .returned (.tuple #[.slice A 2 c, .int .i64 0]) ∧ Row kInts w' (fun k => k < w'.heap.size) A 2 [[3], [1, 2]] ∧ Below W2.heap.size W2 w' ∧ Below W.heap.size W w') := ⟨fun W hW => by
    have := minimal_any (exG 0) B1 1 none 0 none 0 A4 3 exL W (G0.o W hW) (LL.o W hW) (fun _ => by decide)
    rw [minEx, possEx 0 (.inl rfl)] at this
    exact this.mono fun e w' ⟨A, c, he, hr, hb⟩ => ⟨A, c, he, hr.mono fun _ hk => hk.2, bthen hW hb (Nat.le_refl _), hb⟩⟩
  have GRE : As (∀ W : World, Below W2.heap.size W2 W → Calls Try.prog 26 #[.agg (goalCells (exG 2) A1 1 none 0 none 0), .slice A4 3 3] W fun e w' => ∃ A c, e = .returned (.tuple #[.slice A 2 c, .int .i64 0]) ∧ Row (Kn.int .i64) w' (fun k => k < w'.heap.size) A 2 [1, 2] ∧ Below W2.heap.size W2 w' ∧ Below W.heap.size W w') := ⟨fun W hW => by
    have := greedy_any (exG 2) A1 1 none 0 none 0 A4 3 exL W (G2.o W hW) (LL.o W hW)
    rw [possEx 2 (.inr rfl)] at this
    exact this.mono fun e w' ⟨A, c, out, he, hgr, _, hr, hb⟩ => by
      obtain rfl := greedyEx out hgr
      exact ⟨A, c, he, hr.mono fun _ hk => hk.2, bthen hW hb (Nat.le_refl _), hb⟩⟩
  have FET : As (∀ W : World, Below W2.heap.size W2 W → Calls Try.prog 19 #[.agg (goalCells (exG 2) A1 1 none 0 none 0), .slice A4 3 3, .slice (some ⟨W.heap.size, 0, none⟩) 2 2] (W.alloc (.cells #[.int .i64 3, .int .i64 1] 3)) fun e w' => ∃ A c, e = .returned (.tuple #[.slice A 2 c, .int .i64 0]) ∧ Row kFetch w' (fun k => k < w'.heap.size) A 2 [(3, (strS, 0)), (3, (strS, 1))] ∧ Below W2.heap.size W2 w' ∧ Below W.heap.size W w') := ⟨fun W hW => by
    have hA : Below W.heap.size W (W.alloc (.cells #[.int .i64 3, .int .i64 1] 3)) := (Below.refl _ _).alloc (Nat.le_refl _) _
    have hA2 := bthen hW hA (Nat.le_refl _)
    have := fetches_any (exG 2) A1 1 none 0 none 0 A4 3 exL (some ⟨W.heap.size, 0, none⟩) 2 2 [3, 1] _ (G2.o _ hA2) (LL.o _ hA2) (litI2 3 1 (heap_alloc_new W _) (by simp)) (by omega) (by decide)
    rw [fetEx, checkOf_yes (validEx 2 (.inr rfl))] at this
    exact this.mono fun e w' ⟨A, c, he, _, hr, hb⟩ => ⟨A, c, he, hr.mono fun _ hk => hk.2, bthen hA2 hb (Nat.le_refl _), bthen hA hb (Nat.le_refl _)⟩⟩
  have r2 : Below W2.heap.size W2 W2 := Below.refl _ _
  obtain ⟨p0, p1, p2, p3, p4, q0, q1, q2, q3, q4⟩ := BX.o W2 r2
  clear hg1 hl1 hg2 hl2 hb1 hb2 hW1 hW2 u1 u2 s1 s3 x1 x2 b12 x1' EX G2 G0 LL
  go_upto_region 7 with (first
    | (go_at_call_of 12 A1; refine (FEW2.o _ r2).mono ?_; rintro e w3 ⟨Aa, ca, rfl, ra, hw3⟩; obtain ⟨p0, p1, p2, p3, p4, q0, q1, q2, q3, q4⟩ := BX.o w3 hw3)
    | (go_at_call_of 12 B1; refine (FEW0.o _ hw3).mono ?_; rintro e w4 ⟨Ab, cb, rfl, rb, hw4, hb4⟩; obtain ⟨p0, p1, p2, p3, p4, q0, q1, q2, q3, q4⟩ := BX.o w4 hw4)
    | (go_at_call 13; refine (MIN.o _ hw4).mono ?_; rintro e w5 ⟨Ac, cc, rfl, rc, hw5, hb5⟩; obtain ⟨p0, p1, p2, p3, p4, q0, q1, q2, q3, q4⟩ := BX.o w5 hw5)
    | (go_at_call 26; refine (GRE.o _ hw5).mono ?_; rintro e w6 ⟨Ad, cd, rfl, rd, hw6, hb6⟩; obtain ⟨p0, p1, p2, p3, p4, q0, q1, q2, q3, q4⟩ := BX.o w6 hw6))
  go_upto_region 8 with (go_at_call 19; refine (FET.o _ hw6).mono ?_; rintro e w7 ⟨Ae, ce, rfl, re, hw7, hb7⟩)
  have RA := As.mk ((((ra.below hb4).below hb5).below hb6).below hb7)
  have RB := As.mk (((rb.below hb5).below hb6).below hb7)
  have RC := As.mk ((rc.below hb6).below hb7)
  have RD := As.mk (rd.below hb7)
  have RE := As.mk re
  have INT : As (∀ (A B : Option Addr) (n c c' : Nat) (xs : List Int) (W : World), Row (Kn.int .i64) W (fun _ => True) A n xs → Row (Kn.int .i64) W (fun _ => True) B n xs → Calls Try.prog 18 #[.slice A n c, .slice B n c'] W fun e w' => e = .returned (.bool true) ∧ Below W.heap.size W w') := ⟨fun A B n c c' xs W h1 h2 => by
    have := ints_any A B n c n c' _ xs xs W h1 h2
    rwa [decide_eq_true rfl] at this⟩
  have I12 : As (∀ (A : Option Addr) (c : Nat), Row (Kn.int .i64) w7 (fun _ => True) A 2 [1, 2] → ∀ W : World, Below w7.heap.size w7 W → Calls Try.prog 18 #[.slice A 2 c, .slice (some ⟨W.heap.size, 0, none⟩) 2 2] (W.alloc (.cells #[.int .i64 1, .int .i64 2] 3)) fun e w' => e = .returned (.bool true) ∧ Below w7.heap.size w7 w') := ⟨fun A c h W hW => by
    have hA := bthen hW ((Below.refl W.heap.size W).alloc (Nat.le_refl _) (.cells #[.int .i64 1, .int .i64 2] 3)) (Nat.le_refl _)
    exact (INT.o A _ 2 c 2 [1, 2] _ (h.below hA) (litI2 1 2 (heap_alloc_new W _) trivial)).mono fun e w' ⟨he, hb⟩ => ⟨he, bthen hA hb (Nat.le_refl _)⟩⟩
  have I3 : As (∀ (A : Option Addr) (c : Nat), Row (Kn.int .i64) w7 (fun _ => True) A 1 [3] → ∀ W : World, Below w7.heap.size w7 W → Calls Try.prog 18 #[.slice A 1 c, .slice (some ⟨W.heap.size, 0, none⟩) 1 1] (W.alloc (.cells #[.int .i64 3] 3)) fun e w' => e = .returned (.bool true) ∧ Below w7.heap.size w7 w') := ⟨fun A c h W hW => by
    have hA := bthen hW ((Below.refl W.heap.size W).alloc (Nat.le_refl _) (.cells #[.int .i64 3] 3)) (Nat.le_refl _)
    exact (INT.o A _ 1 c 1 [3] _ (h.below hA) (litI1 3 (heap_alloc_new W _) trivial)).mono fun e w' ⟨he, hb⟩ => ⟨he, bthen hA hb (Nat.le_refl _)⟩⟩
  obtain ⟨ad, C0, k0, eC, _, cc0, _, rc0⟩ := rowInts RC.o 0 (by omega)
  obtain ⟨ad2, C1, k1, eC2, _, cc1, _, rc1⟩ := rowInts RC.o 1 (by omega)
  subst eC
  obtain rfl : ad = ad2 := by injection eC2
  have hcl := World.block_lt_of_cell? w7 _ cc0
  obtain ⟨ad3, es0, eE, _, hel, hK0, hf0⟩ := RE.o.at_ (0, (ByteArray.empty, 0)) 0 (by omega)
  obtain ⟨ad4, es1, eE2, _, _, hK1, hf1⟩ := RE.o.at_ (0, (ByteArray.empty, 0)) 1 (by omega)
  subst eE
  obtain rfl : ad3 = ad4 := by injection eE2
  obtain ⟨ks0, ks1, rfl, hk0, _⟩ := hK0
  obtain ⟨ls0, ls1, rfl, hk1, _⟩ := hK1
  obtain rfl : ks0 = [.int .i64 3] := hk0
  obtain rfl : ls0 = [.int .i64 3] := hk1
  have f0 : w7.cell? ad3 = some (.int .i64 3) := hf0 0 _ rfl
  have f1 : w7.cell? (ad3.add 3) = some (.int .i64 3) := hf1 0 _ rfl
  have JA := As.mk (I12.o Aa ca (RA.o.mono fun _ _ => trivial))
  have JB := As.mk (I3.o Ab cb (RB.o.mono fun _ _ => trivial))
  have JC0 := As.mk (I3.o C0 k0 (rc0.mono fun _ _ => trivial))
  have JC1 := As.mk (I12.o C1 k1 (rc1.mono fun _ _ => trivial))
  have JD := As.mk (I12.o Ad cd (RD.o.mono fun _ _ => trivial))
  have CE : As (∀ W : World, Below w7.heap.size w7 W → W.cell? ad = some (.slice C0 1 k0) ∧ W.cell? ⟨ad.block, ad.off + 1, none⟩ = some (.slice C1 2 k1) ∧ W.cell? ad3 = some (.int .i64 3) ∧ W.cell? ⟨ad3.block, ad3.off + 3, none⟩ = some (.int .i64 3)) := ⟨fun W hW => ⟨(hW.cell (p := ad) hcl).trans cc0, (hW.cell (p := ad.add 1) (by rw [block_add]; exact hcl)).trans cc1, (hW.cell (p := ad3) hel).trans f0, (hW.cell (p := ad3.add 3) (by rw [block_add]; exact hel)).trans f1⟩⟩
  have v0 : Below w7.heap.size w7 w7 := Below.refl _ _
  clear p0 p1 p2 p3 p4 q0 q1 q2 q3 q4 BX FEW2 FEW0 MIN GRE FET
  go_wp2_with (first
    | (go_at_call_of 18 Aa; refine (JA.o _ v0).mono ?_; rintro e w8 ⟨rfl, v1⟩)
    | (go_at_call_of 18 Ab; refine (JB.o _ v1).mono ?_; rintro e w9 ⟨rfl, v2⟩; obtain ⟨m0, m1, m2, m3⟩ := CE.o w9 v2)
    | (go_at_call_of 18 C0; refine (JC0.o _ v2).mono ?_; rintro e w10 ⟨rfl, v3⟩; obtain ⟨m0, m1, m2, m3⟩ := CE.o w10 v3)
    | (go_at_call_of 18 C1; refine (JC1.o _ v3).mono ?_; rintro e w11 ⟨rfl, v4⟩)
    | (go_at_call_of 18 Ad; refine (JD.o _ v4).mono ?_; rintro e w12 ⟨rfl, v5⟩; obtain ⟨m0, m1, m2, m3⟩ := CE.o w12 v5))
  go_ret
  exact ⟨rfl, bthen (bthen HBW.o hw7 (Nat.le_refl _)) v5 (Nat.le_refl _)⟩
end Go.Proofs.Ytlinhckgdfhppaa
