/- Maps, as functions from plain keys to plain elements. -/
import Derived.Test.YtlinhckgdfhppaaK4
import Derived.MapKept
import Derived.ChangeMaps4
import Derived.Maps.OwnSet
import Derived.WideKeyRuns
set_option linter.unusedSimpArgs false
set_option linter.unusedVariables false
namespace Go.Proofs.YtlinhckgdfhppaaK
open Go Go.RowKit
open Go.ChangeMaps (setBlock)

section
variable {κ υ : Type} [DecidableEq κ]
/-- The first entry at a key. -/
def hit (x : κ) : List (κ × Value) → Nat → Option (Nat × Value)
  | [], _ => none
  | p :: m, i => if x = p.1 then some (i, p.2) else hit x m (i + 1)

/-- What the laws on maps need of a key's type. -/
structure KeyRun (P : Program) (k : TypeId) (ek : κ → Value) : Prop where
  check : ∀ (w : World) (em : Bool) (x : κ), (Instr.checkKey em 10000 k (ek x)).run P w = .ok () w
  find : ∀ (w : World) (x : κ) (es : List MapEntry) (m : List (κ × Value)), es.map (fun e => (e.key, e.val)) = m.map (fun p => (ek p.1, p.2)) → (Instr.findKey k (ek x) es).run P w = .ok (hit x m 0) w
  stays : ∀ (w : World) (x : κ), (Instr.keyThatStays (ek x) (ek x)).run P w = .ok (ek x) w

/-- What a map says of a key. -/
def look (m : List (κ × υ)) (x : κ) : Option υ := (m.find? fun p => decide (x = p.1)).map (·.2)
theorem look_nil (x : κ) : look ([] : List (κ × υ)) x = none := rfl
theorem look_cons (p : κ × υ) (m : List (κ × υ)) (x : κ) : look (p :: m) x = if x = p.1 then some p.2 else look m x := by
  unfold look
  rw [List.find?_cons]
  by_cases h : x = p.1 <;> simp [h]
/-- A map with a key set. -/
def upd (f : κ → Option υ) (x : κ) (v : υ) : κ → Option υ := fun y => if y = x then some v else f y
theorem upd_same (f : κ → Option υ) (x : κ) (v : υ) : upd f x v x = some v := if_pos rfl
theorem upd_far (f : κ → Option υ) (x : κ) (v : υ) (y : κ) (h : y ≠ x) : upd f x v y = f y := if_neg h

theorem hit_look (x : κ) (ev : υ → Value) : ∀ (m : List (κ × υ)) (i : Nat), (look m x = none ∧ hit x (m.map fun p => (p.1, ev p.2)) i = none) ∨ ∃ j v y, look m x = some v ∧ m[j]? = some (y, v) ∧ y = x ∧ hit x (m.map fun p => (p.1, ev p.2)) i = some (i + j, ev v) ∧ ∀ v' z, look (m.set j (x, v')) z = if z = x then some v' else look m z
  | [], i => .inl ⟨rfl, rfl⟩
  | p :: m, i => by
    rw [look_cons, List.map_cons, hit]
    by_cases h : x = p.1
    · refine .inr ⟨0, p.2, p.1, if_pos h, rfl, h.symm, by rw [if_pos h]; rfl, fun v' z => ?_⟩
      rw [List.set_cons_zero, look_cons, look_cons]
      by_cases hz : z = x
      · rw [if_pos hz, if_pos hz]
      · rw [if_neg hz, if_neg hz, if_neg (h ▸ hz)]
    · rw [if_neg h, if_neg h]
      rcases hit_look x ev m (i + 1) with ⟨h1, h2⟩ | ⟨j, v, y, h1, h2, h3, h4, h5⟩
      · exact .inl ⟨h1, h2⟩
      · refine .inr ⟨j + 1, v, y, h1, h2, h3, by rw [h4]; congr 2; omega, fun v' z => ?_⟩
        rw [List.set_cons_succ, look_cons, look_cons, h5]
        by_cases hz : z = p.1
        · rw [if_pos hz, if_pos hz, if_neg (fun e' : z = x => h (e'.symm.trans hz))]
        · rw [if_neg hz, if_neg hz]

/-- A block that is a map, which says f. -/
def MapAt (w : World) (b : Nat) (ek : κ → Value) (ev : υ → Value) (f : κ → Option υ) : Prop :=
  ∃ es clock m, w.heap[b]? = some (.map es clock) ∧ es.toList.map (fun e => (e.key, e.val)) = m.map (fun p => (ek p.1, ev p.2)) ∧ ∀ x, look m x = f x
variable {P : Program} {k t e : TypeId} {ek : κ → Value} {ev : υ → Value} {w w' : World} {b : Nat} {f : κ → Option υ}
theorem MapAt.made (w : World) (ek : κ → Value) (ev : υ → Value) : MapAt (w.alloc (.map #[] 0)) w.heap.size ek ev (fun _ => none) :=
  ⟨#[], 0, [], heap_alloc_new w _, rfl, fun _ => rfl⟩
theorem MapAt.lt (h : MapAt w b ek ev f) : b < w.heap.size := by
  obtain ⟨es, clock, m, hb, _⟩ := h
  exact blk_lt hb
theorem MapAt.move (h : MapAt w b ek ev f) (hm : w'.heap[b]? = w.heap[b]?) : MapAt w' b ek ev f := by
  obtain ⟨es, clock, m, hb, hr⟩ := h
  exact ⟨es, clock, m, hm.trans hb, hr⟩
theorem MapAt.below (h : MapAt w b ek ev f) {n : Nat} (hb : Below n w w') (hn : b < n) : MapAt w' b ek ev f := h.move (hb.block b hn)
theorem MapAt.look (h : MapAt w b ek ev f) (K : KeyRun P k ek) (ht : P.underlying t = some (.map k e)) {z : Value} (hz : (zeroValue e).run P w = .ok z w) (x : κ) (c : Bool) :
    (Instr.lookup t (.map (some b)) (ek x) c).run P w = .ok (if c = true then .tuple #[((f x).map ev).getD z, .bool (f x).isSome] else ((f x).map ev).getD z) w := by
  obtain ⟨es, clock, m, hb, hm, hf⟩ := h
  have hfind := K.find w x es.toList (m.map fun p => (p.1, ev p.2)) (by rw [hm, List.map_map]; rfl)
  rcases hit_look x ev m 0 with ⟨h1, h2⟩ | ⟨j, v, y, h1, h2, h3, h4, _⟩
  · rw [h2] at hfind
    rw [← hf, h1]
    cases c <;> simp [Instr.lookup, run_underlying ht, MapKept.run_getObj_map hb, K.check w _ x, hfind, hz, Result.andThen]
  · rw [h4] at hfind
    rw [← hf, h1]
    cases c <;> simp [Instr.lookup, run_underlying ht, MapKept.run_getObj_map hb, K.check w _ x, hfind, hz, Result.andThen]
theorem look_append (m : List (κ × υ)) (x : κ) (v : υ) (h : look m x = none) (z : κ) : look (m ++ [(x, v)]) z = if z = x then some v else look m z := by
  induction m with
  | nil => rw [List.nil_append, look_cons]
  | cons p m ih =>
    rw [look_cons] at h
    rw [List.cons_append, look_cons, look_cons]
    split at h
    · cases h
    · rename_i hx
      rw [ih h]
      by_cases hz : z = p.1
      · rw [if_pos hz, if_pos hz, if_neg (fun e' : z = x => hx (e'.symm.trans hz))]
      · rw [if_neg hz, if_neg hz]
theorem MapAt.store (h : MapAt w b ek ev f) (K : KeyRun P k ek) (ht : P.underlying t = some (.map k e)) (x : κ) (v : υ) :
    ∃ o, (Instr.mapUpdate t (.map (some b)) (ek x) (ev v)).run P w = .ok () (setBlock w b o) ∧ MapAt (setBlock w b o) b ek ev (upd f x v) := by
  obtain ⟨es, clock, m, hb, hm, hf⟩ := h
  have hlt := blk_lt hb
  have hfind := K.find w x es.toList (m.map fun p => (p.1, ev p.2)) (by rw [hm, List.map_map]; rfl)
  rcases hit_look x ev m 0 with ⟨h1, h2⟩ | ⟨j, v0, y, h1, h2, h3, h4, h5⟩
  · rw [h2] at hfind
    refine ⟨.map (es.push ⟨ek x, ev v, clock⟩) (clock + 1), ?_, es.push ⟨ek x, ev v, clock⟩, clock + 1, m ++ [(x, v)], by simp [setBlock, hlt], by simp [hm], fun z => ?_⟩
    · simp [Instr.mapUpdate, run_underlying ht, MapKept.run_getObj_map hb, K.check w false x, hfind, MapKept.run_setObj_map _ hb, Result.andThen, setBlock]
    · rw [look_append m x v h1, hf]; rfl
  · rw [h4] at hfind
    have hj : j < es.toList.length := by
      have := congrArg List.length hm
      simp at this
      have := (List.getElem?_eq_some_iff.1 h2).1
      simp; omega
    have hj' : j < es.size := by simpa using hj
    have hkey : es[j].key = ek x := by
      have := congrArg (fun l => l[j]?) hm
      simp [h2, hj', h3] at this
      exact this.1
    refine ⟨.map (es.modify j fun e' => { e' with key := ek x, val := ev v }) clock, ?_, es.modify j fun e' => { e' with key := ek x, val := ev v }, clock, m.set j (x, v), by simp [setBlock, hlt], ?_, fun z => ?_⟩
    · simp [Instr.mapUpdate, run_underlying ht, MapKept.run_getObj_map hb, K.check w false x, hfind, hj', hkey, K.stays w x, MapKept.run_setObj_map _ hb, Result.andThen, setBlock]
    · apply List.ext_getElem?
      intro i
      have := congrArg (fun l => l[i]?) hm
      simp only [List.getElem?_map, Array.getElem?_toList] at this ⊢
      rw [Array.getElem?_modify, List.getElem?_set]
      by_cases hij : j = i
      · subst hij
        rw [if_pos rfl, if_pos rfl]
        simp [hj', (List.getElem?_eq_some_iff.1 h2).1]
      · rw [if_neg hij, if_neg hij, this]
    · rw [h5, hf]; rfl
end

/-! ### keys -/
theorem findNow_hit {κ : Type} [DecidableEq κ] {ek : κ → Value} {d : TypeDesc} (hs : ∀ x y, Instr.sameNow d (ek x) (ek y) = some (decide (x = y))) (x : κ) : ∀ (es : List MapEntry) (m : List (κ × Value)) (i : Nat), es.map (fun e => (e.key, e.val)) = m.map (fun p => (ek p.1, p.2)) → Instr.findNow d (ek x) es i = some (hit x m i)
  | [], [], i, _ => rfl
  | [], _ :: _, i, h => by cases h
  | _ :: _, [], i, h => by cases h
  | e :: es, p :: m, i, h => by
    simp only [List.map_cons, List.cons.injEq, Prod.mk.injEq] at h
    rw [Instr.findNow, hit, h.1.1, hs]
    by_cases hx : x = p.1
    · simp [hx, h.1.2]
    · simp [hx, findNow_hit hs x es m (i + 1) h.2]
theorem int_key {P : Program} {k : TypeId} {q : IntKind} (hk : P.underlying k = some (.int q)) : KeyRun P k (Value.int q) where
  check := fun w em x => MapKept.run_checkKey hk (by simp [MapKept.IsKey]) em 9999
  find := fun w x es m h => MapKept.run_findKey hk (findNow_hit (fun x y => by by_cases e : x = y <;> simp [Instr.sameNow, e]) x es m 0 h)
  stays := fun w x => MapKept.run_keyThatStays (d := .int q) (by simp [MapKept.IsKey])
theorem string_key {P : Program} {k : TypeId} (hk : P.underlying k = some .string) : KeyRun P k Value.string where
  check := fun w em x => MapKept.run_checkKey hk (by simp [MapKept.IsKey]) em 9999
  find := fun w x es m h => MapKept.run_findKey hk (findNow_hit (fun x y => by by_cases e : x = y <;> simp [Instr.sameNow, e]) x es m 0 h)
  stays := fun w x => MapKept.run_keyThatStays (d := .string) (by simp [MapKept.IsKey])
theorem findAsking_hit {κ : Type} [DecidableEq κ] {ek : κ → Value} {P : Program} {k : TypeId} (hs : ∀ w x y, (Op.equal k (ek x) (ek y)).run P w = .ok (decide (x = y)) w) (w : World) (x : κ) : ∀ (es : List MapEntry) (m : List (κ × Value)) (i : Nat), es.map (fun e => (e.key, e.val)) = m.map (fun p => (ek p.1, p.2)) → (Instr.findAsking k (ek x) es i).run P w = .ok (hit x m i) w
  | [], [], i, _ => by simp [Instr.findAsking, hit]
  | [], _ :: _, i, h => by cases h
  | _ :: _, [], i, h => by cases h
  | e :: es, p :: m, i, h => by
    simp only [List.map_cons, List.cons.injEq, Prod.mk.injEq] at h
    rw [Instr.findAsking, hit, h.1.1]
    by_cases hx : x = p.1
    · simp [hs, hx, h.1.2, Result.andThen]
    · simp [hs, hx, Result.andThen, findAsking_hit hs w x es m (i + 1) h.2]

theorem below_setBlock {n : Nat} {a w : World} (h : Below n a w) {b : Nat} (hb : n ≤ b) (o : Obj) : Below n a (setBlock w b o) :=
  ⟨h.os, h.tape, h.output, by simp [setBlock]; exact h.size, fun k hk => by
    rw [← h.block k hk]
    simp only [setBlock]
    rw [Array.getElem?_setIfInBounds_ne (by omega)]⟩
theorem heap_drew (w : World) (k : Nat) : w.drew.heap[k]? = w.heap[k]? := rfl
theorem heap_setBlock_far (w : World) (b : Nat) (o : Obj) (k : Nat) (h : k ≠ b) : (setBlock w b o).heap[k]? = w.heap[k]? := by
  simp only [setBlock]
  rw [Array.getElem?_setIfInBounds_ne (by omega)]
/-! ### at the operation -/
theorem wpList_lookup_run {P : Program} {w : World} {ops : Array Oper} {rest : List Oper} {o : Oper} {a : Act} {Q : Exit → Act → World → Prop}
    (hg : o.guard = none) (m x : Operand) (t : TypeId) (c : Bool) (hop : o.op = Op.lookup t m x c) (mv key v : Value) (hm : a.eval m = mv) (hx : a.eval x = key) (hrun : (Instr.lookup t mv key c).run P w = .ok v w)
    (hK : wpList P ops Q rest (a.put o.dst v) w) : wpList P ops Q (o :: rest) a w := by
  refine wpList_plain hg fun K' hK' => ?_
  unfold Oper.wp
  simp [execOp, hop, hm, hx, hrun, Result.andThen]
  exact hK' _ _ hK
theorem wpList_store_run {P : Program} {w w' : World} {ops : Array Oper} {rest : List Oper} {o : Oper} {a : Act} {Q : Exit → Act → World → Prop}
    (hg : o.guard = none) (m x y : Operand) (t : TypeId) (hop : o.op = Op.mapUpdate t m x y) (mv key v : Value) (hm : a.eval m = mv) (hx : a.eval x = key) (hy : a.eval y = v) (hrun : (Instr.mapUpdate t mv key v).run P w = .ok () w')
    (hK : wpList P ops Q rest (a.put o.dst (.tuple #[])) w') : wpList P ops Q (o :: rest) a w := by
  refine wpList_plain hg fun K' hK' => ?_
  unfold Oper.wp
  simp [execOp, hop, hm, hx, hy, hrun, Result.andThen]
  exact hK' _ _ hK
theorem wpList_store_map {κ υ : Type} [DecidableEq κ] {ek : κ → Value} {ev : υ → Value} {f : κ → Option υ} {P : Program} {w : World} {ops : Array Oper} {rest : List Oper} {o : Oper} {a : Act} {Q : Exit → Act → World → Prop}
    (hg : o.guard = none) (m x y : Operand) (t : TypeId) (hop : o.op = Op.mapUpdate t m x y) (b : Nat) (key v : Value) (hm : a.eval m = .map (some b)) (hx : a.eval x = key) (hy : a.eval y = v)
    (hs : ∃ o', (Instr.mapUpdate t (.map (some b)) key v).run P w = .ok () (setBlock w b o') ∧ MapAt (setBlock w b o') b ek ev f)
    (hK : ∀ o', MapAt (setBlock w b o') b ek ev f → wpList P ops Q rest (a.put o.dst (.tuple #[])) (setBlock w b o')) : wpList P ops Q (o :: rest) a w := by
  obtain ⟨o', hrun, hmap⟩ := hs
  exact wpList_store_run hg m x y t hop _ key v hm hx hy hrun (hK o' hmap)
end Go.Proofs.YtlinhckgdfhppaaK
