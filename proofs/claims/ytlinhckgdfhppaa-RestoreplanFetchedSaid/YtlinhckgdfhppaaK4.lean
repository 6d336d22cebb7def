/- Kinds, fourth part: stores into blocks that are known whole. -/
import Derived.Test.YtlinhckgdfhppaaK3
set_option linter.unusedSimpArgs false
set_option linter.unusedVariables false
namespace Go.Proofs.YtlinhckgdfhppaaK
open Go Go.RowKit

theorem blk_set {w : World} {b i : Nat} {cs : Array Value} {t : TypeId} {fr : Nat × Nat} (h : w.heap[b]? = some (.cells cs t fr)) (u : Value) : (w.setCell ⟨b, i, none⟩ u).heap[b]? = some (.cells (cs.setIfInBounds i u) t fr) := by
  simp [World.setCell, Array.getElem?_modify, h]
theorem blk_far {w : World} {b : Nat} {p : Addr} (h : b ≠ p.block) (u : Value) : (w.setCell p u).heap[b]? = w.heap[b]? := Below.heap_setCell w p u b h
theorem grownBy_set (w : World) (p : Addr) (u : Value) : w.grownBy (w.setCell p u) (some p.block) :=
  ⟨rfl, rfl, rfl, by simp [World.setCell], fun k _ hk => blk_far (fun e => hk (by rw [e])) u⟩
theorem blk_frozen {w : World} {b i : Nat} {cs : Array Value} {t : TypeId} (h : w.heap[b]? = some (.cells cs t (0, 0))) : w.frozen? ⟨b, i, none⟩ = false := by simp [World.frozen?, h]
theorem blk_lt {w : World} {b : Nat} {o : Obj} (h : w.heap[b]? = some o) : b < w.heap.size := (Array.getElem?_eq_some_iff.1 h).1
/-- A kind that reads no memory beyond its cells. -/
def Flat {α : Type} (d : Kn α) : Prop := ∀ {w w' : World} {ok ok' : Nat → Prop} {x : α} {cs : List Value}, d.K w ok x cs → d.K w' ok' x cs
theorem flat_int (k : IntKind) : Flat (Kn.int k) := fun h => h
theorem flat_str : Flat Kn.str := fun h => h
theorem flat_bool : Flat Kn.bool := fun h => h
theorem flat_pair {α β : Type} {a : Kn α} {b : Kn β} (ha : Flat a) (hb : Flat b) : Flat (Kn.pair a b) := by
  rintro w w' ok ok' x cs ⟨c0, c1, rfl, h0, h1⟩
  exact ⟨c0, c1, rfl, ha h0, hb h1⟩
theorem flat_iso {α β : Type} {d : Kn α} {f : β → α} (h : Flat d) : Flat (d.iso f) := fun hk => h hk
/-- A flat row of the call's own, another block being written. -/
theorem OwnK.flat {α : Type} {ok : Nat → Prop} {d : Kn α} {e : TypeId} {w w' : World} {base : Nat} {v : Value} {xs : List α} (hf : Flat d) (h : OwnK ok d e w base v xs) {row : Option Nat} (hg : w.grownBy w' row) (hne : v.ownBlock = none ∨ v.ownBlock ≠ row) : OwnK ok d e w' base v xs := by
  obtain ⟨cs, ho, hr⟩ := h
  exact ⟨cs, ho.kept hg hne, hr.imp fun x c hk => hf hk⟩
theorem OwnK.set_flat {α : Type} {ok : Nat → Prop} {d : Kn α} {e : TypeId} {w : World} {base : Nat} {v : Value} {xs : List α} (hf : Flat d) (h : OwnK ok d e w base v xs) {p : Addr} (hp : p.block < base) (u : Value) : OwnK ok d e (w.setCell p u) base v xs :=
  h.flat hf (grownBy_set w p u) (by
    cases hv : v.ownBlock with
    | none => exact .inl rfl
    | some k => exact .inr fun e => by injection e with e; have := (h.lt k hv).1; omega)

/-- A literal of one number. -/
theorem own_lit1 (ok : Nat → Prop) (kd : IntKind) (e : TypeId) (w : World) (base : Nat) (x : Int) (hb : base ≤ w.heap.size) : OwnK ok (Kn.int kd) e (w.alloc (.cells #[.int kd x] e)) base (.slice (some ⟨w.heap.size, 0, none⟩) 1 1) [x] :=
  own_scalar (World.ownsRow_lit (base := base) (e := e) (size := 1) w #[.int kd x] 1 hb (by simp [maxLen]) (by simp))

/-! ### regions that draw their order, whose callees lay blocks of their own: walked once -/
/-- A world that has come of w: what lay in w lies as it lay. -/
structure BW (w : World) where
  W : World
  h : Below w.heap.size w W
instance (w : World) : Inhabited (BW w) := ⟨⟨w, Below.refl _ _⟩⟩
theorem BW.cell {w : World} {a : Addr} {v : Value} (h : w.cell? a = some v) (p : BW w) : p.W.cell? a = some v := (p.h.cell (World.block_lt_of_cell? w a h)).trans h
theorem wp_region_below {P : Program} {id : Nat} {Q : Exit → Act → World → Prop} {a : Act} {w : World} {l : List Oper} (hm : P.follows .mixedOrders = true) (hB : Region.lexB .any l.toArray = true)
    (h : wpQuiet P l.toArray (fun w' => ∃ p : BW w, w' = p.W) (fun a' => ∀ w', (∃ p : BW w, w' = p.W) → Q .normal a' w') l a) : (Code.region id l.toArray true).wp P Q a w :=
  wp_region_quiet (C := fun w' => ∃ p : BW w, w' = p.W) hm hB ⟨⟨w.drew, (Below.refl _ _).drew⟩, rfl⟩ (by simpa using h)
theorem calls_below {P : Program} {f : FuncId} {args : Array Value} {w : World} (p : BW w) {v : Value} (h : Calls P f args p.W fun e w' => e = .returned v ∧ Below p.W.heap.size p.W w') :
    Calls P f args p.W fun e w'' => e = .returned v ∧ ∃ q : BW w, w'' = q.W :=
  h.mono fun _ w' ⟨he, hb⟩ => ⟨he, ⟨w', bthen p.h hb (Nat.le_refl _)⟩, rfl⟩
theorem calls_same {P : Program} {f : FuncId} {args : Array Value} {w : World} (p : BW w) {v : Value} (h : Calls P f args p.W fun e w' => e = .returned v ∧ p.W = w') :
    Calls P f args p.W fun e w'' => e = .returned v ∧ ∃ q : BW w, w'' = q.W :=
  h.mono fun _ _ ⟨he, hb⟩ => ⟨he, p, hb.symm⟩
end Go.Proofs.YtlinhckgdfhppaaK
