/- A part of the proof: what the functions do, and plain laws. -/
import Derived.Test.YtlinhckgdfhppaaC40
import Derived.WalkMore
namespace Go.Proofs.Ytlinhckgdfhppaa
open Go Go.RowKit Go.Proofs.YtlinhckgdfhppaaK
open Go.ChangeMaps (setBlock)

abbrev Fetch := Int × Piece
def kFetch : Kn Fetch := Kn.pair (Kn.int .i64) kPiece
theorem flat_fetch : Flat kFetch := flat_pair (flat_int .i64) (flat_pair flat_str (flat_int .i64))
theorem kFetch_mk (w : World) (ok : Nat → Prop) (x : Fetch) : kFetch.K w ok x [.int .i64 x.1, .string x.2.1, .int .i64 x.2.2] := ⟨[.int .i64 x.1], _, rfl, rfl, kPiece_mk w ok x.2⟩
/-- A piece is fetched if its stripe is needed, it is not there, and pieces lack. -/
def fetStep (needs : List Need) (nf : ByteArray → Option Nat) (d : Int) (acc : List (BitVec 16) × List Fetch) (p : Piece) : List (BitVec 16) × List Fetch :=
  match nf p.1 with
  | none => acc
  | some i => if (maskAt acc.1 i).getLsbD p.2.toNat = true ∨ (pg needs i).2 ≤ (maskCnt (maskAt acc.1 i) : Int) then acc else (acc.1.set i (maskAt acc.1 i ||| BitVec.twoPow 16 p.2.toNat), acc.2 ++ [(d, p)])
def fetDev (needs : List Need) (nf : ByteArray → Option Nat) (list : List Hold) (acc : List (BitVec 16) × List Fetch) (d : Int) : List (BitVec 16) × List Fetch :=
  if findDev list d < 0 then acc else (hgt list (findDev list d).toNat).pieces.foldl (fetStep needs nf d) acc
def fetTo (needs : List Need) (nf : ByteArray → Option Nat) (list : List Hold) (ms : List (BitVec 16)) (devs : List Int) : Nat → List (BitVec 16) × List Fetch
  | 0 => (ms, [])
  | k + 1 => if ig devs k ∈ devs.take k then fetTo needs nf list ms devs k else fetDev needs nf list (fetTo needs nf list ms devs k) (ig devs k)
/-- What Fetches answers. -/
def fetchesP (g : Goal) (list : List Hold) (devs : List Int) : List Fetch := if Valid g list then (fetTo g.needs (nfOf g) list (ms0 g) devs devs.length).2 else []
theorem fetStep_len (needs : List Need) (nf : ByteArray → Option Nat) (d : Int) (acc : List (BitVec 16) × List Fetch) (p : Piece) : (fetStep needs nf d acc p).1.length = acc.1.length ∧ (fetStep needs nf d acc p).2.length ≤ acc.2.length + 1 := by
  unfold fetStep
  split
  · exact ⟨rfl, by omega⟩
  · split
    · exact ⟨rfl, by omega⟩
    · exact ⟨by simp, by simp⟩
theorem withM_zero (nf : ByteArray → Option Nat) (L : List Hold) (ms : List (BitVec 16)) : ∀ k, withM nf L 0 ms k = ms
  | 0 => rfl
  | k + 1 => by rw [withM, if_neg (by simp), withM_zero nf L ms k]
theorem withW_zero (L : List Hold) (f : Nat → BitVec 64) : ∀ k, withW L 0 f k = f
  | 0 => rfl
  | k + 1 => by rw [withW, if_neg (by simp), withW_zero L f k]
theorem withI_zero (L : List Hold) (ix : Bool) : ∀ k, withI L 0 ix k = ix
  | 0 => rfl
  | k + 1 => by rw [withI, if_neg (by simp), withI_zero L ix k]
theorem bit_u16 (m : BitVec 16) (k : Nat) : bits .and .u16 ((m.toNat : Int) / 2 ^ k) 1 = if m.getLsbD k = true then 1 else 0 := by
  have e : (m.toNat : Int) / 2 ^ k = ((m.toNat / 2 ^ k : Nat) : Int) := by simp
  have hlt : m.toNat / 2 ^ k < 65536 := Nat.lt_of_le_of_lt (Nat.div_le_self _ _) m.isLt
  show IntKind.u16.wrap ((BitVec.ofInt 16 ((m.toNat : Int) / 2 ^ k) &&& BitVec.ofInt 16 ((1 : Nat) : Int)).toNat : Int) = _
  have h1 : (BitVec.ofNat 16 (m.toNat / 2 ^ k) &&& BitVec.ofNat 16 1).toNat = m.toNat / 2 ^ k % 2 := by
    rw [BitVec.toNat_and, BitVec.toNat_ofNat, BitVec.toNat_ofNat, Nat.mod_eq_of_lt hlt]
    exact Nat.and_one_is_mod _
  rw [e, BitVec.ofInt_natCast, BitVec.ofInt_natCast, h1]
  have h2 : m.getLsbD k = decide (m.toNat / 2 ^ k % 2 = 1) := by
    show m.toNat.testBit k = _
    exact Nat.testBit_eq_decide_div_mod_eq
  rw [h2]
  by_cases h : m.toNat / 2 ^ k % 2 = 1
  · rw [h]; simp [IntKind.wrap, IntKind.bits, IntKind.signed]
  · rw [show m.toNat / 2 ^ k % 2 = 0 by omega]; simp [IntKind.wrap, IntKind.bits, IntKind.signed]
/-- What stands in memory while Fetches goes on. -/
structure FS (W3 : World) (stb sm base2 : Nat) (B : Option Addr) (n c : Nat) (f : Nat → BitVec 64) (ix : Bool) (seen : List Int) (ms : List (BitVec 16)) (out : List Fetch) (v : Value) (wr : World) : Prop where
  own : wr.ownsRow W3.heap.size 110 1 (.slice B n c) n (ms.map mval)
  ob : ∀ k, (Value.slice B n c).ownBlock = some k → k < stb
  st : wr.heap[stb]? = some (.cells (stockCells B n c f ix) 94 (0, 0))
  mp : Go.Proofs.YtlinhckgdfhppaaK.MapAt wr sm (Value.int .i64) eUnit (setF seen)
  out : Own kFetch 55 wr base2 v out
  bel : Below W3.heap.size W3 wr
  s1 : W3.heap.size ≤ stb
  s2 : stb < sm
  s3 : sm < base2
  s4 : base2 ≤ wr.heap.size
section
variable {W3 wr wr' : World} {stb sm base2 : Nat} {B : Option Addr} {n c : Nat} {f : Nat → BitVec 64} {ix : Bool} {seen : List Int} {ms : List (BitVec 16)} {out : List Fetch} {v : Value}
theorem FS.below (h : FS W3 stb sm base2 B n c f ix seen ms out v wr) (hb : Below wr.heap.size wr wr') : FS W3 stb sm base2 B n c f ix seen ms out v wr' :=
  ⟨h.own.kept (row := none) (grownBy_of_below hb none) (by cases (Value.slice B n c).ownBlock <;> simp), h.ob, (hb.block _ (blk_lt h.st)).trans h.st, h.mp.below hb h.mp.lt, h.out.below hb, bthen h.bel hb (Nat.le_refl _), h.s1, h.s2, h.s3, Nat.le_trans h.s4 hb.size⟩
/-- Something is marked as seen. -/
theorem FS.mark (h : FS W3 stb sm base2 B n c f ix seen ms out v wr) (hb : Below wr.heap.size wr wr') (o : Obj) (seen' : List Int) (hm : Go.Proofs.YtlinhckgdfhppaaK.MapAt (setBlock wr' sm o) sm (Value.int .i64) eUnit (setF seen')) : FS W3 stb sm base2 B n c f ix seen' ms out v (setBlock wr' sm o) := by
  have h' := h.below hb
  have hs1 := h.s1
  have hs2 := h.s2
  have hs3 := h.s3
  have hfar : ∀ k, k ≠ sm → (setBlock wr' sm o).heap[k]? = wr'.heap[k]? := fun k hk => heap_setBlock_far _ _ _ _ hk
  have hsz : (setBlock wr' sm o).heap.size = wr'.heap.size := by simp [setBlock]
  have hg : wr'.grownBy (setBlock wr' sm o) (some sm) := ⟨rfl, rfl, rfl, by omega, fun k _ hk => hfar k (fun e => hk (by rw [e]))⟩
  refine ⟨h'.own.kept hg (.inr fun e => by have := h.ob _ e; omega), h.ob, (hfar _ (by omega)).trans h'.st, hm, h'.out.flat flat_fetch hg (.inr fun e => by have := (h'.out.lt _ e).1; omega), ⟨h'.bel.os, h'.bel.tape, h'.bel.output, by rw [hsz]; exact h'.bel.size, fun k hk => (hfar k (by omega)).trans (h'.bel.block k hk)⟩, hs1, hs2, hs3, by rw [hsz]; exact h'.s4⟩
/-- A mask is written. -/
theorem FS.put (h : FS W3 stb sm base2 B n c f ix seen ms out v wr) (hb : Below wr.heap.size wr wr') (gb i : Nat) (hB : B = some ⟨gb, 0, none⟩) (u : BitVec 16) : FS W3 stb sm base2 B n c f ix seen (ms.set i u) out v (wr'.setCell ⟨gb, i, none⟩ (mval u)) := by
  have h' := h.below hb
  subst hB
  have hg0 : gb < stb := h.ob gb rfl
  have hs1 := h.s1
  have hs2 := h.s2
  have hs3 := h.s3
  have hg1 : W3.heap.size ≤ gb := (h.own.lt gb rfl).1
  have hst := h'.own.stored i (mval u)
  have hg : wr'.grownBy (wr'.setCell ⟨gb, i, none⟩ (mval u)) (some gb) := grownBy_set wr' ⟨gb, i, none⟩ _
  refine ⟨by rw [List.map_set]; exact hst.1, h.ob, (blk_far (show stb ≠ gb by omega) _).trans h'.st, h'.mp.move (blk_far (show sm ≠ gb by omega) _), h'.out.flat flat_fetch hg (.inr fun e => by have := (h'.out.lt _ e).1; omega), ⟨hg.os.trans h'.bel.os, hg.tape.trans h'.bel.tape, hg.output.trans h'.bel.output, Nat.le_trans h'.bel.size hg.size, fun k hk => (hg.block k (by have := h'.bel.size; omega) (fun e => by injection e; omega)).trans (h'.bel.block k hk)⟩, hs1, hs2, hs3, Nat.le_trans h'.s4 hg.size⟩
/-- The answers grow. -/
theorem FS.grow (h : FS W3 stb sm base2 B n c f ix seen ms out v wr) {v1 : Value} {out1 : List Fetch} (ho : Own kFetch 55 wr' base2 v1 out1) (hg : wr.grownBy wr' v.ownBlock) : FS W3 stb sm base2 B n c f ix seen ms out1 v1 wr' := by
  have hs1 := h.s1
  have hs2 := h.s2
  have hs3 := h.s3
  have hs4 := h.s4
  have hlt := h.out.lt
  have hne : (Value.slice B n c).ownBlock = none ∨ (Value.slice B n c).ownBlock ≠ v.ownBlock := by
    cases hB : (Value.slice B n c).ownBlock with
    | none => exact .inl rfl
    | some k => exact .inr fun e => by have h1 := h.ob k hB; have h2 := (hlt k e.symm).1; omega
  exact ⟨h.own.kept hg hne, h.ob, (hg.block _ (blk_lt h.st) (fun e => by have := (hlt _ e.symm).1; omega)).trans h.st, h.mp.move (hg.block _ h.mp.lt (fun e => by have := (hlt _ e.symm).1; omega)), ho, ⟨hg.os.trans h.bel.os, hg.tape.trans h.bel.tape, hg.output.trans h.bel.output, Nat.le_trans h.bel.size hg.size, fun k hk => (hg.block k (by have := h.bel.size; omega) (fun e => by have := (hlt _ e.symm).1; omega)).trans (h.bel.block k hk)⟩, hs1, hs2, hs3, Nat.le_trans hs4 hg.size⟩
end
end Go.Proofs.Ytlinhckgdfhppaa
