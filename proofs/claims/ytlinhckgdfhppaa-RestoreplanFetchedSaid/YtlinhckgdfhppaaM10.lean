/- A part of the proof: what the functions do, and plain laws. -/
import Derived.Test.YtlinhckgdfhppaaM9
set_option linter.unusedSimpArgs false
set_option linter.unusedVariables false
namespace Go.Proofs.Ytlinhckgdfhppaa
open Go Go.RowKit Go.Proofs.YtlinhckgdfhppaaK
attribute [local go_sem high] eq_piece

/-! The document's Fetches. -/
theorem flat_piece : Flat kPiece := flat_pair flat_str (flat_int .i64)
/-- The goal that the document's Fetches keeps: what is needed, and what is there by now. -/
def haveG (g : Goal) (hv : List Piece) : Goal := ⟨g.needs, 0, false, hv, []⟩
/-- A piece is fetched if a need of its stripe lacks pieces and it is not there. -/
def refStep (g : Goal) (d : Int) (acc : List Piece × List Fetch) (p : Piece) : List Piece × List Fetch :=
  if (∃ n ∈ g.needs, n.1 = p.1 ∧ 0 < lackNeed (haveG g acc.1) [] [] n) ∧ p ∉ acc.1 then (acc.1 ++ [p], acc.2 ++ [(d, p)]) else acc
def refAcc (g : Goal) (d : Int) (acc : List Piece × List Fetch) (ps : List Piece) (m : Nat) : List Piece × List Fetch := (ps.take m).foldl (refStep g d) acc
theorem refAcc_succ (g : Goal) (d : Int) (acc : List Piece × List Fetch) (ps : List Piece) (m : Nat) (h : m < ps.length) : refAcc g d acc ps (m + 1) = refStep g d (refAcc g d acc ps m) (pg ps m) :=
  foldl_take_succ _ _ ps m (pg ps m) h (pg_eq ps m h).symm
def refDev (g : Goal) (list : List Hold) (acc : List Piece × List Fetch) (d : Int) : List Piece × List Fetch :=
  if findDev list d < 0 then acc else (hgt list (findDev list d).toNat).pieces.foldl (refStep g d) acc
def refFetTo (g : Goal) (list : List Hold) (devs : List Int) : Nat → List Piece × List Fetch
  | 0 => (g.pieces, [])
  | k + 1 => if ig devs k ∈ devs.take k then refFetTo g list devs k else refDev g list (refFetTo g list devs k) (ig devs k)
def refFetchesOf (g : Goal) (list : List Hold) (devs : List Int) : List Fetch := (refFetTo g list devs devs.length).2
theorem refStep_len (g : Goal) (d : Int) (acc : List Piece × List Fetch) (p : Piece) : (refStep g d acc p).1.length ≤ acc.1.length + 1 ∧ (refStep g d acc p).2.length ≤ acc.2.length + 1 := by
  unfold refStep
  split
  · exact ⟨by simp, by simp⟩
  · exact ⟨by omega, by omega⟩

/-- What stands in memory while it goes on: the kept goal's block hb, its pieces, and the answers. -/
structure RF (W0 : World) (hb : Nat) (A1 : Option Addr) (n c1 : Nat) (hv : List Piece) (out : List Fetch) (vh v : Value) (wr : World) : Prop where
  bx : wr.heap[hb]? = some (.cells #[.slice A1 n c1, .int .i64 0, .bool false, vh, .slice none 0 0] 38 (0, 0))
  oh : Own kPiece 52 wr W0.heap.size vh hv
  ov : Own kFetch 54 wr W0.heap.size v out
  n1 : vh.ownBlock ≠ some hb
  n2 : v.ownBlock ≠ some hb
  n3 : ∀ b, vh.ownBlock = some b → v.ownBlock ≠ some b
  lo : W0.heap.size ≤ hb
  bel : Below W0.heap.size W0 wr
section
variable {W0 wr wr' : World} {hb : Nat} {A1 : Option Addr} {n c1 : Nat} {hv : List Piece} {out : List Fetch} {vh v : Value}
theorem RF.below (h : RF W0 hb A1 n c1 hv out vh v wr) (b : Below wr.heap.size wr wr') : RF W0 hb A1 n c1 hv out vh v wr' :=
  ⟨(b.block _ (blk_lt h.bx)).trans h.bx, h.oh.below b, h.ov.below b, h.n1, h.n2, h.n3, h.lo, bthen h.bel b (Nat.le_refl _)⟩
/-- The answers grow. -/
theorem RF.grow (h : RF W0 hb A1 n c1 hv out vh v wr) {v1 : Value} {out1 : List Fetch} (ho : Own kFetch 54 wr' W0.heap.size v1 out1) (hg : wr.grownBy wr' v.ownBlock) (hat : v1.ownBlock = v.ownBlock ∨ ∃ b, v1.ownBlock = some b ∧ wr.heap.size ≤ b) : RF W0 hb A1 n c1 hv out1 vh v1 wr' := by
  have hl := blk_lt h.bx
  refine ⟨(hg.block _ hl (fun e => h.n2 e.symm)).trans h.bx, h.oh.flat flat_piece hg ?_, ho, h.n1, ?_, ?_, h.lo, ⟨hg.os.trans h.bel.os, hg.tape.trans h.bel.tape, hg.output.trans h.bel.output, Nat.le_trans h.bel.size hg.size, fun k hk => (hg.block k (Nat.lt_of_lt_of_le hk h.bel.size) (fun e => by have := (h.ov.lt _ e.symm).1; omega)).trans (h.bel.block k hk)⟩⟩
  · cases e : vh.ownBlock with
    | none => exact .inl rfl
    | some b => exact .inr fun e2 => h.n3 b e e2.symm
  · rcases hat with e | ⟨b, e, hle⟩
    · rw [e]; exact h.n2
    · rw [e]; intro e2; injection e2 with e2; omega
  · rcases hat with e | ⟨b, e, hle⟩
    · rw [e]; exact h.n3
    · rw [e]; intro b2 hb2 e2
      injection e2 with e2
      have := (h.oh.lt b2 hb2).2
      omega
/-- What is there grows, and the kept goal names it. -/
theorem RF.have (h : RF W0 hb A1 n c1 hv out vh v wr) {vh1 : Value} {hv1 : List Piece} (ho : Own kPiece 52 wr' W0.heap.size vh1 hv1) (hg : wr.grownBy wr' vh.ownBlock) (hat : vh1.ownBlock = vh.ownBlock ∨ ∃ b, vh1.ownBlock = some b ∧ wr.heap.size ≤ b) : RF W0 hb A1 n c1 hv1 out vh1 v (wr'.setCell ⟨hb, 3, none⟩ vh1) := by
  have hl := blk_lt h.bx
  have bx1 := (hg.block _ hl (fun e => h.n1 e.symm)).trans h.bx
  have gs := grownBy_set wr' ⟨hb, 3, none⟩ vh1
  have hn1 : vh1.ownBlock ≠ some hb := by
    rcases hat with e | ⟨b, e, hle⟩
    · rw [e]; exact h.n1
    · rw [e]; intro e2; injection e2 with e2; omega
  have b1 : Below W0.heap.size W0 wr' := ⟨hg.os.trans h.bel.os, hg.tape.trans h.bel.tape, hg.output.trans h.bel.output, Nat.le_trans h.bel.size hg.size, fun k hk => (hg.block k (Nat.lt_of_lt_of_le hk h.bel.size) (fun e => by have := (h.oh.lt _ e.symm).1; omega)).trans (h.bel.block k hk)⟩
  have lo := h.lo
  refine ⟨blk_set (i := 3) bx1 vh1, ho.flat flat_piece gs ?_, ?_, hn1, h.n2, ?_, lo, ⟨gs.os.trans b1.os, gs.tape.trans b1.tape, gs.output.trans b1.output, Nat.le_trans b1.size gs.size, fun k hk => (gs.block k (Nat.lt_of_lt_of_le hk b1.size) (fun e => by injection e with e; have e : hb = k := e.symm; omega)).trans (b1.block k hk)⟩⟩
  · cases e : vh1.ownBlock with
    | none => exact .inl rfl
    | some b => exact .inr fun e2 => hn1 (e.trans e2)
  · refine (h.ov.flat flat_fetch hg ?_).flat flat_fetch gs ?_
    · cases e : v.ownBlock with
      | none => exact .inl rfl
      | some b => exact .inr fun e2 => h.n3 b e2.symm e
    · cases e : v.ownBlock with
      | none => exact .inl rfl
      | some b => exact .inr fun e2 => h.n2 (e.trans e2)
  · rcases hat with e | ⟨b, e, hle⟩
    · rw [e]; exact h.n3
    · intro b2 hb2 e2
      rw [e] at hb2
      injection hb2 with hb2
      have := (h.ov.lt b2 e2).2
      omega
/-- The start: the kept goal is written. -/
theorem RF.start {W1 : World} {hb : Nat} {z : Array Value} (hz : z.size = 5) (hbx : W1.heap[hb]? = some (.cells z 38 (0, 0))) (oh : Own kPiece 52 W1 W0.heap.size vh hv) (ov : Own kFetch 54 W1 W0.heap.size v out) (n1 : vh.ownBlock ≠ some hb) (n2 : v.ownBlock ≠ some hb)
    (n3 : ∀ b, vh.ownBlock = some b → v.ownBlock ≠ some b) (lo : W0.heap.size ≤ hb) (bel : Below W0.heap.size W0 W1) :
    RF W0 hb A1 n c1 hv out vh v (((((W1.setCell ⟨hb, 0, none⟩ (.slice A1 n c1)).setCell ⟨hb, 1, none⟩ (.int .i64 0)).setCell ⟨hb, 2, none⟩ (.bool false)).setCell ⟨hb, 3, none⟩ vh).setCell ⟨hb, 4, none⟩ (.slice none 0 0)) := by
  have gs := grownBy_trans (grownBy_trans (grownBy_trans (grownBy_trans (grownBy_set W1 ⟨hb, 0, none⟩ (.slice A1 n c1)) (grownBy_set _ ⟨hb, 1, none⟩ (.int .i64 0))) (grownBy_set _ ⟨hb, 2, none⟩ (.bool false))) (grownBy_set _ ⟨hb, 3, none⟩ vh)) (grownBy_set _ ⟨hb, 4, none⟩ (.slice none 0 0))
  have b1 := blk_set (i := 4) (blk_set (i := 3) (blk_set (i := 2) (blk_set (i := 1) (blk_set (i := 0) hbx (.slice A1 n c1)) (.int .i64 0)) (.bool false)) vh) (.slice none 0 0)
  obtain ⟨x0, x1, x2, x3, x4, rfl⟩ := five hz
  refine ⟨b1, oh.flat flat_piece gs ?_, ov.flat flat_fetch gs ?_, n1, n2, n3, lo, ⟨gs.os.trans bel.os, gs.tape.trans bel.tape, gs.output.trans bel.output, Nat.le_trans bel.size gs.size, fun k hk => (gs.block k (Nat.lt_of_lt_of_le hk bel.size) (fun e => by injection e with e; have e : hb = k := e.symm; omega)).trans (bel.block k hk)⟩⟩
  · cases e : vh.ownBlock with
    | none => exact .inl rfl
    | some b => exact .inr fun e2 => n1 (e.trans e2)
  · cases e : v.ownBlock with
    | none => exact .inl rfl
    | some b => exact .inr fun e2 => n2 (e.trans e2)
end
theorem info_rfetch : (Try.prog.info? 54).map (fun i => (i.zero, i.size, i.bytes)) = some (some (.agg #[.int .i64 0, .string ByteArray.empty, .int .i64 0]), 3, 32) := by kernel_rfl
theorem info_piece52 : (Try.prog.info? 52).map (fun i => (i.zero, i.size, i.bytes)) = some (some (.agg #[.string ByteArray.empty, .int .i64 0]), 2, 24) := by kernel_rfl
end Go.Proofs.Ytlinhckgdfhppaa
namespace Go.Proofs.Ytlinhckgdfhppaa
open Go Go.RowKit Go.Proofs.YtlinhckgdfhppaaK

/-! Sufficient and Gain. -/
theorem setTo_bit (L : List Hold) (devs : List Int) (j : Nat) : ∀ k, (setTo L devs k).testBit j = true ↔ j < k ∧ (hgt L j).dev ∈ devs
  | 0 => by simp [setTo]
  | k + 1 => by
    have ih := setTo_bit L devs j k
    rw [setTo]
    by_cases h : (hgt L k).dev ∈ devs
    · rw [if_pos h, or_bit, ih]
      constructor
      · rintro (⟨h1, h2⟩ | rfl)
        · exact ⟨by omega, h2⟩
        · exact ⟨by omega, h⟩
      · rintro ⟨h1, h2⟩
        rcases Nat.lt_or_ge j k with h3 | h3
        · exact .inl ⟨h3, h2⟩
        · exact .inr (by omega)
    · rw [if_neg h, ih]
      constructor
      · rintro ⟨h1, h2⟩
        exact ⟨by omega, h2⟩
      · rintro ⟨h1, h2⟩
        rcases Nat.lt_or_ge j k with h3 | h3
        · exact ⟨h3, h2⟩
        · have e : j = k := by omega
          subst e
          exact absurd h2 h
theorem psum_set {g : Goal} {list : List Hold} (hv : Valid g list) (devs : List Int) : psum g list (setTo (sortH list) devs list.length) = lackSum g list devs :=
  psum_eq hv _ _ fun j hj => by rw [setTo_bit]; simp [hj]
theorem psum_set_or {g : Goal} {list : List Hold} (hv : Valid g list) (devs : List Int) (i : Nat) (hi : i < list.length) : psum g list (setTo (sortH list) devs list.length ||| 2 ^ i) = lackSum g list (devs ++ [(hgt (sortH list) i).dev]) :=
  psum_eq hv _ _ fun j hj => by
    rw [or_bit, setTo_bit, List.mem_append, List.mem_singleton]
    constructor
    · rintro (⟨_, h⟩ | rfl)
      · exact .inl h
      · exact .inr rfl
    · rintro (h | h)
      · exact .inl ⟨hj, h⟩
      · exact .inr (devs_inj hv.nodup hi hj h.symm)
/-- What Gain answers. -/
def gainP (g : Goal) (list : List Hold) (devs : List Int) (d : Int) : Int := if Valid g list then lackSum g list devs - lackSum g list (devs ++ [d]) else 0
theorem gain_out {g : Goal} {list : List Hold} (devs : List Int) (d : Int) (h : ∀ x ∈ list, x.dev ≠ d) : lackSum g list devs - lackSum g list (devs ++ [d]) = 0 := by
  rw [lackSum_same (a := devs ++ [d]) (b := devs) fun x hx => by
    rw [List.mem_append, List.mem_singleton]
    exact ⟨fun h' => h'.elim id fun e => absurd e (h x hx), .inl⟩]
  omega
/-- What Sufficient answers. -/
def sufP (g : Goal) (list : List Hold) (devs : List Int) : Bool := decide (Valid g list ∧ lackSum g list devs = 0)
section
variable (g : Goal) (A1 : Option Addr) (c1 : Nat) (A2 : Option Addr) (c2 : Nat) (A3 : Option Addr) (c3 : Nat) (A4 : Option Addr) (c4 : Nat) (list : List Hold) (A5 : Option Addr) (nd c5 : Nat) (devs : List Int) (w : World)
set_option maxRecDepth 100000 in
set_option maxHeartbeats 1000000 in
theorem suffices_any (hg : GoalIn w (fun k => k < w.heap.size) g A1 c1 A2 c2 A3 c3) (hl : Row kHold w (fun k => k < w.heap.size) A4 list.length list) (hd : Row (Kn.int .i64) w (fun k => k < w.heap.size) A5 nd devs) :
    Calls Try.prog 32 #[.agg (goalCells g A1 c1 A2 c2 A3 c3), .slice A4 list.length c4, .slice A5 nd c5] w fun e w' => e = .returned (.tuple #[.bool (sufP g list devs), .int .i64 (checkOf g list)]) ∧ Below w.heap.size w w' := by
  have HG := As.mk hg
  have HL := As.mk hl
  have HD := As.mk hd
  have CHK : As (∀ W : World, Below w.heap.size w W → Calls Try.prog 31 #[.agg (goalCells g A1 c1 A2 c2 A3 c3), .slice A4 list.length c4] W fun e w' => e = .returned (.int .i64 (checkOf g list)) ∧ Below W.heap.size W w') := ⟨fun W hW => check_any g A1 c1 A2 c2 A3 c3 A4 list.length c4 list W _ (HG.o.below hW) (HL.o.below hW)⟩
  have HB0 : As (Below w.heap.size w (w.alloc (.cells (goalCells g A1 c1 A2 c2 A3 c3) 26))) := ⟨(Below.refl _ _).alloc (Nat.le_refl _) _⟩
  have BOX : As (∀ W : World, Below (w.alloc (.cells (goalCells g A1 c1 A2 c2 A3 c3) 26)).heap.size (w.alloc (.cells (goalCells g A1 c1 A2 c2 A3 c3) 26)) W → ∀ i, W.cell? ⟨w.heap.size, i, none⟩ = (goalCells g A1 c1 A2 c2 A3 c3)[i]?) := ⟨fun W hW i => (hW.cell (p := ⟨w.heap.size, i, none⟩) (by simp)).trans (cell_of_row _ _ i _ _ _ (heap_alloc_new w _))⟩
  clear hg hl hd
  by_cases hv : Valid g list
  · rw [checkOf_yes hv] at CHK ⊢
    have NEW : As (∀ W : World, Below w.heap.size w W → Calls Try.prog 42 #[.agg (goalCells g A1 c1 A2 c2 A3 c3), .slice A4 list.length c4] W fun e w' => ∃ pb, e = .returned (.pointer (some ⟨pb, 0, none⟩)) ∧ PIn w' pb g list ∧ Below W.heap.size W w') := ⟨fun W hW => newProblemQ g A1 c1 A2 c2 A3 c3 A4 c4 list W ⟨(HG.o.n.below hW).mono fun k hk => Nat.lt_of_lt_of_le hk hW.size, HG.o.cn, (HG.o.p.below hW).mono fun k hk => Nat.lt_of_lt_of_le hk hW.size, HG.o.cp, (HG.o.s.below hW).mono fun k hk => Nat.lt_of_lt_of_le hk hW.size, HG.o.cs⟩ ((HL.o.below hW).mono fun k hk => Nat.lt_of_lt_of_le hk hW.size) hv⟩
    have SET : As (∀ (W : World) (pb : Nat), PIn W pb g list → Below w.heap.size w W → Calls Try.prog 55 #[.pointer (some ⟨pb, 0, none⟩), .slice A5 nd c5] W fun e w' => e = .returned (.int .u64 (setTo (sortH list) devs list.length : Nat)) ∧ Below W.heap.size W w') := ⟨fun W pb h hW => toSetQ h hv A5 nd c5 devs _ (HD.o.below hW)⟩
    have h12 := pow12 hv.ok.hnl
    have hlt := setTo_lt (sortH list) devs list.length
    have SUF : As (∀ (W : World) (pb : Nat), PIn W pb g list → Calls Try.prog 39 #[.pointer (some ⟨pb, 0, none⟩), .int .u64 (setTo (sortH list) devs list.length : Nat)] W fun e w' => e = .returned (.bool (sufP g list devs)) ∧ Below W.heap.size W w') := ⟨fun W pb h => sufficesQ h hv _ (by omega) _ (by
      rw [psum_set hv, sufP]
      by_cases e : lackSum g list devs = 0
      · rw [e, decide_eq_true ⟨hv, rfl⟩]; rfl
      · rw [decide_eq_false fun h => e h.2, beq_eq_false_iff_ne]; exact e)⟩
    clear h12 hlt hv
    generalize setTo (sortH list) devs list.length = s at *
    generalize sufP g list devs = r at *
    go_enter Try.func32, Try.ntmps32
    go_wp2_with (first
      | (go_at_call 31; refine (CHK.o _ HB0.o).mono ?_; rintro e w1 ⟨rfl, hb1⟩; have B0 := BOX.o w1 hb1; have b0 : w1.cell? ⟨w.heap.size, 0, none⟩ = some (.slice A1 g.needs.length c1) := B0 0; have b1 : w1.cell? ⟨w.heap.size, 1, none⟩ = some (.int .i64 g.thr) := B0 1; have b2 : w1.cell? ⟨w.heap.size, 2, none⟩ = some (.bool g.index) := B0 2; have b3 : w1.cell? ⟨w.heap.size, 3, none⟩ = some (.slice A2 g.pieces.length c2) := B0 3; have b4 : w1.cell? ⟨w.heap.size, 4, none⟩ = some (.slice A3 g.shares.length c3) := B0 4; have z1 := bthen HB0.o hb1 (Nat.le_refl _))
      | (go_at_call 42; refine (NEW.o _ z1).mono ?_; rintro e w2 ⟨pb, rfl, hp2, hb2⟩; have z2 := bthen z1 hb2 (Nat.le_refl _))
      | (go_at_call 55; refine (SET.o _ _ hp2 z2).mono ?_; rintro e w3 ⟨rfl, hb3⟩; have z3 := bthen z2 hb3 (Nat.le_refl _))
      | (go_at_call 39; refine (SUF.o _ _ (hp2.below hb3)).mono ?_; rintro e w4 ⟨rfl, hb4⟩))
    go_ret2
    exact ⟨rfl, bthen z3 hb4 (Nat.le_refl _)⟩
  · have hs : sufP g list devs = false := decide_eq_false fun h => hv h.1
    rw [checkOf_no hv] at CHK ⊢
    rw [hs]
    clear hs hv
    go_enter Try.func32, Try.ntmps32
    go_wp2_with (go_at_call 31; refine (CHK.o _ HB0.o).mono ?_; rintro e w1 ⟨rfl, hb1⟩)
    go_ret2
    exact ⟨rfl, bthen HB0.o hb1 (Nat.le_refl _)⟩
set_option maxRecDepth 100000 in
set_option maxHeartbeats 1000000 in
theorem gain_any (dv : Int) (hg : GoalIn w (fun k => k < w.heap.size) g A1 c1 A2 c2 A3 c3) (hl : Row kHold w (fun k => k < w.heap.size) A4 list.length list) (hd : Row (Kn.int .i64) w (fun k => k < w.heap.size) A5 nd devs) :
    Calls Try.prog 25 #[.agg (goalCells g A1 c1 A2 c2 A3 c3), .slice A4 list.length c4, .slice A5 nd c5, .int .i64 dv] w fun e w' => e = .returned (.tuple #[.int .i64 (gainP g list devs dv), .int .i64 (checkOf g list)]) ∧ Below w.heap.size w w' := by
  have HG := As.mk hg
  have HL := As.mk hl
  have HD := As.mk hd
  have CHK : As (∀ W : World, Below w.heap.size w W → Calls Try.prog 31 #[.agg (goalCells g A1 c1 A2 c2 A3 c3), .slice A4 list.length c4] W fun e w' => e = .returned (.int .i64 (checkOf g list)) ∧ Below W.heap.size W w') := ⟨fun W hW => check_any g A1 c1 A2 c2 A3 c3 A4 list.length c4 list W _ (HG.o.below hW) (HL.o.below hW)⟩
  have HB0 : As (Below w.heap.size w (w.alloc (.cells (goalCells g A1 c1 A2 c2 A3 c3) 26))) := ⟨(Below.refl _ _).alloc (Nat.le_refl _) _⟩
  have BOX : As (∀ W : World, Below (w.alloc (.cells (goalCells g A1 c1 A2 c2 A3 c3) 26)).heap.size (w.alloc (.cells (goalCells g A1 c1 A2 c2 A3 c3) 26)) W → ∀ i, W.cell? ⟨w.heap.size, i, none⟩ = (goalCells g A1 c1 A2 c2 A3 c3)[i]?) := ⟨fun W hW i => (hW.cell (p := ⟨w.heap.size, i, none⟩) (by simp)).trans (cell_of_row _ _ i _ _ _ (heap_alloc_new w _))⟩
  clear hg hl hd
  by_cases hv : Valid g list
  · rw [checkOf_yes hv] at CHK ⊢
    have NEW : As (∀ W : World, Below w.heap.size w W → Calls Try.prog 42 #[.agg (goalCells g A1 c1 A2 c2 A3 c3), .slice A4 list.length c4] W fun e w' => ∃ pb, e = .returned (.pointer (some ⟨pb, 0, none⟩)) ∧ PIn w' pb g list ∧ Below W.heap.size W w') := ⟨fun W hW => newProblemQ g A1 c1 A2 c2 A3 c3 A4 c4 list W ⟨(HG.o.n.below hW).mono fun k hk => Nat.lt_of_lt_of_le hk hW.size, HG.o.cn, (HG.o.p.below hW).mono fun k hk => Nat.lt_of_lt_of_le hk hW.size, HG.o.cp, (HG.o.s.below hW).mono fun k hk => Nat.lt_of_lt_of_le hk hW.size, HG.o.cs⟩ ((HL.o.below hW).mono fun k hk => Nat.lt_of_lt_of_le hk hW.size) hv⟩
    have SET : As (∀ (W : World) (pb : Nat), PIn W pb g list → Below w.heap.size w W → Calls Try.prog 55 #[.pointer (some ⟨pb, 0, none⟩), .slice A5 nd c5] W fun e w' => e = .returned (.int .u64 (setTo (sortH list) devs list.length : Nat)) ∧ Below W.heap.size W w') := ⟨fun W pb h hW => toSetQ h hv A5 nd c5 devs _ (HD.o.below hW)⟩
    have h12 := hv.ok.hnl
    have hlt := setTo_lt (sortH list) devs list.length
    have h212 : 2 ^ list.length ≤ 2 ^ 12 := Nat.pow_le_pow_right (by omega) h12
    have GAI : As (∀ (W : World) (pb i : Nat), PIn W pb g list → i < list.length → (hgt (sortH list) i).dev = dv → Calls Try.prog 54 #[.pointer (some ⟨pb, 0, none⟩), .int .u64 (setTo (sortH list) devs list.length : Nat), .int .i64 (i : Int)] W fun e w' => e = .returned (.int .i64 (gainP g list devs dv)) ∧ Below W.heap.size W w') := ⟨fun W pb i h hi e => by
      have := gainQ h hv (setTo (sortH list) devs list.length) i (by omega) (by omega)
      rwa [psum_set hv, psum_set_or hv devs i hi, e, show lackSum g list devs - lackSum g list (devs ++ [dv]) = gainP g list devs dv from (if_pos hv).symm] at this⟩
    have HZ : As ((∀ j, j < list.length → (hgt (sortH list) j).dev ≠ dv) → gainP g list devs dv = 0) := ⟨fun h => by
      rw [gainP, if_pos hv]
      refine gain_out devs dv fun x hx => ?_
      obtain ⟨j, hj, e⟩ : ∃ j, j < list.length ∧ hgt (sortH list) j = x := by
        have hm := (sortH_perm list).mem_iff.2 hx
        obtain ⟨j, hj, e⟩ := List.mem_iff_getElem.1 hm
        exact ⟨j, by rw [sortH_len] at hj; exact hj, by rw [hgt_eq _ _ hj]; exact e⟩
      rw [← e]
      exact h j hj⟩
    clear hlt hv h212
    generalize setTo (sortH list) devs list.length = s at *
    generalize gainP g list devs dv = r at *
    go_enter Try.func25, Try.ntmps25
    go_upto_region 5 with (first
      | (go_at_call 31; refine (CHK.o _ HB0.o).mono ?_; rintro e w1 ⟨rfl, hb1⟩; have B0 := BOX.o w1 hb1; have b0 : w1.cell? ⟨w.heap.size, 0, none⟩ = some (.slice A1 g.needs.length c1) := B0 0; have b1 : w1.cell? ⟨w.heap.size, 1, none⟩ = some (.int .i64 g.thr) := B0 1; have b2 : w1.cell? ⟨w.heap.size, 2, none⟩ = some (.bool g.index) := B0 2; have b3 : w1.cell? ⟨w.heap.size, 3, none⟩ = some (.slice A2 g.pieces.length c2) := B0 3; have b4 : w1.cell? ⟨w.heap.size, 4, none⟩ = some (.slice A3 g.shares.length c3) := B0 4; have z1 := bthen HB0.o hb1 (Nat.le_refl _))
      | (go_at_call 42; refine (NEW.o _ z1).mono ?_; rintro e w2 ⟨pb, rfl, hp2, hb2⟩; have z2 := bthen z1 hb2 (Nat.le_refl _)))
    have HP := As.mk hp2
    have HZ2 := As.mk z2
    obtain ⟨mb, B1, d1, Ah, chh, B0', d0', hprob⟩ := hp2
    have h5 := hprob.h5
    have HR := As.mk hprob.hR
    clear b0 b1 b2 b3 b4 B0 z1 z2 hprob hb1 hb2 CHK NEW BOX
    go_wp2
    go_loopw [28] (fun i' wr => ∃ k : Nat, k ≤ list.length ∧ i' = .int .i64 k ∧ As (Below w2.heap.size w2 wr) ∧ As (∀ j, j < k → (hgt (sortH list) j).dev ≠ dv)) (fun i' _ => list.length - (intOf i').toNat)
    case atStart => exact ⟨0, Nat.zero_le _, rfl, ⟨Below.refl _ _⟩, ⟨fun j hj => by omega⟩⟩
    case round =>
      obtain ⟨k, hk, rfl, HB, HN⟩ := hrel
      by_cases hlt : k < list.length
      · obtain ⟨ad, P, cP, S, cS, eA, _, _, pd0, pd1, pd2, pd3, _, _, _, _⟩ := rowHold (HR.o.below HB.o) k hlt
        subst eA
        have HPA : As (PIn (wr.alloc (.cells #[.int .i64 (hgt (sortH list) k).dev, .slice P (hgt (sortH list) k).pieces.length cP, .slice S (hgt (sortH list) k).shares.length cS, .bool (hgt (sortH list) k).index] 78)) pb g list ∧ Below w.heap.size w (wr.alloc (.cells #[.int .i64 (hgt (sortH list) k).dev, .slice P (hgt (sortH list) k).pieces.length cP, .slice S (hgt (sortH list) k).shares.length cS, .bool (hgt (sortH list) k).index] 78))) := ⟨(HP.o.below HB.o).below ((Below.refl _ _).alloc (Nat.le_refl _) _), bthen (bthen HZ2.o HB.o (Nat.le_refl _)) ((Below.refl _ _).alloc (Nat.le_refl _) _) (Nat.le_refl _)⟩
        have GK := As.mk fun W h he => GAI.o W pb k h hlt he
        have HSN : As ((hgt (sortH list) k).dev ≠ dv → ∀ j, j < k + 1 → (hgt (sortH list) j).dev ≠ dv) := ⟨fun h j hj => by
          rcases Nat.lt_or_ge j k with h1 | h1
          · exact HN.o j h1
          · rw [show j = k by omega]; exact h⟩
        generalize hgt (sortH list) k = y at *
        by_cases hx : y.dev = dv
        · have hb : (y.dev == dv) = true := beq_iff_eq.2 hx
          have HX := As.mk hx
          clear hx
          go_wp2_with (first
            | (go_at_call 55; refine (SET.o _ _ HPA.o.1 HPA.o.2).mono ?_; rintro e w3 ⟨rfl, hb3⟩; have z3 := bthen HPA.o.2 hb3 (Nat.le_refl _))
            | (go_at_call 54; refine (GK.o _ (HPA.o.1.below hb3) HX.o).mono ?_; rintro e w4 ⟨rfl, hb4⟩))
          go_ret2
          exact ⟨rfl, bthen z3 hb4 (Nat.le_refl _)⟩
        · have hb : (y.dev == dv) = false := beq_eq_false_iff_ne.2 hx
          have HX := As.mk (HSN.o hx)
          clear hx
          go_wp2
          go_roundw
          case rel => exact ⟨k + 1, by omega, by go_num, ⟨bthen HB.o ((Below.refl _ _).alloc (Nat.le_refl _) _) (Nat.le_refl _)⟩, HX⟩
          case measure => simp [intOf]; omega
      · have e : k = list.length := by omega
        subst e
        have HR0 := As.mk (HZ.o HN.o)
        go_wp2
        go_ret2
        exact ⟨by rw [HR0.o]; rfl, bthen HZ2.o HB.o (Nat.le_refl _)⟩
  · have hs : gainP g list devs dv = 0 := if_neg hv
    rw [checkOf_no hv] at CHK ⊢
    rw [hs]
    clear hs hv
    go_enter Try.func25, Try.ntmps25
    go_wp2_with (go_at_call 31; refine (CHK.o _ HB0.o).mono ?_; rintro e w1 ⟨rfl, hb1⟩)
    go_ret2
    exact ⟨rfl, bthen HB0.o hb1 (Nat.le_refl _)⟩
end
end Go.Proofs.Ytlinhckgdfhppaa
namespace Go.Proofs.Ytlinhckgdfhppaa
open Go Go.RowKit Go.Proofs.YtlinhckgdfhppaaK

/-! The document's Greedy makes the program's steps. -/
section
variable {g : Goal} {list : List Hold}
theorem grTo_mem (hv : Valid g list) (h0 : psum g list (2 ^ list.length - 1) = 0) : ∀ m j, j < list.length → ((grTo g list m).1.testBit j = true ↔ (hgt (sortH list) j).dev ∈ (grTo g list m).2)
  | 0, j, _ => by simp [grTo]
  | m + 1, j, hj => by
    have ih := grTo_mem hv h0 m j hj
    rw [grTo]
    by_cases h : psum g list (grTo g list m).1 = 0
    · rw [if_pos h]
      exact ih
    · rw [if_neg h]
      have h1 := nxt_less hv h0 _ h
      show ((grTo g list m).1 ||| 2 ^ nxt g list (grTo g list m).1).testBit j = true ↔ (hgt (sortH list) j).dev ∈ (grTo g list m).2 ++ [(hgt (sortH list) (nxt g list (grTo g list m).1)).dev]
      rw [or_bit, ih, List.mem_append, List.mem_singleton]
      exact or_congr_right ⟨fun e => by rw [e], fun e => (devs_inj hv.nodup hj h1.1 e).symm⟩
theorem psum_gr (hv : Valid g list) (h0 : psum g list (2 ^ list.length - 1) = 0) (m : Nat) : psum g list (grTo g list m).1 = lackSum g list (grTo g list m).2 := psum_eq hv _ _ (grTo_mem hv h0 m)
theorem psum_gr_or (hv : Valid g list) (h0 : psum g list (2 ^ list.length - 1) = 0) (m i : Nat) (hi : i < list.length) : psum g list ((grTo g list m).1 ||| 2 ^ i) = lackSum g list ((grTo g list m).2 ++ [(hgt (sortH list) i).dev]) :=
  psum_eq hv _ _ fun j hj => by
    rw [or_bit, grTo_mem hv h0 m j hj, List.mem_append, List.mem_singleton]
    exact or_congr_right ⟨fun e => by rw [e], fun e => (devs_inj hv.nodup hj hi e).symm⟩
/-- The document's choice among the first k devices, and what would lack with it. -/
def rgTo (g : Goal) (list : List Hold) (out : List Int) : Nat → Int × Int
  | 0 => (-1, 0)
  | k + 1 => if (hgt (sortH list) k).dev ∉ out ∧ ((rgTo g list out k).1 < 0 ∨ lackSum g list (out ++ [(hgt (sortH list) k).dev]) < (rgTo g list out k).2) then ((hgt (sortH list) k).dev, lackSum g list (out ++ [(hgt (sortH list) k).dev])) else rgTo g list out k
theorem hgt_mem {list : List Hold} {k : Nat} (hk : k < list.length) : hgt (sortH list) k ∈ list := (sortH_perm list).mem_iff.1 (by rw [hgt_eq _ _ (by rw [sortH_len]; exact hk)]; exact List.getElem_mem _)
theorem Valid.dev_nn (hv : Valid g list) {k : Nat} (hk : k < list.length) : 0 ≤ (hgt (sortH list) k).dev := (hv.2.2.2.2.2.2.2.1 _ (hgt_mem hk)).1
theorem rg_inv (hv : Valid g list) (h0 : psum g list (2 ^ list.length - 1) = 0) (m : Nat) : ∀ k, k ≤ list.length →
    ((rgTo g list (grTo g list m).2 k).1 = -1 ∧ (nextTo g list (grTo g list m).1 k).2 ≤ 0) ∨
    (0 ≤ (rgTo g list (grTo g list m).2 k).1 ∧ ((0 < (nextTo g list (grTo g list m).1 k).2 ∧ (nextTo g list (grTo g list m).1 k).2 = lackSum g list (grTo g list m).2 - (rgTo g list (grTo g list m).2 k).2 ∧ (hgt (sortH list) (nextTo g list (grTo g list m).1 k).1).dev = (rgTo g list (grTo g list m).2 k).1) ∨
      ((nextTo g list (grTo g list m).1 k).2 ≤ 0 ∧ lackSum g list (grTo g list m).2 - (rgTo g list (grTo g list m).2 k).2 = 0)))
  | 0, _ => .inl ⟨rfl, by show (-1 : Int) ≤ 0; omega⟩
  | k + 1, hk => by
    have ih := rg_inv hv h0 m k (by omega)
    have hor := psum_gr_or hv h0 m k hk
    have hs := psum_gr hv h0 m
    have hd := hv.dev_nn (k := k) hk
    have hgn := gainV_nn hv (grTo g list m).1 k hk
    have hgv : gainV g list (grTo g list m).1 k = lackSum g list (grTo g list m).2 - lackSum g list ((grTo g list m).2 ++ [(hgt (sortH list) k).dev]) := by rw [gainV, hor, hs]
    have hin : (hgt (sortH list) k).dev ∈ (grTo g list m).2 → lackSum g list ((grTo g list m).2 ++ [(hgt (sortH list) k).dev]) = lackSum g list (grTo g list m).2 := fun h => lackSum_same fun x _ => by
      rw [List.mem_append, List.mem_singleton]
      exact ⟨fun h' => h'.elim id fun e => e ▸ h, .inl⟩
    rw [rgTo, nextTo, hgv]
    rw [hgv] at hgn
    generalize nextTo g list (grTo g list m).1 k = nt at *
    generalize rgTo g list (grTo g list m).2 k = rt at *
    generalize lackSum g list ((grTo g list m).2 ++ [(hgt (sortH list) k).dev]) = n at *
    generalize lackSum g list (grTo g list m).2 = S at *
    obtain ⟨b, mst⟩ := nt
    obtain ⟨best, least⟩ := rt
    simp only at ih ⊢
    by_cases hc : (hgt (sortH list) k).dev ∈ (grTo g list m).2
    · have e := hin hc
      rw [if_neg fun h => h.1 hc]
      by_cases h1 : mst < S - n
      · rw [if_pos h1]
        simp only
        omega
      · rw [if_neg h1]
        exact ih
    · by_cases h2 : best < 0 ∨ n < least
      · rw [if_pos ⟨hc, h2⟩]
        right
        by_cases h1 : mst < S - n
        · rw [if_pos h1]
          by_cases h3 : 0 < S - n
          · exact ⟨hd, .inl ⟨h3, rfl, rfl⟩⟩
          · exact ⟨hd, .inr ⟨by show S - n ≤ 0; omega, by show S - n = 0; omega⟩⟩
        · rw [if_neg h1]
          exact ⟨hd, .inr ⟨by show mst ≤ 0; omega, by show S - n = 0; omega⟩⟩
      · rw [if_neg fun h => h2 h.2]
        by_cases h1 : mst < S - n
        · rw [if_pos h1]
          simp only
          omega
        · rw [if_neg h1]
          exact ih
theorem rg_next (hv : Valid g list) (h0 : psum g list (2 ^ list.length - 1) = 0) (m : Nat) (hne : psum g list (grTo g list m).1 ≠ 0) : grTo g list (m + 1) = ((grTo g list m).1 ||| 2 ^ nxt g list (grTo g list m).1, (grTo g list m).2 ++ [(rgTo g list (grTo g list m).2 list.length).1]) := by
  have h1 := nxt_less hv h0 _ hne
  have h2 := nextTo_is hv (grTo g list m).1 list.length (Nat.le_refl _)
  have h3 := rg_inv hv h0 m list.length (Nat.le_refl _)
  have h4 : (nextTo g list (grTo g list m).1 list.length).2 = gainV g list (grTo g list m).1 (nxt g list (grTo g list m).1) := by
    rcases h2 with ⟨e, _⟩ | ⟨_, e⟩
    · omega
    · exact e
  have h5 : 0 < (nextTo g list (grTo g list m).1 list.length).2 := by
    rw [h4, gainV]
    omega
  rw [grTo, if_neg hne]
  have h6 : (hgt (sortH list) (nxt g list (grTo g list m).1)).dev = (rgTo g list (grTo g list m).2 list.length).1 := by
    show (hgt (sortH list) (nextTo g list (grTo g list m).1 list.length).1).dev = _
    omega
  rw [h6]
end
end Go.Proofs.Ytlinhckgdfhppaa
namespace Go.Proofs.Ytlinhckgdfhppaa
open Go Go.RowKit Go.Proofs.YtlinhckgdfhppaaK

/-! The document's Fetches answers as the program's does. -/
section
variable {g : Goal} {list : List Hold}
/-- The masks say what the kept goal has. -/
def Says (g : Goal) (ms : List (BitVec 16)) (hv : List Piece) : Prop := ms.length = g.needs.length ∧ ∀ i, i < g.needs.length → ∀ b, b < 16 → ((maskAt ms i).getLsbD b = true ↔ ((pg g.needs i).1, (b : Int)) ∈ hv)
theorem says_start (hval : Valid g list) : Says g (ms0 g) g.pieces := by
  refine ⟨by rw [giveM_len]; simp, fun i hi b hb => ?_⟩
  have nfi := needTo_iff g.needs hval.2.2.2.2.2.2.1.2 g.needs.length (Nat.le_refl _)
  have e2 := giveM_bit (nfOf g) i b g.pieces (List.replicate g.needs.length 0) (by simpa using hi) hval.2.2.2.1.1
  have e3 : (maskAt (List.replicate g.needs.length (0 : BitVec 16)) i).getLsbD b = false := by
    simp [maskAt, List.getD_eq_getElem?_getD, List.getElem?_replicate, hi]
  have hpi : ∀ p : Piece, (nfOf g p.1 = some i ∧ (b : Int) = p.2) ↔ p = ((pg g.needs i).1, (b : Int)) := fun p => by
    rw [nfi p.1 i]
    constructor
    · rintro ⟨⟨_, h2⟩, h3⟩
      exact Prod.ext h2.symm h3.symm
    · rintro rfl
      exact ⟨⟨hi, rfl⟩, rfl⟩
  rw [e2, e3]
  simp only [hpi, exists_eq_right, Bool.false_eq_true, false_or]
theorem says_cnt {ms : List (BitVec 16)} {hv : List Piece} (h : Says g ms hv) {i : Nat} (hi : i < g.needs.length) : 0 < lackNeed (haveG g hv) [] [] (pg g.needs i) ↔ (maskCnt (maskAt ms i) : Int) < (pg g.needs i).2 := by
  have e : cntB (maskAt ms i).toNat.testBit 16 = cntTo (haveG g hv) [] [] (pg g.needs i).1 16 := cntTo_eq _ _ _ _ _ 16 fun b hb => by
    have := h.2 i hi b hb
    refine this.trans ?_
    simp [there, haveG]
  unfold lackNeed maskCnt
  rw [← e]
  unfold subN
  omega
theorem need_one (hval : Valid g list) {i : Nat} (hi : i < g.needs.length) {n : Need} (hn : n ∈ g.needs) (e : n.1 = (pg g.needs i).1) : n = pg g.needs i := by
  have nfi := needTo_iff g.needs hval.2.2.2.2.2.2.1.2 g.needs.length (Nat.le_refl _)
  obtain ⟨j, hj, rfl⟩ := List.mem_iff_getElem.1 hn
  have h1 := (nfi (pg g.needs i).1 i).2 ⟨hi, rfl⟩
  have h2 := (nfi (pg g.needs i).1 j).2 ⟨hj, by rw [pg_eq _ _ hj]; exact e⟩
  rw [h1] at h2
  injection h2 with h2
  subst h2
  rw [pg_eq _ _ hj]
theorem step_eq (hval : Valid g list) (d : Int) (p : Piece) (hp : 0 ≤ p.2 ∧ p.2 < 16) {ms : List (BitVec 16)} {hv : List Piece} (out : List Fetch) (h : Says g ms hv) :
    (refStep g d (hv, out) p).2 = (fetStep g.needs (nfOf g) d (ms, out) p).2 ∧ Says g (fetStep g.needs (nfOf g) d (ms, out) p).1 (refStep g d (hv, out) p).1 := by
  have nfi := needTo_iff g.needs hval.2.2.2.2.2.2.1.2 g.needs.length (Nat.le_refl _)
  cases hn : nfOf g p.1 with
  | none =>
    have e1 : refStep g d (hv, out) p = (hv, out) := if_neg (by
      rintro ⟨⟨n, hm, e, _⟩, _⟩
      obtain ⟨j, hj, rfl⟩ := List.mem_iff_getElem.1 hm
      have := (nfi p.1 j).2 ⟨hj, by rw [pg_eq _ _ hj]; exact e⟩
      rw [show needTo g.needs g.needs.length p.1 = nfOf g p.1 from rfl, hn] at this
      cases this)
    have e2 : fetStep g.needs (nfOf g) d (ms, out) p = (ms, out) := by unfold fetStep; simp only [hn]
    rw [e1, e2]
    exact ⟨rfl, h⟩
  | some i =>
    obtain ⟨hi, he⟩ := (nfi p.1 i).1 hn
    have hb := h.2 i hi p.2.toNat (by omega)
    have hpe : ((pg g.needs i).1, ((p.2.toNat : Nat) : Int)) = p := Prod.ext he (by show ((p.2.toNat : Nat) : Int) = p.2; omega)
    rw [hpe] at hb
    have hcn := says_cnt h hi
    have e2 : fetStep g.needs (nfOf g) d (ms, out) p = if (maskAt ms i).getLsbD p.2.toNat = true ∨ (pg g.needs i).2 ≤ (maskCnt (maskAt ms i) : Int) then (ms, out) else (ms.set i (maskAt ms i ||| BitVec.twoPow 16 p.2.toNat), out ++ [(d, p)]) := by unfold fetStep; simp only [hn]
    rw [e2]
    by_cases hc : (maskAt ms i).getLsbD p.2.toNat = true ∨ (pg g.needs i).2 ≤ (maskCnt (maskAt ms i) : Int)
    · rw [if_pos hc]
      have e1 : refStep g d (hv, out) p = (hv, out) := if_neg (by
        rintro ⟨⟨n, hm, e, hlt⟩, hnot⟩
        rcases hc with hc | hc
        · exact hnot (hb.1 hc)
        · rw [need_one hval hi hm (e.trans he.symm)] at hlt
          have := hcn.1 hlt
          omega)
      rw [e1]
      exact ⟨rfl, h⟩
    · rw [if_neg hc]
      have hm : pg g.needs i ∈ g.needs := by rw [pg_eq _ _ hi]; exact List.getElem_mem hi
      have e1 : refStep g d (hv, out) p = (hv ++ [p], out ++ [(d, p)]) := if_pos ⟨⟨pg g.needs i, hm, he, hcn.2 (by have := fun h => hc (.inr h); omega)⟩, fun hx => hc (.inl (hb.2 hx))⟩
      rw [e1]
      refine ⟨rfl, by simpa using h.1, fun j hj b hbl => ?_⟩
      show (maskAt (ms.set i (maskAt ms i ||| BitVec.twoPow 16 p.2.toNat)) j).getLsbD b = true ↔ _ ∈ hv ++ [p]
      rw [maskAt_set _ _ _ _ (by rw [h.1]; exact hj), List.mem_append, List.mem_singleton]
      by_cases e : i = j
      · subst e
        rw [if_pos rfl, BitVec.getLsbD_or, BitVec.getLsbD_twoPow]
        simp only [Bool.or_eq_true, Bool.and_eq_true, decide_eq_true_eq, beq_iff_eq]
        rw [h.2 i hi b hbl]
        refine or_congr_right ⟨?_, fun e3 => ?_⟩
        · rintro ⟨_, e3⟩
          rw [← e3]
          exact hpe
        · have e4 : (b : Int) = p.2 := by rw [← e3]
          exact ⟨by omega, by omega⟩
      · rw [if_neg e, h.2 j hj b hbl]
        refine ⟨.inl, fun h2 => h2.elim id fun e3 => ?_⟩
        have e4 : (pg g.needs j).1 = p.1 := by rw [← e3]
        have e5 := (nfi p.1 j).2 ⟨hj, e4⟩
        rw [show needTo g.needs g.needs.length p.1 = nfOf g p.1 from rfl, hn] at e5
        injection e5 with e5
        exact absurd e5 e
theorem fold_eq (hval : Valid g list) (d : Int) : ∀ (ps : List Piece), (∀ p ∈ ps, 0 ≤ p.2 ∧ p.2 < 16) → ∀ {ms : List (BitVec 16)} {hv : List Piece} (out : List Fetch), Says g ms hv →
    (ps.foldl (refStep g d) (hv, out)).2 = (ps.foldl (fetStep g.needs (nfOf g) d) (ms, out)).2 ∧ Says g (ps.foldl (fetStep g.needs (nfOf g) d) (ms, out)).1 (ps.foldl (refStep g d) (hv, out)).1
  | [], _, ms, hv, out, h => ⟨rfl, h⟩
  | p :: ps, hp, ms, hv, out, h => by
    have h1 := step_eq hval d p (hp p (List.mem_cons_self ..)) out h
    rw [List.foldl_cons, List.foldl_cons]
    generalize refStep g d (hv, out) p = a at *
    generalize fetStep g.needs (nfOf g) d (ms, out) p = b at *
    obtain ⟨a1, a2⟩ := a
    obtain ⟨b1, b2⟩ := b
    obtain ⟨h2, h3⟩ := h1
    simp only at h2 h3
    subst h2
    exact fold_eq hval d ps (fun q hq => hp q (List.mem_cons_of_mem _ hq)) a2 h3
theorem fetTo_eq (hval : Valid g list) (devs : List Int) : ∀ k, (refFetTo g list devs k).2 = (fetTo g.needs (nfOf g) list (ms0 g) devs k).2 ∧ Says g (fetTo g.needs (nfOf g) list (ms0 g) devs k).1 (refFetTo g list devs k).1
  | 0 => ⟨rfl, says_start hval⟩
  | k + 1 => by
    have ih := fetTo_eq hval devs k
    rw [refFetTo, fetTo]
    split
    · exact ih
    · unfold refDev fetDev
      by_cases hneg : findDev list (ig devs k) < 0
      · rw [if_pos hneg, if_pos hneg]
        exact ih
      · rw [if_neg hneg, if_neg hneg]
        obtain ⟨j, hj, ej⟩ := findDev_at hneg
        have hps : ∀ p ∈ (hgt list (findDev list (ig devs k)).toNat).pieces, 0 ≤ p.2 ∧ p.2 < 16 := by
          rw [ej, Int.toNat_natCast]
          exact (hval.2.2.2.2.2.2.2.1 (hgt list j) (by rw [hgt_eq _ _ hj]; exact List.getElem_mem _)).2.2.1.1
        generalize refFetTo g list devs k = a at *
        generalize fetTo g.needs (nfOf g) list (ms0 g) devs k = b at *
        obtain ⟨a1, a2⟩ := a
        obtain ⟨b1, b2⟩ := b
        obtain ⟨h2, h3⟩ := ih
        simp only at h2 h3
        subst h2
        exact fold_eq hval _ _ hps a2 h3
theorem fetches_eq (hval : Valid g list) (devs : List Int) : fetchesP g list devs = refFetchesOf g list devs := by
  rw [fetchesP, if_pos hval, refFetchesOf, (fetTo_eq hval devs devs.length).1]
end
end Go.Proofs.Ytlinhckgdfhppaa
namespace Go.Proofs.Ytlinhckgdfhppaa
open Go Go.RowKit Go.Proofs.YtlinhckgdfhppaaK

/-! What the laws have in common: the goal in its box, and what the callees answer from there on. -/
section
variable (g : Goal) (A1 : Option Addr) (c1 : Nat) (A2 : Option Addr) (c2 : Nat) (A3 : Option Addr) (c3 : Nat) (A4 : Option Addr) (c4 : Nat) (list : List Hold)
structure LawCtx (w W0 : World) (gb : Nat) : Prop where
  box : ∀ W : World, Below W0.heap.size W0 W → W.cell? ⟨gb, 0, none⟩ = some (.slice A1 g.needs.length c1) ∧ W.cell? ⟨gb, 1, none⟩ = some (.int .i64 g.thr) ∧ W.cell? ⟨gb, 2, none⟩ = some (.bool g.index) ∧ W.cell? ⟨gb, 3, none⟩ = some (.slice A2 g.pieces.length c2) ∧ W.cell? ⟨gb, 4, none⟩ = some (.slice A3 g.shares.length c3) ∧ gb < W.heap.size
  gg : ∀ W : World, Below W0.heap.size W0 W → GoalIn W (fun k => k < W.heap.size) g A1 c1 A2 c2 A3 c3
  ll : ∀ W : World, Below W0.heap.size W0 W → Row kHold W (fun k => k < W.heap.size) A4 list.length list
  few : ∀ W : World, Below W0.heap.size W0 W → Calls Try.prog 10 #[.agg (goalCells g A1 c1 A2 c2 A3 c3), .slice A4 list.length c4] W fun e w' => e = .returned (.bool (decide (Few g list))) ∧ Below W0.heap.size W0 w' ∧ Below W.heap.size W w'
  awk : ∀ W : World, Below W0.heap.size W0 W → Calls Try.prog 11 #[] W fun e w' => e = .returned (.bool true) ∧ Below W0.heap.size W0 w' ∧ Below W.heap.size W w'
  chk : ∀ W : World, Below W0.heap.size W0 W → Calls Try.prog 31 #[.agg (goalCells g A1 c1 A2 c2 A3 c3), .slice A4 list.length c4] W fun e w' => e = .returned (.int .i64 (checkOf g list)) ∧ Below W0.heap.size W0 w' ∧ Below W.heap.size W w'
  gof : Few g list → ∀ W : World, Below W0.heap.size W0 W → Calls Try.prog 14 #[.agg (goalCells g A1 c1 A2 c2 A3 c3)] W fun e w' => ∃ B d, e = .returned (.agg (goalCells g B d A2 c2 A3 c3)) ∧ GoalIn w' (fun k => k < w'.heap.size) g B d A2 c2 A3 c3 ∧ Below W0.heap.size W0 w' ∧ Below W.heap.size W w'
  hof : Few g list → ∀ W : World, Below W0.heap.size W0 W → Calls Try.prog 15 #[.slice A4 list.length c4] W fun e w' => ∃ B d, e = .returned (.slice B list.length d) ∧ list.length ≤ d ∧ Row kHold w' (fun k => k < w'.heap.size) B list.length list ∧ Below W0.heap.size W0 w' ∧ Below W.heap.size W w'
  up : ∀ W : World, Below W0.heap.size W0 W → Below w.heap.size w W
theorem lawCtx (w : World) (hg : GoalIn w (fun k => k < w.heap.size) g A1 c1 A2 c2 A3 c3) (hl : Row kHold w (fun k => k < w.heap.size) A4 list.length list) :
    LawCtx g A1 c1 A2 c2 A3 c3 A4 c4 list w (w.alloc (.cells (goalCells g A1 c1 A2 c2 A3 c3) 26)) w.heap.size := by
  obtain ⟨W0, hW0⟩ : ∃ W0 : World, W0 = w.alloc (.cells (goalCells g A1 c1 A2 c2 A3 c3) 26) := ⟨_, rfl⟩
  have hB0 : Below w.heap.size w W0 := by rw [hW0]; exact (Below.refl _ _).alloc (Nat.le_refl _) _
  have hs0 : W0.heap.size = w.heap.size + 1 := by rw [hW0]; simp
  have X0 : W0.heap[w.heap.size]? = some (.cells (goalCells g A1 c1 A2 c2 A3 c3) 26 (0, 0)) := by rw [hW0]; exact heap_alloc_new w _
  have G0 := goal_wide g A1 c1 A2 c2 A3 c3 (W := W0) hg hB0
  have GG : ∀ W : World, Below W0.heap.size W0 W → GoalIn W (fun k => k < W.heap.size) g A1 c1 A2 c2 A3 c3 := fun W hW => goal_wide g A1 c1 A2 c2 A3 c3 G0 hW
  have LL : ∀ W : World, Below W0.heap.size W0 W → Row kHold W (fun k => k < W.heap.size) A4 list.length list := fun W hW => (hl.below (hB0.trans (hW.mono (by omega)))).mono fun _ hk => Nat.lt_of_lt_of_le hk (Nat.le_trans hB0.size hW.size)
  have hl13 : Few g list → list.length ≤ 13 := fun hf => by have := hf.2.2.2.2; omega
  rw [← hW0]
  refine ⟨fun W hW => ?_, GG, LL, fun W hW => (few_any g A1 c1 A2 c2 A3 c3 A4 list.length c4 list W _ (GG W hW) (LL W hW)).mono fun e w' ⟨he, hb⟩ => ⟨he, bthen hW hb (Nat.le_refl _), hb⟩, fun W hW => (awake_any W).mono fun e w' ⟨he, hb⟩ => ⟨he, bthen hW hb (Nat.le_refl _), hb⟩,
    fun W hW => (check_any g A1 c1 A2 c2 A3 c3 A4 list.length c4 list W _ (GG W hW) (LL W hW)).mono fun e w' ⟨he, hb⟩ => ⟨he, bthen hW hb (Nat.le_refl _), hb⟩,
    fun hf W hW => (goalOf_any g A1 c1 A2 c2 A3 c3 W (GG W hW) (by have := hf.2.1; omega)).mono fun e w' ⟨v, he, ho, hb⟩ => ?_, fun hf W hW => (holdingsOf_any A4 list.length c4 list W (LL W hW) (by have := hl13 hf; omega)).mono fun e w' ⟨v, he, ho, hb⟩ => ?_, fun W hW => hB0.trans (hW.mono (by omega))⟩
  · have e : ∀ i, W.cell? ⟨w.heap.size, i, none⟩ = (goalCells g A1 c1 A2 c2 A3 c3)[i]? := fun i => (hW.cell (p := ⟨w.heap.size, i, none⟩) (show w.heap.size < W0.heap.size by omega)).trans (cell_of_row _ _ i _ _ _ X0)
    exact ⟨e 0, e 1, e 2, e 3, e 4, by have := hW.size; omega⟩
  · obtain ⟨B, d, rfl, hd, hr⟩ := ho.shape
    have h1 := GG _ (bthen hW hb (Nat.le_refl _))
    exact ⟨B, d, he, ⟨hr, hd, h1.p, h1.cp, h1.s, h1.cs⟩, bthen hW hb (Nat.le_refl _), hb⟩
  · obtain ⟨B, d, rfl, hd, hr⟩ := ho.shape
    exact ⟨B, d, he, hd, hr, bthen hW hb (Nat.le_refl _), hb⟩
end
/-- A slice argument stays. -/
theorem row_up {α : Type} {d : Kn α} {w W : World} {A : Option Addr} {n : Nat} {xs : List α} (h : Row d w (fun k => k < w.heap.size) A n xs) (hb : Below w.heap.size w W) : Row d W (fun k => k < W.heap.size) A n xs :=
  (h.below hb).mono fun _ hk => Nat.lt_of_lt_of_le hk hb.size
section
variable (g : Goal) (A2 : Option Addr) (c2 : Nat) (A3 : Option Addr) (c3 : Nat) (list : List Hold)
/-- What the laws have in common once the document's goal is in its box. -/
structure RefCtx (W6 : World) (bb : Nat) (Bg : Option Addr) (dg : Nat) (Bh : Option Addr) (dh : Nat) : Prop where
  box : ∀ W : World, Below W6.heap.size W6 W → W.cell? ⟨bb, 0, none⟩ = some (.slice Bg g.needs.length dg) ∧ W.cell? ⟨bb, 1, none⟩ = some (.int .i64 g.thr) ∧ W.cell? ⟨bb, 2, none⟩ = some (.bool g.index) ∧ W.cell? ⟨bb, 3, none⟩ = some (.slice A2 g.pieces.length c2) ∧ W.cell? ⟨bb, 4, none⟩ = some (.slice A3 g.shares.length c3)
  gg : ∀ W : World, Below W6.heap.size W6 W → GoalIn W (fun k => k < W.heap.size) g Bg dg A2 c2 A3 c3
  ll : ∀ W : World, Below W6.heap.size W6 W → Row kHold W (fun k => k < W.heap.size) Bh list.length list
  chk : ∀ W : World, Below W6.heap.size W6 W → Calls Try.prog 20 #[.agg (goalCells g Bg dg A2 c2 A3 c3), .slice Bh list.length dh] W fun e w' => e = .returned (.bool (decide (Valid g list))) ∧ Below W6.heap.size W6 w' ∧ Below W.heap.size W w'
  suf : ∀ W : World, Below W6.heap.size W6 W → Calls Try.prog 16 #[.agg (goalCells g Bg dg A2 c2 A3 c3), .slice Bh list.length dh] W fun e w' => e = .returned (.int .i64 (possOf g list)) ∧ Below W6.heap.size W6 w' ∧ Below W.heap.size W w'
theorem refCtx {w4 w5 : World} {Bg Bh : Option Addr} {dg dh : Nat} (hg4 : GoalIn w4 (fun k => k < w4.heap.size) g Bg dg A2 c2 A3 c3) (h45 : Below w4.heap.size w4 w5) (hl5 : Row kHold w5 (fun k => k < w5.heap.size) Bh list.length list) (hdh : list.length ≤ dh) :
    RefCtx g A2 c2 A3 c3 list (w5.alloc (.cells (goalCells g Bg dg A2 c2 A3 c3) 38)) w5.heap.size Bg dg Bh dh := by
  obtain ⟨W6, hW6⟩ : ∃ W6 : World, W6 = w5.alloc (.cells (goalCells g Bg dg A2 c2 A3 c3) 38) := ⟨_, rfl⟩
  rw [← hW6]
  have h56 : Below w5.heap.size w5 W6 := by rw [hW6]; exact (Below.refl _ _).alloc (Nat.le_refl _) _
  have hs6 : W6.heap.size = w5.heap.size + 1 := by rw [hW6]; simp
  have X6 : W6.heap[w5.heap.size]? = some (.cells (goalCells g Bg dg A2 c2 A3 c3) 38 (0, 0)) := by rw [hW6]; exact heap_alloc_new w5 _
  have G6 := goal_wide g Bg dg A2 c2 A3 c3 hg4 (bthen h45 h56 (Nat.le_refl _))
  have L6 : Row kHold W6 (fun k => k < W6.heap.size) Bh list.length list := row_up hl5 h56
  have GG : ∀ W : World, Below W6.heap.size W6 W → GoalIn W (fun k => k < W.heap.size) g Bg dg A2 c2 A3 c3 := fun W hW => goal_wide g Bg dg A2 c2 A3 c3 G6 hW
  have LL : ∀ W : World, Below W6.heap.size W6 W → Row kHold W (fun k => k < W.heap.size) Bh list.length list := fun W hW => row_up L6 hW
  refine ⟨fun W hW => ?_, GG, LL, fun W hW => (refCheck_any g Bg dg A2 c2 A3 c3 Bh list.length dh list W _ (GG W hW) (LL W hW) hdh).mono fun e w' ⟨he, hb⟩ => ⟨he, bthen hW hb (Nat.le_refl _), hb⟩,
    fun W hW => (sufficient_any g Bg dg A2 c2 A3 c3 Bh list.length dh list W (GG W hW) (LL W hW) hdh).mono fun e w' ⟨he, hb⟩ => ⟨he, bthen hW hb (Nat.le_refl _), hb⟩⟩
  have e : ∀ i, W.cell? ⟨w5.heap.size, i, none⟩ = (goalCells g Bg dg A2 c2 A3 c3)[i]? := fun i => (hW.cell (p := ⟨w5.heap.size, i, none⟩) (show w5.heap.size < W6.heap.size by omega)).trans (cell_of_row _ _ i _ _ _ X6)
  exact ⟨e 0, e 1, e 2, e 3, e 4⟩
end
end Go.Proofs.Ytlinhckgdfhppaa
