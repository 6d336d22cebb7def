/- A part of the proof: what the functions do, and plain laws. -/
import Derived.Test.YtlinhckgdfhppaaM2
import Derived.Test.YtlinhckgdfhppaaK5
import Derived.WideKeyRuns
import Derived.Test.YtlinhckgdfhppaaK6
set_option linter.unusedSimpArgs false
set_option linter.unusedVariables false
namespace Go.Proofs.Ytlinhckgdfhppaa
open Go Go.RowKit Go.Proofs.YtlinhckgdfhppaaK
open Go.ChangeMaps (setBlock)
attribute [local go_sem high] eq_piece

abbrev ePiece (p : Piece) : Value := .agg #[.string p.1, .int .i64 p.2]
abbrev eUnit (_ : Unit) : Value := .agg #[]
theorem piece_eq (w : World) (x y : Piece) : (Op.equal 52 (ePiece x) (ePiece y)).run Try.prog w = .ok (decide (x = y)) w := by
  have e : Op.maxDepth = 9998 + 2 := rfl
  unfold Op.equal
  rw [e, eq_piece]
  congr 1
  exact (Bool.eq_iff_iff.2 ((piece_beq x y).trans decide_eq_true_iff.symm))
theorem piece_key : KeyRun Try.prog 52 ePiece where
  check := fun w em x => by
    have hs : ∀ s, (Instr.checkKey em 9999 9 (.string s)).run Try.prog w = .ok () w := fun s => MapKept.run_checkKey Try.underlying9 (by simp [MapKept.IsKey]) em 9998
    have hi : ∀ i, (Instr.checkKey em 9999 3 (.int .i64 i)).run Try.prog w = .ok () w := fun i => MapKept.run_checkKey Try.underlying3 (by simp [MapKept.IsKey]) em 9998
    unfold Instr.checkKey
    simp only [Sem.run_bind, run_underlying Try.underlying52, Result.andThen]
    have p0 : (part 9 #[.string x.1, .int .i64 x.2] 0).run Try.prog w = .ok (.string x.1) w := by go_simp
    have p1 : (part 3 #[.string x.1, .int .i64 x.2] 1).run Try.prog w = .ok (.int .i64 x.2) w := by go_simp
    simp [hs, hi, p0, p1, Result.andThen]
  find := fun w x es m h => by
    rw [run_findKey_eq w (by kernel_rfl)]
    exact findAsking_hit piece_eq w x es m 0 h
  stays := fun w x => by
    simp [Instr.keyThatStays, Instr.sameBits]

def setF {κ : Type} [DecidableEq κ] (xs : List κ) : κ → Option Unit := fun x => if x ∈ xs then some () else none
theorem setF_yes {κ : Type} [DecidableEq κ] {xs : List κ} {x : κ} (h : x ∈ xs) : setF xs x = some () := if_pos h
theorem setF_no {κ : Type} [DecidableEq κ] {xs : List κ} {x : κ} (h : x ∉ xs) : setF xs x = none := if_neg h
theorem setF_upd {κ : Type} [DecidableEq κ] (xs : List κ) (x : κ) : upd (setF xs) x () = setF (xs ++ [x]) := by
  funext y
  by_cases h : y = x <;> simp [upd, setF, h]
theorem zero_unit (w : World) : (zeroValue 105).run Try.prog w = .ok (.agg #[]) w := by go_simp
set_option maxRecDepth 100000 in
set_option maxHeartbeats 1000000 in
theorem distinct_any (A : Option Addr) (n c : Nat) (ok : Nat → Prop) (xs : List Piece) (w : World) (h : Row kPiece w ok A n xs) :
    Calls Try.prog 58 #[.slice A n c] w fun e w' => e = .returned (.bool (decide (okPieces xs))) ∧ Below w.heap.size w w' := by
  have hm := h.2.1
  have HL := As.mk h.1
  have HR := As.mk h
  clear h
  have hmm := @run_makeMap Try.prog
  go_enter Try.func58, Try.ntmps58
  go_wp2
  go_loopw [11] (fun i' wr => ∃ k : Nat, k ≤ n ∧ i' = .int .i64 k ∧ As (okPieces (xs.take k)) ∧ As (MapAt wr w.heap.size ePiece eUnit (setF (xs.take k))) ∧ (Below w.heap.size w wr)) (fun i' _ => n - (intOf i').toNat)
  case atStart => exact ⟨0, Nat.zero_le _, rfl, ⟨by simp [okPieces]⟩, ⟨MapAt.made w _ _⟩, (Below.refl _ _).alloc (Nat.le_refl _) _⟩
  case round =>
    obtain ⟨k, hk, rfl, hne, HMAP, hb⟩ := hrel
    by_cases hlt : k < n
    · obtain ⟨ad, rfl, _, _, p0, p1⟩ := rowPiece (HR.o.below hb) k hlt
      have HS := As.mk (okPieces_snoc (show k < xs.length by rw [HL.o]; exact hlt))
      have hgg := HMAP.o.lt
      have LK := As.mk fun W hW => (HMAP.o.move (w' := W) hW).look piece_key Try.underlying144 (zero_unit W) (pg xs k) true
      have LS := As.mk fun W hW => (HMAP.o.move (w' := W) hW).store piece_key Try.underlying144 (pg xs k) ()
      generalize hy : pg xs k = y at *
      have HT : As (xs.take (k + 1) = xs.take k ++ [y]) := ⟨by rw [← hy, pg_eq xs k (by rw [HL.o]; exact hlt)]; exact List.take_succ_eq_append_getElem _⟩
      clear hy
      by_cases hx : y ∈ xs.take k
      · have HN : As (¬ okPieces xs) := ⟨fun hc => (HS.o.1 (okPieces_take hc _)).2.2.2 hx⟩
        have LKN : As (∀ W : World, W.heap[w.heap.size]? = wr.heap[w.heap.size]? → (Instr.lookup 144 (.map (some w.heap.size)) (ePiece y) true).run Try.prog W = .ok (.tuple #[.agg #[], .bool true]) W) := ⟨fun W hW => by
          have := LK.o W hW
          rw [setF_yes hx] at this
          exact this⟩
        clear LK LS HS HT
        go_wp2_with (at_lookup; refine wpList_lookup_run rfl _ _ 144 true rfl (.map (some w.heap.size)) (ePiece y) _ rfl rfl (LKN.o _ (by (repeat (first | rfl | (refine (Below.heap_alloc _ _ _ (by (first | omega | (simp; done) | (simp; omega)))).trans ?_) | (refine (Below.heap_setCell _ _ _ _ (by (first | omega | (simp; done) | (simp; omega)))).trans ?_) | (refine (heap_drew _ _).trans ?_) | (refine (heap_setBlock_far _ _ _ _ (by (first | omega | (simp; done) | (simp; omega)))).trans ?_))))) ?_)
        go_ret
        refine ⟨by rw [decide_eq_false HN.o]; rfl, ?_⟩
        first | exact ((hb.alloc (by omega) _).alloc (by simp; omega) _) | exact ((hb.alloc (by omega) _).setCell (by simp; omega) _)
      · have LKN : As (∀ W : World, W.heap[w.heap.size]? = wr.heap[w.heap.size]? → (Instr.lookup 144 (.map (some w.heap.size)) (ePiece y) true).run Try.prog W = .ok (.tuple #[.agg #[], .bool false]) W) := ⟨fun W hW => by
          have := LK.o W hW
          rw [setF_no hx] at this
          exact this⟩
        clear LK
        by_cases h0 : y.2 < 0
        · have d0 : decide (y.2 < 0) = true := decide_eq_true h0
          have HN : As (¬ okPieces xs) := ⟨fun hc => by have := (HS.o.1 (okPieces_take hc _)).2.1; omega⟩
          clear LS HS HT
          go_wp2_with (at_lookup; refine wpList_lookup_run rfl _ _ 144 true rfl (.map (some w.heap.size)) (ePiece y) _ rfl rfl (LKN.o _ (by (repeat (first | rfl | (refine (Below.heap_alloc _ _ _ (by (first | omega | (simp; done) | (simp; omega)))).trans ?_) | (refine (Below.heap_setCell _ _ _ _ (by (first | omega | (simp; done) | (simp; omega)))).trans ?_) | (refine (heap_drew _ _).trans ?_) | (refine (heap_setBlock_far _ _ _ _ (by (first | omega | (simp; done) | (simp; omega)))).trans ?_))))) ?_)
          go_ret
          refine ⟨by rw [decide_eq_false HN.o]; rfl, ?_⟩
          first | exact ((hb.alloc (by omega) _).alloc (by simp; omega) _) | exact ((hb.alloc (by omega) _).setCell (by simp; omega) _)
        · have d0 : decide (y.2 < 0) = false := decide_eq_false h0
          by_cases h1 : 16 ≤ y.2
          · have d1 : decide (16 ≤ y.2) = true := decide_eq_true h1
            have HN : As (¬ okPieces xs) := ⟨fun hc => by have := (HS.o.1 (okPieces_take hc _)).2.2.1; omega⟩
            clear LS HS HT
            go_wp2_with (at_lookup; refine wpList_lookup_run rfl _ _ 144 true rfl (.map (some w.heap.size)) (ePiece y) _ rfl rfl (LKN.o _ (by (repeat (first | rfl | (refine (Below.heap_alloc _ _ _ (by (first | omega | (simp; done) | (simp; omega)))).trans ?_) | (refine (Below.heap_setCell _ _ _ _ (by (first | omega | (simp; done) | (simp; omega)))).trans ?_) | (refine (heap_drew _ _).trans ?_) | (refine (heap_setBlock_far _ _ _ _ (by (first | omega | (simp; done) | (simp; omega)))).trans ?_))))) ?_)
            go_ret
            refine ⟨by rw [decide_eq_false HN.o]; rfl, ?_⟩
            first | exact ((hb.alloc (by omega) _).alloc (by simp; omega) _) | exact ((hb.alloc (by omega) _).setCell (by simp; omega) _)
          · have d1 : decide (16 ≤ y.2) = false := decide_eq_false h1
            have HN : As (okPieces (xs.take (k + 1))) := ⟨HS.o.2 ⟨hne.o, by omega, by omega, hx⟩⟩
            clear HS
            go_wp2_with (first
              | (at_lookup; refine wpList_lookup_run rfl _ _ 144 true rfl (.map (some w.heap.size)) (ePiece y) _ rfl rfl (LKN.o _ (by (repeat (first | rfl | (refine (Below.heap_alloc _ _ _ (by (first | omega | (simp; done) | (simp; omega)))).trans ?_) | (refine (Below.heap_setCell _ _ _ _ (by (first | omega | (simp; done) | (simp; omega)))).trans ?_) | (refine (heap_drew _ _).trans ?_) | (refine (heap_setBlock_far _ _ _ _ (by (first | omega | (simp; done) | (simp; omega)))).trans ?_))))) ?_)
              | (at_mapUpdate; refine wpList_store_map rfl _ _ _ 144 rfl w.heap.size (ePiece y) (eUnit ()) rfl rfl rfl (LS.o _ (by (repeat (first | rfl | (refine (Below.heap_alloc _ _ _ (by (first | omega | (simp; done) | (simp; omega)))).trans ?_) | (refine (Below.heap_setCell _ _ _ _ (by (first | omega | (simp; done) | (simp; omega)))).trans ?_) | (refine (heap_drew _ _).trans ?_) | (refine (heap_setBlock_far _ _ _ _ (by (first | omega | (simp; done) | (simp; omega)))).trans ?_))))) ?_; intro o hmap))
            go_roundw
            case rel =>
              refine ⟨k + 1, by omega, by go_num, HN, ⟨by rw [HT.o, ← setF_upd]; exact hmap⟩, ?_⟩
              refine below_setBlock ?_ (Nat.le_refl _) _
              first | exact ((hb.alloc (by omega) _).alloc (by simp; omega) _) | exact ((hb.alloc (by omega) _).setCell (by simp; omega) _)
            case measure => simp [intOf]; omega
    · have e : k = n := by omega
      subst e
      rw [List.take_of_length_le (by rw [HL.o]; exact Nat.le_refl _)] at hne
      go_wp2
      go_ret
      exact ⟨by rw [decide_eq_true hne.o]; rfl, hb⟩
end Go.Proofs.Ytlinhckgdfhppaa
namespace Go.Proofs.Ytlinhckgdfhppaa
open Go Go.RowKit Go.Proofs.YtlinhckgdfhppaaK
open Go.ChangeMaps (setBlock)
attribute [local go_sem high] eq_piece

/-- The last of the first k shares, or 0. -/
def lastOf (xs : List Int) (k : Nat) : Int := if k = 0 then 0 else ig xs (k - 1)
theorem lastOf_succ (xs : List Int) (k : Nat) : lastOf xs (k + 1) = ig xs k := by simp [lastOf]
theorem asc_snoc {xs : List Int} {k : Nat} (hk : k < xs.length) (h : okShares (xs.take k)) : okShares (xs.take (k + 1)) ↔ ¬ ig xs k ≤ lastOf xs k ∧ ¬ 255 < ig xs k := by
  rw [okShares_snoc hk, lastOf]
  by_cases h0 : k = 0
  · subst h0
    rw [if_pos rfl]
    constructor
    · rintro ⟨_, h1, h2, _⟩; omega
    · rintro ⟨h1, h2⟩; exact ⟨h, by omega, by omega, fun h => absurd h (by omega)⟩
  · rw [if_neg h0]
    have hm : ig xs (k - 1) ∈ xs.take k := by
      unfold ig
      rw [List.getD_eq_getElem?_getD, List.getElem?_eq_getElem (by omega)]
      exact List.mem_take_iff_getElem.2 ⟨k - 1, by omega, rfl⟩
    have := h.1 _ hm
    constructor
    · rintro ⟨_, h1, h2, h3⟩; have := h3 (by omega); omega
    · rintro ⟨h1, h2⟩; exact ⟨h, by omega, by omega, fun _ => by omega⟩

set_option maxRecDepth 100000 in
set_option maxHeartbeats 1000000 in
theorem ascending_any (A : Option Addr) (n c : Nat) (ok : Nat → Prop) (xs : List Int) (w : World) (h : Row (Kn.int .i64) w ok A n xs) :
    Calls Try.prog 59 #[.slice A n c] w fun e w' => e = .returned (.bool (decide (okShares xs))) ∧ Below w.heap.size w w' := by
  have hm := h.2.1
  have HL := As.mk h.1
  have HR := As.mk h
  clear h
  go_enter Try.func59, Try.ntmps59
  go_wp2
  go_loopw [3, 8] (fun l i' wr => ∃ k : Nat, k ≤ n ∧ i' = .int .i64 k ∧ l = .int .i64 (lastOf xs k) ∧ As (okShares (xs.take k)) ∧ (Below w.heap.size w wr)) (fun _ i' _ => n - (intOf i').toNat)
  case atStart => exact ⟨0, Nat.zero_le _, rfl, rfl, ⟨by simp [okShares]⟩, Below.refl _ _⟩
  case round =>
    obtain ⟨k, hk, rfl, rfl, hne, hb⟩ := hrel
    by_cases hlt : k < n
    · obtain ⟨ad, rfl, _, _, p0⟩ := (HR.o.below hb).int_at k hlt
      have HS := As.mk (asc_snoc (show k < xs.length by rw [HL.o]; exact hlt) hne.o)
      have HLS := As.mk (lastOf_succ xs k)
      generalize lastOf xs k = l at *
      generalize ig xs k = x at *
      by_cases h1 : x ≤ l
      · have hd : decide (x ≤ l) = true := decide_eq_true h1
        have HN : As (¬ okShares xs) := ⟨fun hc => (HS.o.1 (okShares_take hc _)).1 h1⟩
        clear HS
        go_wp2
        go_ret
        exact ⟨by rw [decide_eq_false HN.o]; rfl, hb⟩
      · have hd : decide (x ≤ l) = false := decide_eq_false h1
        by_cases h2 : 255 < x
        · have hd2 : decide (255 < x) = true := decide_eq_true h2
          have HN : As (¬ okShares xs) := ⟨fun hc => (HS.o.1 (okShares_take hc _)).2 h2⟩
          clear HS
          go_wp2
          go_ret
          exact ⟨by rw [decide_eq_false HN.o]; rfl, hb⟩
        · have hd2 : decide (255 < x) = false := decide_eq_false h2
          have HN : As (okShares (xs.take (k + 1))) := ⟨HS.o.2 ⟨h1, h2⟩⟩
          clear HS
          go_wp2
          go_roundw
          case rel => exact ⟨k + 1, by omega, by go_num, by rw [HLS.o], HN, hb⟩
          case measure => simp [intOf]; omega
    · have e : k = n := by omega
      subst e
      rw [List.take_of_length_le (by rw [HL.o]; exact Nat.le_refl _)] at hne
      go_wp2
      go_ret
      exact ⟨by rw [decide_eq_true hne.o]; rfl, hb⟩
end Go.Proofs.Ytlinhckgdfhppaa
namespace Go.Proofs.Ytlinhckgdfhppaa
open Go Go.RowKit Go.Proofs.YtlinhckgdfhppaaK
open Go.ChangeMaps (setBlock)
attribute [local go_sem high] eq_piece

/-- What Check answers. -/
def checkOf (g : Goal) (list : List Hold) : Int := if Valid g list then 0 else 1
theorem checkOf_no {g : Goal} {list : List Hold} (h : ¬ Valid g list) : checkOf g list = 1 := if_neg h
theorem checkOf_yes {g : Goal} {list : List Hold} (h : Valid g list) : checkOf g list = 0 := if_pos h

set_option maxRecDepth 100000 in
set_option maxHeartbeats 4000000 in
theorem check_any (g : Goal) (A1 : Option Addr) (c1 : Nat) (A2 : Option Addr) (c2 : Nat) (A3 : Option Addr) (c3 : Nat) (A4 : Option Addr) (n c4 : Nat) (list : List Hold) (w : World) (ok : Nat → Prop)
    (hg : GoalIn w ok g A1 c1 A2 c2 A3 c3) (hh : Row kHold w ok A4 n list) :
    Calls Try.prog 31 #[.agg (goalCells g A1 c1 A2 c2 A3 c3), .slice A4 n c4] w fun e w' => e = .returned (.int .i64 (checkOf g list)) ∧ Below w.heap.size w w' := by
  have hm1 := hg.n.2.1
  have hm2 := hg.p.2.1
  have hm3 := hg.s.2.1
  have hm4 := hh.2.1
  have HL := As.mk hh.1
  have HH := As.mk hh
  have HG := As.mk hg
  clear hg hh
  obtain ⟨w0, hw0⟩ : ∃ w0 : World, w0 = w.alloc (.cells (goalCells g A1 c1 A2 c2 A3 c3) 26) := ⟨_, rfl⟩
  have HB0 : As (Below w.heap.size w w0) := ⟨by rw [hw0]; exact (Below.refl w.heap.size w).alloc (Nat.le_refl _) _⟩
  have HX : As (w0.heap[w.heap.size]? = some (.cells (goalCells g A1 c1 A2 c2 A3 c3) 26 (0, 0))) := ⟨by rw [hw0]; exact heap_alloc_new w _⟩
  have hlw : w.heap.size < w0.heap.size := blk_lt HX.o
  have bx0 : w0.cell? ⟨w.heap.size, 0, none⟩ = some (.slice A1 g.needs.length c1) := (cell_of_row _ _ 0 _ _ _ HX.o).trans rfl
  have bx1 : w0.cell? ⟨w.heap.size, 1, none⟩ = some (.int .i64 g.thr) := (cell_of_row _ _ 1 _ _ _ HX.o).trans rfl
  have bx3 : w0.cell? ⟨w.heap.size, 3, none⟩ = some (.slice A2 g.pieces.length c2) := (cell_of_row _ _ 3 _ _ _ HX.o).trans rfl
  have bx4 : w0.cell? ⟨w.heap.size, 4, none⟩ = some (.slice A3 g.shares.length c3) := (cell_of_row _ _ 4 _ _ _ HX.o).trans rfl
  have HW0 := As.mk hw0
  clear hw0
  have hmm := @run_makeMap Try.prog
  go_enter Try.func31, Try.ntmps31
  go_upto_region 1 with (fail)
  rw [← HW0.o]
  by_cases v1 : g.needs.length ≤ 64
  · have hd1 : decide ((64 : Int) < (g.needs.length : Int)) = false := decide_eq_false (by omega)
    by_cases v2 : 0 ≤ g.thr
    · have hd2 : decide (g.thr < 0) = false := decide_eq_false (by omega)
      by_cases v3 : g.thr ≤ 255
      · have hd3 : decide (255 < g.thr) = false := decide_eq_false (by omega)
        by_cases v4 : okPieces g.pieces
        · have V4 := As.mk v4
          have PC : As (∀ W, Below w0.heap.size w0 W → Calls Try.prog 58 #[.slice A2 g.pieces.length c2] W fun e w' => e = .returned (.bool true) ∧ Below W.heap.size W w') := ⟨fun W hW => (distinct_any _ _ _ ok _ _ (((HG.o.below HB0.o).below hW).p)).mono fun e w' ⟨h1, h2⟩ => ⟨by rw [h1, decide_eq_true v4], h2⟩⟩
          clear v4
          by_cases v5 : okShares g.shares
          · have V5 := As.mk v5
            have SC : As (∀ W, Below w0.heap.size w0 W → Calls Try.prog 59 #[.slice A3 g.shares.length c3] W fun e w' => e = .returned (.bool true) ∧ Below W.heap.size W w') := ⟨fun W hW => (ascending_any _ _ _ ok _ _ (((HG.o.below HB0.o).below hW).s)).mono fun e w' ⟨h1, h2⟩ => ⟨by rw [h1, decide_eq_true v5], h2⟩⟩
            clear v5
            by_cases v6 : n ≤ 12
            · have hd6 : decide ((12 : Int) < (n : Int)) = false := decide_eq_false (by omega)
              go_wp2_with (first | (go_at_call 58; refine (PC.o _ (Below.refl _ _)).mono ?_; rintro e w1 ⟨rfl, hb1⟩; have cx0 := (hb1.cell (p := ⟨w.heap.size, 0, none⟩) hlw).trans bx0; have cx4 := (hb1.cell (p := ⟨w.heap.size, 4, none⟩) hlw).trans bx4; have hlw1 := Nat.lt_of_lt_of_le hlw hb1.size) | (go_at_call 59; refine (SC.o _ hb1).mono ?_; rintro e w2 ⟨rfl, hb2⟩; have dx0 := (hb2.cell (p := ⟨w.heap.size, 0, none⟩) hlw1).trans cx0; have hlw2 := Nat.lt_of_lt_of_le hlw1 hb2.size))
              have HB2 := As.mk (bthen (bthen HB0.o hb1 (Nat.le_refl _)) hb2 (Nat.le_refl _))
              have HW2 := As.mk (HG.o.below HB2.o)
              have HH2 := As.mk (HH.o.below HB2.o)
              clear hb1 hb2 cx0 cx4 hlw1 PC SC bx0 bx1 bx3 bx4 hd1 hd2 hd3 hd6 hlw
              obtain ⟨sb, hsb⟩ : ∃ sb : Nat, sb = w2.heap.size := ⟨_, rfl⟩
              go_loopw [50] (fun i' wr => ∃ k : Nat, k ≤ g.needs.length ∧ i' = .int .i64 k ∧ As (okNeeds (g.needs.take k)) ∧ As (MapAt wr w2.heap.size Value.string eUnit (setF ((g.needs.take k).map (fun n : Need => n.1)))) ∧ Below w2.heap.size w2 wr) (fun i' _ => g.needs.length - (intOf i').toNat)
              case atStart => exact ⟨0, Nat.zero_le _, rfl, ⟨okU_nil⟩, ⟨MapAt.made w2 _ _⟩, (Below.refl _ _).alloc (Nat.le_refl _) _⟩
              case round =>
                obtain ⟨k, hk, rfl, hne, HMAP, hb⟩ := hrel
                by_cases hlt : k < g.needs.length
                · have HN2 := As.mk (HW2.o.below hb).n
                  obtain ⟨ad, e1, _, hlt', p0, p1⟩ := rowPiece HN2.o k hlt
                  subst e1
                  have HS := As.mk (okU_snoc (p := fun n : Need => 1 ≤ n.2 ∧ n.2 ≤ 8) (f := fun n : Need => n.1) hlt (pg_eq g.needs k hlt).symm)
                  have HT : As ((g.needs.take (k + 1)).map (fun n : Need => n.1) = (g.needs.take k).map (fun n : Need => n.1) ++ [(pg g.needs k).1]) := ⟨by rw [pg_eq _ _ hlt, List.take_succ_eq_append_getElem hlt, List.map_append]; rfl⟩
                  have hgg := HMAP.o.lt
                  have LK := As.mk fun W hW => (HMAP.o.move (w' := W) hW).look (string_key Try.underlying9) Try.underlying126 (zero_unit W) (pg g.needs k).1 true
                  have LS := As.mk fun W hW => (HMAP.o.move (w' := W) hW).store (string_key Try.underlying9) Try.underlying126 (pg g.needs k).1 ()
                  generalize pg g.needs k = y at *
                  have HB := As.mk hb
                  have hbs := hb.size
                  by_cases hx : y.1 ∈ (g.needs.take k).map (fun n : Need => n.1)
                  · have LKN : As (∀ W : World, W.heap[w2.heap.size]? = wr.heap[w2.heap.size]? → (Instr.lookup 126 (.map (some w2.heap.size)) (.string y.1) true).run Try.prog W = .ok (.tuple #[.agg #[], .bool true]) W) := ⟨fun W hW => by
                      have := LK.o W hW
                      rw [setF_yes hx] at this
                      exact this⟩
                    have HN : As (¬ Valid g list) := ⟨fun hc => (HS.o.1 (okU_take hc.2.2.2.2.2.2.1 (k + 1))).2.2 hx⟩
                    clear LK LS HS HT hx
                    go_wp2_with (at_lookup; refine wpList_lookup_run rfl _ _ 126 true rfl (.map (some w2.heap.size)) (.string y.1) _ rfl rfl (LKN.o _ (by (repeat (first | rfl | (refine (Below.heap_alloc _ _ _ (by (first | omega | (simp; done) | (simp; omega)))).trans ?_) | (refine (Below.heap_setCell _ _ _ _ (by (first | omega | (simp; done) | (simp; omega)))).trans ?_) | (refine (heap_drew _ _).trans ?_) | (refine (heap_setBlock_far _ _ _ _ (by (first | omega | (simp; done) | (simp; omega)))).trans ?_))))) ?_)
                    go_ret
                    exact ⟨by rw [checkOf_no HN.o]; rfl, bthen HB2.o ((HB.o.alloc (by omega) _).alloc (by simp; omega) _) (Nat.le_refl _)⟩
                  · have LKN : As (∀ W : World, W.heap[w2.heap.size]? = wr.heap[w2.heap.size]? → (Instr.lookup 126 (.map (some w2.heap.size)) (.string y.1) true).run Try.prog W = .ok (.tuple #[.agg #[], .bool false]) W) := ⟨fun W hW => by
                      have := LK.o W hW
                      rw [setF_no hx] at this
                      exact this⟩
                    clear LK
                    by_cases u1 : 1 ≤ y.2
                    · have hu1 : decide (y.2 < 1) = false := decide_eq_false (by omega)
                      by_cases u2 : y.2 ≤ 8
                      · have hu2 : decide (8 < y.2) = false := decide_eq_false (by omega)
                        have HN3 : As (okNeeds (g.needs.take (k + 1))) := ⟨HS.o.2 ⟨hne.o, ⟨u1, u2⟩, hx⟩⟩
                        clear HS hx
                        go_wp2_with (first
                          | (at_lookup; refine wpList_lookup_run rfl _ _ 126 true rfl (.map (some w2.heap.size)) (.string y.1) _ rfl rfl (LKN.o _ (by (repeat (first | rfl | (refine (Below.heap_alloc _ _ _ (by (first | omega | (simp; done) | (simp; omega)))).trans ?_) | (refine (Below.heap_setCell _ _ _ _ (by (first | omega | (simp; done) | (simp; omega)))).trans ?_) | (refine (heap_drew _ _).trans ?_) | (refine (heap_setBlock_far _ _ _ _ (by (first | omega | (simp; done) | (simp; omega)))).trans ?_))))) ?_)
                          | (at_mapUpdate; refine wpList_store_map rfl _ _ _ 126 rfl w2.heap.size (.string y.1) (eUnit ()) rfl rfl rfl (LS.o _ (by (repeat (first | rfl | (refine (Below.heap_alloc _ _ _ (by (first | omega | (simp; done) | (simp; omega)))).trans ?_) | (refine (Below.heap_setCell _ _ _ _ (by (first | omega | (simp; done) | (simp; omega)))).trans ?_) | (refine (heap_drew _ _).trans ?_) | (refine (heap_setBlock_far _ _ _ _ (by (first | omega | (simp; done) | (simp; omega)))).trans ?_))))) ?_; intro o hmap))
                        go_roundw
                        case rel => exact ⟨k + 1, by omega, by go_num, HN3, ⟨by rw [HT.o, ← setF_upd]; exact hmap⟩, below_setBlock ((HB.o.alloc (by omega) _).alloc (by simp; omega) _) (Nat.le_refl _) _⟩
                        case measure => simp [intOf]; omega
                      · have hu2 : decide (8 < y.2) = true := decide_eq_true (by omega)
                        have HN : As (¬ Valid g list) := ⟨fun hc => u2 (HS.o.1 (okU_take hc.2.2.2.2.2.2.1 (k + 1))).2.1.2⟩
                        clear LS HS HT hx
                        go_wp2_with (at_lookup; refine wpList_lookup_run rfl _ _ 126 true rfl (.map (some w2.heap.size)) (.string y.1) _ rfl rfl (LKN.o _ (by (repeat (first | rfl | (refine (Below.heap_alloc _ _ _ (by (first | omega | (simp; done) | (simp; omega)))).trans ?_) | (refine (Below.heap_setCell _ _ _ _ (by (first | omega | (simp; done) | (simp; omega)))).trans ?_) | (refine (heap_drew _ _).trans ?_) | (refine (heap_setBlock_far _ _ _ _ (by (first | omega | (simp; done) | (simp; omega)))).trans ?_))))) ?_)
                        go_ret
                        exact ⟨by rw [checkOf_no HN.o]; rfl, bthen HB2.o ((HB.o.alloc (by omega) _).alloc (by simp; omega) _) (Nat.le_refl _)⟩
                    · have hu1 : decide (y.2 < 1) = true := decide_eq_true (by omega)
                      have HN : As (¬ Valid g list) := ⟨fun hc => u1 (HS.o.1 (okU_take hc.2.2.2.2.2.2.1 (k + 1))).2.1.1⟩
                      clear LS HS HT hx
                      go_wp2_with (at_lookup; refine wpList_lookup_run rfl _ _ 126 true rfl (.map (some w2.heap.size)) (.string y.1) _ rfl rfl (LKN.o _ (by (repeat (first | rfl | (refine (Below.heap_alloc _ _ _ (by (first | omega | (simp; done) | (simp; omega)))).trans ?_) | (refine (Below.heap_setCell _ _ _ _ (by (first | omega | (simp; done) | (simp; omega)))).trans ?_) | (refine (heap_drew _ _).trans ?_) | (refine (heap_setBlock_far _ _ _ _ (by (first | omega | (simp; done) | (simp; omega)))).trans ?_))))) ?_)
                      go_ret
                      exact ⟨by rw [checkOf_no HN.o]; rfl, bthen HB2.o ((HB.o.alloc (by omega) _).alloc (by simp; omega) _) (Nat.le_refl _)⟩
                · have HNN : As (okNeeds g.needs) := ⟨by
                    have := hne.o
                    rwa [List.take_of_length_le (by omega)] at this⟩
                  have HBW := As.mk (bthen HB2.o hb (Nat.le_refl _))
                  clear hb dx0 HMAP
                  obtain ⟨wo, rfl⟩ : ∃ wo : World, wo = wr := ⟨_, rfl⟩
                  have HHO := As.mk (HH.o.below HBW.o)
                  clear HW2 HH2 HG HH
                  go_wp2
                  go_loopw [80] (fun i' wr => ∃ k : Nat, k ≤ n ∧ i' = .int .i64 k ∧ As (okHolds (list.take k)) ∧ As (MapAt wr wo.heap.size (Value.int .i64) eUnit (setF ((list.take k).map (fun h : Hold => h.dev)))) ∧ Below wo.heap.size wo wr) (fun i' _ => n - (intOf i').toNat)
                  case atStart => exact ⟨0, Nat.zero_le _, rfl, ⟨okU_nil⟩, ⟨MapAt.made wo _ _⟩, (Below.refl _ _).alloc (Nat.le_refl _) _⟩
                  case round =>
                    obtain ⟨m, hm, rfl, hnm, HMAP, hb⟩ := hrel
                    by_cases hlt : m < n
                    · have hml : m < list.length := by rw [HL.o]; exact hlt
                      have HH9 := As.mk (HHO.o.below hb)
                      obtain ⟨ad4, B1, d1, B2, d2, e4, _, hl4, r0, r1, r2, r3, hd1, R1, hd2, R2⟩ := rowHold HH9.o m hlt
                      subst e4
                      have HS := As.mk (okU_snoc (p := fun h : Hold => 0 ≤ h.dev ∧ h.dev < 12 ∧ okPieces h.pieces ∧ okShares h.shares) (f := fun h : Hold => h.dev) hml (hgt_eq list m hml).symm)
                      have HTK := As.mk (fun (h : okHolds list) => okU_take h (m + 1))
                      have HR1 := As.mk R1
                      have HR2 := As.mk R2
                      have HT : As ((list.take (m + 1)).map (fun h : Hold => h.dev) = (list.take m).map (fun h : Hold => h.dev) ++ [(hgt list m).dev]) := ⟨by rw [hgt_eq _ _ hml, List.take_succ_eq_append_getElem hml, List.map_append]; rfl⟩
                      have hgg := HMAP.o.lt
                      have LK := As.mk fun W hW => (HMAP.o.move (w' := W) hW).look (int_key (q := .i64) Try.underlying3) Try.underlying104 (zero_unit W) (hgt list m).dev true
                      have LS := As.mk fun W hW => (HMAP.o.move (w' := W) hW).store (int_key (q := .i64) Try.underlying3) Try.underlying104 (hgt list m).dev ()
                      have HB := As.mk hb
                      have hbs := hb.size
                      clear R1 R2 hb
                      generalize hgt list m = z at *
                      have PC : As (∀ W, Below wr.heap.size wr W → Calls Try.prog 58 #[.slice B1 z.pieces.length d1] W fun e w' => e = .returned (.bool (decide (okPieces z.pieces))) ∧ Below W.heap.size W w') := ⟨fun W hW => distinct_any _ _ _ ok _ _ (HR1.o.below hW)⟩
                      have SC : As (∀ W, Below wr.heap.size wr W → Calls Try.prog 59 #[.slice B2 z.shares.length d2] W fun e w' => e = .returned (.bool (decide (okShares z.shares))) ∧ Below W.heap.size W w') := ⟨fun W hW => ascending_any _ _ _ ok _ _ (HR2.o.below hW)⟩
                      by_cases hx : z.dev ∈ (list.take m).map (fun h : Hold => h.dev)
                      · skip
                        have LKN : As (∀ W : World, W.heap[wo.heap.size]? = wr.heap[wo.heap.size]? → (Instr.lookup 104 (.map (some wo.heap.size)) (.int .i64 z.dev) true).run Try.prog W = .ok (.tuple #[.agg #[], .bool true]) W) := ⟨fun W hW => by
                          have := LK.o W hW
                          rw [setF_yes hx] at this
                          exact this⟩
                        clear LK
                        have HN : As (¬ Valid g list) := ⟨fun hc => (HS.o.1 (HTK.o hc.2.2.2.2.2.2.2)).2.2 hx⟩
                        clear LS HS HT hx
                        go_wp2_with (first | (at_lookup; refine wpList_lookup_run rfl _ _ 104 true rfl (.map (some wo.heap.size)) (.int .i64 z.dev) _ rfl rfl (LKN.o _ (by (repeat (first | rfl | (refine (Below.heap_alloc _ _ _ (by (first | omega | (simp; done) | (simp; omega)))).trans ?_) | (refine (Below.heap_setCell _ _ _ _ (by (first | omega | (simp; done) | (simp; omega)))).trans ?_) | (refine (heap_drew _ _).trans ?_) | (refine (heap_setBlock_far _ _ _ _ (by (first | omega | (simp; done) | (simp; omega)))).trans ?_))))) ?_))
                        go_ret
                        exact ⟨by rw [checkOf_no HN.o]; rfl, bthen HBW.o (bthen HB.o (((Below.refl wr.heap.size wr).alloc (Nat.le_refl _) _).alloc (by simp) _) (Nat.le_refl _)) (Nat.le_refl _)⟩
                      · skip
                        have LKN : As (∀ W : World, W.heap[wo.heap.size]? = wr.heap[wo.heap.size]? → (Instr.lookup 104 (.map (some wo.heap.size)) (.int .i64 z.dev) true).run Try.prog W = .ok (.tuple #[.agg #[], .bool false]) W) := ⟨fun W hW => by
                          have := LK.o W hW
                          rw [setF_no hx] at this
                          exact this⟩
                        clear LK
                        by_cases t1 : 0 ≤ z.dev
                        · have ht1 : decide (z.dev < 0) = false := decide_eq_false (by omega)
                          by_cases t2 : z.dev < 12
                          · have ht2 : decide (12 ≤ z.dev) = false := decide_eq_false (by omega)
                            obtain ⟨zc, hzc⟩ : ∃ zc : World, zc = (wr.alloc (.cells #[.int .i64 z.dev, .slice B1 z.pieces.length d1, .slice B2 z.shares.length d2, .bool z.index] 78)).alloc (.cells #[] 105) := ⟨_, rfl⟩
                            have HZ : As (zc.heap[wr.heap.size]? = some (.cells #[.int .i64 z.dev, .slice B1 z.pieces.length d1, .slice B2 z.shares.length d2, .bool z.index] 78 (0, 0))) := ⟨by rw [hzc]; exact (Below.heap_alloc _ _ _ (by simp)).trans (heap_alloc_new _ _)⟩
                            have Q0 : As (zc.cell? ⟨wr.heap.size, 0, none⟩ = some (.int .i64 z.dev)) := ⟨(cell_of_row _ _ 0 _ _ _ HZ.o).trans rfl⟩
                            have Q2 : As (zc.cell? ⟨wr.heap.size, 2, none⟩ = some (.slice B2 z.shares.length d2)) := ⟨(cell_of_row _ _ 2 _ _ _ HZ.o).trans rfl⟩
                            rw [hzc] at Q0 Q2
                            clear HZ
                            clear hzc zc
                            by_cases t4 : okPieces z.pieces
                            · rw [decide_eq_true t4] at PC
                              by_cases t5 : okShares z.shares
                              · rw [decide_eq_true t5] at SC
                                have HNX : As (okHolds (list.take (m + 1))) := ⟨HS.o.2 ⟨hnm.o, ⟨t1, t2, t4, t5⟩, hx⟩⟩
                                clear HS hx t4 t5
                                go_wp2_with (first | (at_lookup; refine wpList_lookup_run rfl _ _ 104 true rfl (.map (some wo.heap.size)) (.int .i64 z.dev) _ rfl rfl (LKN.o _ (by (repeat (first | rfl | (refine (Below.heap_alloc _ _ _ (by (first | omega | (simp; done) | (simp; omega)))).trans ?_) | (refine (Below.heap_setCell _ _ _ _ (by (first | omega | (simp; done) | (simp; omega)))).trans ?_) | (refine (heap_drew _ _).trans ?_) | (refine (heap_setBlock_far _ _ _ _ (by (first | omega | (simp; done) | (simp; omega)))).trans ?_))))) ?_) | (go_at_call 58; refine (PC.o _ (((Below.refl wr.heap.size wr).alloc (Nat.le_refl _) _).alloc (by simp) _)).mono ?_; rintro e w5 ⟨rfl, hb5⟩; have q2 := (hb5.cell (p := ⟨wr.heap.size, 2, none⟩) (by (first | omega | (simp; done) | (simp; omega)))).trans Q2.o; have q0 := (hb5.cell (p := ⟨wr.heap.size, 0, none⟩) (by (first | omega | (simp; done) | (simp; omega)))).trans Q0.o) | (go_at_call 59; refine (SC.o _ (bthen (((Below.refl wr.heap.size wr).alloc (Nat.le_refl _) _).alloc (by simp) _) hb5 (Nat.le_refl _))).mono ?_; rintro e w6 ⟨rfl, hb6⟩; have q0' := (hb6.cell (p := ⟨wr.heap.size, 0, none⟩) (Nat.lt_of_lt_of_le (by (first | omega | (simp; done) | (simp; omega))) hb5.size)).trans q0) | (at_mapUpdate; refine wpList_store_map rfl _ _ _ 104 rfl wo.heap.size (.int .i64 z.dev) (eUnit ()) rfl rfl rfl (LS.o _ ((bthen (bthen (((Below.refl wr.heap.size wr).alloc (Nat.le_refl _) _).alloc (by simp) _) hb5 (Nat.le_refl _)) hb6 (Nat.le_refl _)).block _ hgg)) ?_; intro o hmap))
                                go_roundw
                                case rel => exact ⟨m + 1, by omega, by go_num, HNX, ⟨by rw [HT.o, ← setF_upd]; exact hmap⟩, below_setBlock (bthen HB.o (bthen (bthen (((Below.refl wr.heap.size wr).alloc (Nat.le_refl _) _).alloc (by simp) _) hb5 (Nat.le_refl _)) hb6 (Nat.le_refl _)) (Nat.le_refl _)) (Nat.le_refl _) _⟩
                                case measure => simp [intOf]; omega
                              · rw [decide_eq_false t5] at SC
                                have HN : As (¬ Valid g list) := ⟨fun hc => t5 (HS.o.1 (HTK.o hc.2.2.2.2.2.2.2)).2.1.2.2.2⟩
                                clear LS HS HT hx
                                go_wp2_with (first | (at_lookup; refine wpList_lookup_run rfl _ _ 104 true rfl (.map (some wo.heap.size)) (.int .i64 z.dev) _ rfl rfl (LKN.o _ (by (repeat (first | rfl | (refine (Below.heap_alloc _ _ _ (by (first | omega | (simp; done) | (simp; omega)))).trans ?_) | (refine (Below.heap_setCell _ _ _ _ (by (first | omega | (simp; done) | (simp; omega)))).trans ?_) | (refine (heap_drew _ _).trans ?_) | (refine (heap_setBlock_far _ _ _ _ (by (first | omega | (simp; done) | (simp; omega)))).trans ?_))))) ?_) | (go_at_call 58; refine (PC.o _ (((Below.refl wr.heap.size wr).alloc (Nat.le_refl _) _).alloc (by simp) _)).mono ?_; rintro e w5 ⟨rfl, hb5⟩; have q2 := (hb5.cell (p := ⟨wr.heap.size, 2, none⟩) (by (first | omega | (simp; done) | (simp; omega)))).trans Q2.o; have q0 := (hb5.cell (p := ⟨wr.heap.size, 0, none⟩) (by (first | omega | (simp; done) | (simp; omega)))).trans Q0.o) | (go_at_call 59; refine (SC.o _ (bthen (((Below.refl wr.heap.size wr).alloc (Nat.le_refl _) _).alloc (by simp) _) hb5 (Nat.le_refl _))).mono ?_; rintro e w6 ⟨rfl, hb6⟩; have q0' := (hb6.cell (p := ⟨wr.heap.size, 0, none⟩) (Nat.lt_of_lt_of_le (by (first | omega | (simp; done) | (simp; omega))) hb5.size)).trans q0))
                                go_ret
                                exact ⟨by rw [checkOf_no HN.o]; rfl, bthen HBW.o (bthen HB.o (bthen (bthen (((Below.refl wr.heap.size wr).alloc (Nat.le_refl _) _).alloc (by simp) _) hb5 (Nat.le_refl _)) hb6 (Nat.le_refl _)) (Nat.le_refl _)) (Nat.le_refl _)⟩
                            · rw [decide_eq_false t4] at PC
                              have HN : As (¬ Valid g list) := ⟨fun hc => t4 (HS.o.1 (HTK.o hc.2.2.2.2.2.2.2)).2.1.2.2.1⟩
                              clear LS HS HT hx
                              go_wp2_with (first | (at_lookup; refine wpList_lookup_run rfl _ _ 104 true rfl (.map (some wo.heap.size)) (.int .i64 z.dev) _ rfl rfl (LKN.o _ (by (repeat (first | rfl | (refine (Below.heap_alloc _ _ _ (by (first | omega | (simp; done) | (simp; omega)))).trans ?_) | (refine (Below.heap_setCell _ _ _ _ (by (first | omega | (simp; done) | (simp; omega)))).trans ?_) | (refine (heap_drew _ _).trans ?_) | (refine (heap_setBlock_far _ _ _ _ (by (first | omega | (simp; done) | (simp; omega)))).trans ?_))))) ?_) | (go_at_call 58; refine (PC.o _ (((Below.refl wr.heap.size wr).alloc (Nat.le_refl _) _).alloc (by simp) _)).mono ?_; rintro e w5 ⟨rfl, hb5⟩; have q2 := (hb5.cell (p := ⟨wr.heap.size, 2, none⟩) (by (first | omega | (simp; done) | (simp; omega)))).trans Q2.o; have q0 := (hb5.cell (p := ⟨wr.heap.size, 0, none⟩) (by (first | omega | (simp; done) | (simp; omega)))).trans Q0.o))
                              go_ret
                              exact ⟨by rw [checkOf_no HN.o]; rfl, bthen HBW.o (bthen HB.o (bthen (((Below.refl wr.heap.size wr).alloc (Nat.le_refl _) _).alloc (by simp) _) hb5 (Nat.le_refl _)) (Nat.le_refl _)) (Nat.le_refl _)⟩
                          · have ht2 : decide (12 ≤ z.dev) = true := decide_eq_true (by omega)
                            have HN : As (¬ Valid g list) := ⟨fun hc => t2 (HS.o.1 (HTK.o hc.2.2.2.2.2.2.2)).2.1.2.1⟩
                            clear LS HS HT hx
                            go_wp2_with (first | (at_lookup; refine wpList_lookup_run rfl _ _ 104 true rfl (.map (some wo.heap.size)) (.int .i64 z.dev) _ rfl rfl (LKN.o _ (by (repeat (first | rfl | (refine (Below.heap_alloc _ _ _ (by (first | omega | (simp; done) | (simp; omega)))).trans ?_) | (refine (Below.heap_setCell _ _ _ _ (by (first | omega | (simp; done) | (simp; omega)))).trans ?_) | (refine (heap_drew _ _).trans ?_) | (refine (heap_setBlock_far _ _ _ _ (by (first | omega | (simp; done) | (simp; omega)))).trans ?_))))) ?_))
                            go_ret
                            exact ⟨by rw [checkOf_no HN.o]; rfl, bthen HBW.o (bthen HB.o (((Below.refl wr.heap.size wr).alloc (Nat.le_refl _) _).alloc (by simp) _) (Nat.le_refl _)) (Nat.le_refl _)⟩
                        · have ht1 : decide (z.dev < 0) = true := decide_eq_true (by omega)
                          have HN : As (¬ Valid g list) := ⟨fun hc => t1 (HS.o.1 (HTK.o hc.2.2.2.2.2.2.2)).2.1.1⟩
                          clear LS HS HT hx
                          go_wp2_with (first | (at_lookup; refine wpList_lookup_run rfl _ _ 104 true rfl (.map (some wo.heap.size)) (.int .i64 z.dev) _ rfl rfl (LKN.o _ (by (repeat (first | rfl | (refine (Below.heap_alloc _ _ _ (by (first | omega | (simp; done) | (simp; omega)))).trans ?_) | (refine (Below.heap_setCell _ _ _ _ (by (first | omega | (simp; done) | (simp; omega)))).trans ?_) | (refine (heap_drew _ _).trans ?_) | (refine (heap_setBlock_far _ _ _ _ (by (first | omega | (simp; done) | (simp; omega)))).trans ?_))))) ?_))
                          go_ret
                          exact ⟨by rw [checkOf_no HN.o]; rfl, bthen HBW.o (bthen HB.o (((Below.refl wr.heap.size wr).alloc (Nat.le_refl _) _).alloc (by simp) _) (Nat.le_refl _)) (Nat.le_refl _)⟩
                    · have HV : As (Valid g list) := ⟨⟨v1, v2, v3, V4.o, V5.o, by rw [HL.o]; exact v6, HNN.o, by
                        have := hnm.o
                        rwa [List.take_of_length_le (by rw [HL.o]; omega)] at this⟩⟩
                      go_wp2
                      go_ret
                      exact ⟨by rw [checkOf_yes HV.o]; rfl, bthen HBW.o hb (Nat.le_refl _)⟩
            · have hd6 : decide ((12 : Int) < (n : Int)) = true := decide_eq_true (by omega)
              have HN : As (¬ Valid g list) := ⟨fun hc => v6 (by rw [← HL.o]; exact hc.2.2.2.2.2.1)⟩
              go_wp2_with (first | (go_at_call 58; refine (PC.o _ (Below.refl _ _)).mono ?_; rintro e w1 ⟨rfl, hb1⟩; have cx0 := (hb1.cell (p := ⟨w.heap.size, 0, none⟩) hlw).trans bx0; have cx4 := (hb1.cell (p := ⟨w.heap.size, 4, none⟩) hlw).trans bx4; have hlw1 := Nat.lt_of_lt_of_le hlw hb1.size) | (go_at_call 59; refine (SC.o _ hb1).mono ?_; rintro e w2 ⟨rfl, hb2⟩; have dx0 := (hb2.cell (p := ⟨w.heap.size, 0, none⟩) hlw1).trans cx0; have hlw2 := Nat.lt_of_lt_of_le hlw1 hb2.size))
              go_ret
              exact ⟨by rw [checkOf_no HN.o]; rfl, bthen (bthen HB0.o hb1 (Nat.le_refl _)) hb2 (Nat.le_refl _)⟩
          · skip
            have SC : As (∀ W, Below w0.heap.size w0 W → Calls Try.prog 59 #[.slice A3 g.shares.length c3] W fun e w' => e = .returned (.bool false) ∧ Below W.heap.size W w') := ⟨fun W hW => (ascending_any _ _ _ ok _ _ (((HG.o.below HB0.o).below hW).s)).mono fun e w' ⟨h1, h2⟩ => ⟨by rw [h1, decide_eq_false v5], h2⟩⟩
            have HN : As (¬ Valid g list) := ⟨fun hc => v5 hc.2.2.2.2.1⟩
            go_wp2_with (first | (go_at_call 58; refine (PC.o _ (Below.refl _ _)).mono ?_; rintro e w1 ⟨rfl, hb1⟩; have cx0 := (hb1.cell (p := ⟨w.heap.size, 0, none⟩) hlw).trans bx0; have cx4 := (hb1.cell (p := ⟨w.heap.size, 4, none⟩) hlw).trans bx4; have hlw1 := Nat.lt_of_lt_of_le hlw hb1.size) | (go_at_call 59; refine (SC.o _ hb1).mono ?_; rintro e w2 ⟨rfl, hb2⟩; have dx0 := (hb2.cell (p := ⟨w.heap.size, 0, none⟩) hlw1).trans cx0; have hlw2 := Nat.lt_of_lt_of_le hlw1 hb2.size))
            go_ret
            exact ⟨by rw [checkOf_no HN.o]; rfl, bthen (bthen HB0.o hb1 (Nat.le_refl _)) hb2 (Nat.le_refl _)⟩
        · skip
          have PC : As (∀ W, Below w0.heap.size w0 W → Calls Try.prog 58 #[.slice A2 g.pieces.length c2] W fun e w' => e = .returned (.bool false) ∧ Below W.heap.size W w') := ⟨fun W hW => (distinct_any _ _ _ ok _ _ (((HG.o.below HB0.o).below hW).p)).mono fun e w' ⟨h1, h2⟩ => ⟨by rw [h1, decide_eq_false v4], h2⟩⟩
          have HN : As (¬ Valid g list) := ⟨fun hc => v4 hc.2.2.2.1⟩
          go_wp2_with ((go_at_call 58; refine (PC.o _ (Below.refl _ _)).mono ?_; rintro e w1 ⟨rfl, hb1⟩; have cx0 := (hb1.cell (p := ⟨w.heap.size, 0, none⟩) hlw).trans bx0; have cx4 := (hb1.cell (p := ⟨w.heap.size, 4, none⟩) hlw).trans bx4; have hlw1 := Nat.lt_of_lt_of_le hlw hb1.size))
          go_ret
          exact ⟨by rw [checkOf_no HN.o]; rfl, bthen HB0.o hb1 (Nat.le_refl _)⟩
      · have hd3 : decide (255 < g.thr) = true := decide_eq_true (by omega)
        have HN : As (¬ Valid g list) := ⟨fun hc => v3 hc.2.2.1⟩
        go_wp2
        go_ret
        exact ⟨by rw [checkOf_no HN.o]; rfl, HB0.o⟩
    · have hd2 : decide (g.thr < 0) = true := decide_eq_true (by omega)
      have HN : As (¬ Valid g list) := ⟨fun hc => v2 hc.2.1⟩
      go_wp2
      go_ret
      exact ⟨by rw [checkOf_no HN.o]; rfl, HB0.o⟩
  · have hd1 : decide ((64 : Int) < (g.needs.length : Int)) = true := decide_eq_true (by omega)
    have HN : As (¬ Valid g list) := ⟨fun hc => v1 hc.1⟩
    go_wp2
    go_ret
    exact ⟨by rw [checkOf_no HN.o]; rfl, HB0.o⟩
end Go.Proofs.Ytlinhckgdfhppaa
namespace Go.Proofs.Ytlinhckgdfhppaa
open Go Go.RowKit Go.Proofs.YtlinhckgdfhppaaK
open Go.ChangeMaps (setBlock)
attribute [local go_sem high] eq_piece

/-- A share added to the words of a set. -/
def addW (f : Nat → BitVec 64) (x : Int) : Nat → BitVec 64 := fun j => if j = (x / 64).toNat then f j ||| BitVec.twoPow 64 (x % 64).toNat else f j
def addWs (f : Nat → BitVec 64) (xs : List Int) : Nat → BitVec 64 := xs.foldl addW f
theorem addWs_snoc (f : Nat → BitVec 64) (xs : List Int) (k : Nat) (h : k < xs.length) : addWs f (xs.take (k + 1)) = addW (addWs f (xs.take k)) (ig xs k) := by
  unfold addWs
  rw [List.take_succ_eq_append_getElem h, List.foldl_append]
  simp [ig, List.getD_eq_getElem?_getD, List.getElem?_eq_getElem h]
theorem wrap_u64 (a : BitVec 64) : IntKind.u64.wrap (a.toNat : Int) = (a.toNat : Int) := by
  have := a.isLt
  simp [IntKind.wrap, IntKind.bits, IntKind.signed]
  omega
theorem wrap_u16 (a : BitVec 16) : IntKind.u16.wrap (a.toNat : Int) = (a.toNat : Int) := by
  have := a.isLt
  simp [IntKind.wrap, IntKind.bits, IntKind.signed]
  omega
theorem or_u64 (a b : BitVec 64) : bits .or .u64 (a.toNat : Int) (b.toNat : Int) = ((a ||| b).toNat : Int) := by
  unfold bits
  simp only [IntKind.bits, BitVec.ofInt_natCast, BitVec.ofNat_toNat]
  exact (wrap_u64 _)
theorem or_u16 (a b : BitVec 16) : bits .or .u16 (a.toNat : Int) (b.toNat : Int) = ((a ||| b).toNat : Int) := by
  unfold bits
  simp only [IntKind.bits, BitVec.ofInt_natCast, BitVec.ofNat_toNat]
  exact (wrap_u16 _)
theorem shl_u64 (y : Int) (h0 : 0 ≤ y) (h : y < 64) : IntKind.u64.wrap (2 ^ y.toNat) = ((BitVec.twoPow 64 y.toNat).toNat : Int) := by
  have hy : y.toNat < 64 := by omega
  have e : ((BitVec.twoPow 64 y.toNat).toNat : Int) = 2 ^ y.toNat := by
    rw [BitVec.toNat_twoPow, Nat.mod_eq_of_lt (Nat.pow_lt_pow_right (by omega) hy)]
    simp
  rw [← e, wrap_u64]
theorem shl_u16 (y : Int) (h0 : 0 ≤ y) (h : y < 16) : IntKind.u16.wrap (2 ^ y.toNat) = ((BitVec.twoPow 16 y.toNat).toNat : Int) := by
  have hy : y.toNat < 16 := by omega
  have e : ((BitVec.twoPow 16 y.toNat).toNat : Int) = 2 ^ y.toNat := by
    rw [BitVec.toNat_twoPow, Nat.mod_eq_of_lt (Nat.pow_lt_pow_right (by omega) hy)]
    simp
  rw [← e, wrap_u16]

/-- Four words of a set of shares, in a block's cells. -/
structure WordsAt (cs : Array Value) (o : Nat) (f : Nat → BitVec 64) : Prop where
  at_ : ∀ i, i < 4 → cs[o + i]? = some (.int .u64 ((f i).toNat : Int))
/-- Cells alike but for the four words. -/
structure WordsOnly (cs cs' : Array Value) (o : Nat) : Prop where
  size : cs'.size = cs.size
  far : ∀ j, j < o ∨ o + 4 ≤ j → cs'[j]? = cs[j]?
theorem WordsAt.add {cs : Array Value} {o : Nat} {f : Nat → BitVec 64} (h : WordsAt cs o f) (x : Int) (hx : (x / 64).toNat < 4) :
    WordsAt (cs.setIfInBounds (o + (x / 64).toNat) (.int .u64 ((f (x / 64).toNat ||| BitVec.twoPow 64 (x % 64).toNat).toNat : Int))) o (addW f x) := ⟨fun i hi => by
  have hlt : o + i < cs.size := (Array.getElem?_eq_some_iff.1 (h.at_ i hi)).1
  rw [Array.getElem?_setIfInBounds]
  by_cases e : i = (x / 64).toNat
  · subst e
    rw [if_pos rfl, if_pos hlt]
    simp [addW]
  · rw [if_neg (by omega), h.at_ i hi]
    simp [addW, e]⟩
theorem WordsOnly.add {cs cs' : Array Value} {o : Nat} (h : WordsOnly cs cs' o) (j : Nat) (hj : j < 4) (u : Value) : WordsOnly cs (cs'.setIfInBounds (o + j) u) o :=
  ⟨by simp [h.size], fun i hi => by rw [Array.getElem?_setIfInBounds_ne (by omega)]; exact h.far i hi⟩

set_option maxRecDepth 100000 in
set_option maxHeartbeats 1000000 in
theorem add_any (b o : Nat) (cs : Array Value) (t : TypeId) (A : Option Addr) (n c : Nat) (xs : List Int) (f : Nat → BitVec 64) (w : World) (hb : w.heap[b]? = some (.cells cs t (0, 0))) (hw : WordsAt cs o f)
    (h : Row (Kn.int .i64) w (fun k => k ≠ b) A n xs) (hx : ∀ x ∈ xs, 1 ≤ x ∧ x ≤ 255) :
    Calls Try.prog 86 #[.pointer (some ⟨b, o, none⟩), .slice A n c] w fun e w' => e = .returned (.tuple #[]) ∧ w.grownBy w' (some b) ∧ ∃ cs', w'.heap[b]? = some (.cells cs' t (0, 0)) ∧ WordsAt cs' o (addWs f xs) ∧ WordsOnly cs cs' o := by
  have hm := h.2.1
  have HL := As.mk h.1
  have HR := As.mk h
  have HXS := As.mk hx
  clear h hx
  go_enter Try.func86, Try.ntmps86
  go_wp2
  go_loopw [8] (fun i' wr => ∃ k : Nat, k ≤ n ∧ i' = .int .i64 k ∧ As (w.grownBy wr (some b)) ∧ ∃ cs', As (wr.heap[b]? = some (.cells cs' t (0, 0))) ∧ As (WordsAt cs' o (addWs f (xs.take k))) ∧ As (WordsOnly cs cs' o)) (fun i' _ => n - (intOf i').toNat)
  case atStart => exact ⟨0, Nat.zero_le _, rfl, ⟨⟨rfl, rfl, rfl, Nat.le_refl _, fun _ _ _ => rfl⟩⟩, cs, ⟨hb⟩, ⟨hw⟩, ⟨rfl, fun _ _ => rfl⟩⟩
  case round =>
    obtain ⟨k, hk, rfl, HG, cs', HB, HW, HO⟩ := hrel
    by_cases hlt : k < n
    · have hkl : k < xs.length := by rw [HL.o]; exact hlt
      obtain ⟨ad, rfl, hne, hlt', p0⟩ := (HR.o.step (fun j hj hjl => HG.o.block j hjl (by simpa using hj))).int_at k hlt
      have HS := As.mk (addWs_snoc f xs k hkl)
      have hxk := HXS.o (ig xs k) (by unfold ig; rw [List.getD_eq_getElem?_getD, List.getElem?_eq_getElem hkl]; exact List.getElem_mem hkl)
      generalize ig xs k = x at *
      generalize hF : addWs f (xs.take k) = F at *
      obtain ⟨j, hj⟩ : ∃ j : Nat, j = (x / 64).toNat := ⟨_, rfl⟩
      obtain ⟨r, hr⟩ : ∃ r : Nat, r = (x % 64).toNat := ⟨_, rfl⟩
      have hj4 : j < 4 := by omega
      have hr64 : r < 64 := by omega
      have q1 : x.tdiv 64 = (j : Int) := by rw [Int.tdiv_eq_ediv_of_nonneg (by omega)]; omega
      have q2 : x / 64 = (j : Int) := by omega
      have r1 : x.tmod 64 = (r : Int) := by rw [Int.tmod_eq_emod_of_nonneg (by omega)]; omega
      have r2 : x % 64 = (r : Int) := by omega
      have hj0 : (0 : Int) ≤ (j : Int) := by omega
      have hji : (j : Int) < 4 := by omega
      have hji' : (j : Int) < ((4 : Nat) : Int) := by omega
      have hao : (⟨b, o, none⟩ : Addr).add j = ⟨b, o + j, none⟩ := by unfold Addr.add; split <;> simp_all
      have hwj : IntKind.i64.wrap (j : Int) = (j : Int) := IntWalk.i64_in _ (by omega)
      have hwrr : IntKind.i64.wrap (r : Int) = (r : Int) := IntWalk.i64_in _ (by omega)
      have hr0 : (0 : Int) ≤ (r : Int) := by omega
      have hr6 : (r : Int) ≤ 64 := by omega
      have cj : wr.cell? ⟨b, o + j, none⟩ = some (.int .u64 ((F j).toNat : Int)) := (cell_of_row _ _ _ _ _ _ HB.o).trans (HW.o.at_ j hj4)
      have fj : ∀ i, wr.frozen? ⟨b, i, none⟩ = false := fun i => blk_frozen HB.o
      have sh : IntKind.u64.wrap (2 ^ r) = ((BitVec.twoPow 64 r).toNat : Int) := by have := shl_u64 (r : Int) (by omega) (by omega); simpa using this
      have hor := or_u64 (F j) (BitVec.twoPow 64 r)
      have hwr := wrap_u64 (BitVec.twoPow 64 r)
      have HADD := HW.o.add x (by omega)
      rw [← hj, ← hr] at HADD
      have HA := As.mk HADD
      clear HADD hj hr hF
      generalize BitVec.twoPow 64 r = T at *
      go_wp2
      go_still_tail 12, (by kernel_rfl)
      change wpList _ _ _ _ _ wr.drew
      go_wp2
      go_roundw
      case rel => 
        rw [BitVec.toNat_or] at HA
        refine ⟨k + 1, by omega, by go_num, ⟨?_⟩, cs'.setIfInBounds (o + j) (.int .u64 (((F j).toNat ||| T.toNat : Nat) : Int)), ⟨?_⟩, ⟨?_⟩, ⟨HO.o.add j hj4 _⟩⟩
        · exact ⟨HG.o.os, HG.o.tape, HG.o.output, by simp [World.setCell]; exact HG.o.size, fun i hi hne' => (blk_far (fun e => hne' (by rw [e])) _).trans (HG.o.block i hi hne')⟩
        · exact blk_set HB.o _
        · rw [HS.o]; exact HA.o
      case measure => simp [intOf]; omega
    · have e : k = n := by omega
      subst e
      rw [List.take_of_length_le (by rw [HL.o]; exact Nat.le_refl _)] at HW
      go_wp2
      go_end0
      exact ⟨rfl, HG.o, _, HB.o, HW.o, HO.o⟩
end Go.Proofs.Ytlinhckgdfhppaa
namespace Go.Proofs.Ytlinhckgdfhppaa
open Go Go.RowKit Go.Proofs.YtlinhckgdfhppaaK

theorem and_u64 (a m : Nat) (ha : a < 18446744073709551616) : bits .and .u64 (a : Int) (m : Int) = ((a &&& m : Nat) : Int) := by
  have h1 : (BitVec.ofNat 64 a &&& BitVec.ofNat 64 m).toNat = a &&& m := by
    rw [BitVec.toNat_and, BitVec.toNat_ofNat, BitVec.toNat_ofNat, Nat.mod_eq_of_lt ha, ← Nat.and_two_pow_sub_one_eq_mod m 64, ← Nat.and_assoc, Nat.and_comm, ← Nat.and_assoc, Nat.and_comm _ a, Nat.and_two_pow_sub_one_eq_mod, Nat.mod_eq_of_lt ha]
  show IntKind.u64.wrap ((BitVec.ofInt 64 (a : Int) &&& BitVec.ofInt 64 (m : Int)).toNat : Int) = _
  rw [BitVec.ofInt_natCast, BitVec.ofInt_natCast, h1]
  have h2 : a &&& m < 18446744073709551616 := Nat.lt_of_le_of_lt Nat.and_le_left ha
  simp [IntKind.wrap, IntKind.bits, IntKind.signed]
  omega
theorem wrap64 (a : Nat) (h : a < 18446744073709551616) : IntKind.u64.wrap (a : Int) = (a : Int) := by
  simp [IntKind.wrap, IntKind.bits, IntKind.signed]
  omega
theorem sw1 (x : Nat) (hx : x < 18446744073709551616) (h : st1 x < 18446744073709551616) : IntKind.u64.wrap (bits .and .u64 ((x : Int) / 2) 6148914691236517205 + bits .and .u64 (x : Int) 6148914691236517205) = ((st1 x : Nat) : Int) := by
  have e1 : bits .and .u64 ((x : Int) / 2) 6148914691236517205 = ((x / 2 &&& 6148914691236517205 : Nat) : Int) := and_u64 (x / 2) 6148914691236517205 (by omega)
  have e2 : bits .and .u64 (x : Int) 6148914691236517205 = ((x &&& 6148914691236517205 : Nat) : Int) := and_u64 x 6148914691236517205 hx
  rw [e1, e2]
  exact wrap64 (st1 x) h
theorem sw2 (x : Nat) (hx : x < 18446744073709551616) (h : st2 x < 18446744073709551616) : IntKind.u64.wrap (bits .and .u64 ((x : Int) / 4) 3689348814741910323 + bits .and .u64 (x : Int) 3689348814741910323) = ((st2 x : Nat) : Int) := by
  have e1 : bits .and .u64 ((x : Int) / 4) 3689348814741910323 = ((x / 4 &&& 3689348814741910323 : Nat) : Int) := and_u64 (x / 4) 3689348814741910323 (by omega)
  have e2 : bits .and .u64 (x : Int) 3689348814741910323 = ((x &&& 3689348814741910323 : Nat) : Int) := and_u64 x 3689348814741910323 hx
  rw [e1, e2]
  exact wrap64 (st2 x) h
theorem sw3 (x : Nat) (h : x / 16 + x < 18446744073709551616) : bits .and .u64 (IntKind.u64.wrap ((x : Int) / 16 + (x : Int))) 1085102592571150095 = ((st3 x : Nat) : Int) := by
  have e1 : IntKind.u64.wrap ((x : Int) / 16 + (x : Int)) = ((x / 16 + x : Nat) : Int) := wrap64 (x / 16 + x) h
  rw [e1]
  exact and_u64 (x / 16 + x) 1085102592571150095 h
theorem sw4 (x : Nat) (h : st4 x < 18446744073709551616) : IntKind.u64.wrap ((x : Int) + (x : Int) / 256) = ((st4 x : Nat) : Int) := wrap64 (st4 x) h
theorem sw5 (x : Nat) (h : st5 x < 18446744073709551616) : IntKind.u64.wrap ((x : Int) + (x : Int) / 65536) = ((st5 x : Nat) : Int) := wrap64 (st5 x) h
theorem sw6 (x : Nat) (h : st6 x < 18446744073709551616) : IntKind.u64.wrap ((x : Int) + (x : Int) / 4294967296) = ((st6 x : Nat) : Int) := wrap64 (st6 x) h
theorem sw7 (x : Nat) (h : x < 9223372036854775808) : IntKind.i64.wrap (x : Int) = (x : Int) ∧ bits .and .i64 (x : Int) 127 = ((x &&& 127 : Nat) : Int) := by
  refine ⟨IntWalk.i64_in _ (by omega), ?_⟩
  have h1 : (BitVec.ofNat 64 x &&& BitVec.ofNat 64 127).toNat = x &&& 127 := by
    rw [BitVec.toNat_and, BitVec.toNat_ofNat, BitVec.toNat_ofNat, Nat.mod_eq_of_lt (by omega), Nat.mod_eq_of_lt (by omega)]
  show IntKind.i64.wrap ((BitVec.ofInt 64 (x : Int) &&& BitVec.ofInt 64 ((127 : Nat) : Int)).toNat : Int) = _
  rw [BitVec.ofInt_natCast, BitVec.ofInt_natCast, h1]
  have h2 : x &&& 127 ≤ 127 := Nat.and_le_right
  exact IntWalk.i64_in _ (by omega)
set_option maxRecDepth 100000 in
set_option maxHeartbeats 1000000 in
theorem ones64_any (x : Nat) (hx : x < 18446744073709551616) (w : World) : Calls Try.prog 77 #[.int .u64 (x : Int)] w fun e w' => e = .returned (.int .i64 (cntB x.testBit 64 : Nat)) ∧ w = w' := by
  obtain ⟨p0, p1, p2, p3, p4, p5, p6⟩ := popcount x hx
  have P0 := As.mk p0
  have e1 := sw1 x hx p1
  generalize st1 x = x1 at *
  have e2 := sw2 x1 p1 p2
  generalize st2 x1 = x2 at *
  have e3 := sw3 x2 p3
  generalize st3 x2 = x3 at *
  have e4 := sw4 x3 p4
  generalize st4 x3 = x4 at *
  have e5 := sw5 x4 p5
  generalize st5 x4 = x5 at *
  have e6 := sw6 x5 (by omega)
  generalize st6 x5 = x6 at *
  obtain ⟨e7, e8⟩ := sw7 x6 p6
  generalize x6 &&& 127 = r at *
  clear p0 p1 p2 p3 p4 p5 p6
  have := P0.o
  subst this
  clear P0
  go_enter Try.func77, Try.ntmps77
  go_wp2
  go_ret
  exact ⟨rfl, rfl⟩
end Go.Proofs.Ytlinhckgdfhppaa
namespace Go.Proofs.Ytlinhckgdfhppaa
open Go Go.RowKit Go.Proofs.YtlinhckgdfhppaaK
theorem cnt16 (x : Nat) (hx : x < 65536) : cntB (x / 256).testBit 8 + cntB (x % 256).testBit 8 = cntB x.testBit 16 := by
  have h := cnt_val [x % 256, x / 256] (by
    intro b hb
    simp only [List.mem_cons, List.not_mem_nil, or_false] at hb
    omega)
  have e : val [x % 256, x / 256] = x := by
    simp only [val]
    omega
  rw [e] at h
  have h' : cntB x.testBit 16 = cntB (x % 256).testBit 8 + (cntB (x / 256).testBit 8 + 0) := h
  omega
theorem and255 (x : Nat) (hx : x < 65536) : bits .and .u16 (x : Int) 255 = ((x % 256 : Nat) : Int) := by
  have h1 : (BitVec.ofNat 16 x &&& BitVec.ofNat 16 255).toNat = x % 256 := by
    rw [BitVec.toNat_and, BitVec.toNat_ofNat, BitVec.toNat_ofNat, Nat.mod_eq_of_lt (by omega), Nat.mod_eq_of_lt (by omega)]
    exact Nat.and_two_pow_sub_one_eq_mod x 8
  show IntKind.u16.wrap ((BitVec.ofInt 16 (x : Int) &&& BitVec.ofInt 16 ((255 : Nat) : Int)).toNat : Int) = _
  rw [BitVec.ofInt_natCast, BitVec.ofInt_natCast, h1]
  simp [IntKind.wrap, IntKind.bits, IntKind.signed]
  omega
theorem run_table (T : ByteArray) (hT : T.size = 256 ∧ ∀ i, (h : i < T.size) → (T[i]'h).toNat = cntB i.testBit 8) (k : IntKind) (i : Nat) (hi : i < 256) (W : World) :
    (Instr.index 9 (.string T) (.int k (i : Int))).run Try.prog W = .ok (.int .u8 ((cntB i.testBit 8 : Nat) : Int)) W := by
  have hh : 0 ≤ (i : Int) ∧ (i : Int) < T.size := by rw [hT.1]; omega
  rw [run_index_string W 9 T k (i : Int) Try.underlying9 , dif_pos hh]
  have := hT.2 i (by rw [hT.1]; exact hi)
  simp only [Int.toNat_natCast, this]
set_option maxRecDepth 100000 in
set_option maxHeartbeats 1000000 in
theorem ones16_any (x : Nat) (hx : x < 65536) (w : World) : Calls Try.prog 46 #[.int .u16 (x : Int)] w fun e w' => e = .returned (.int .i64 (cntB x.testBit 16 : Nat)) ∧ ∃ q, w' = w.drewN q := by
  have h1 : (x : Int) / 256 = ((x / 256 : Nat) : Int) := by omega
  have h2 := and255 x hx
  have k1 := cntB_le (x / 256).testBit 8
  have k2 := cntB_le (x % 256).testBit 8
  have HC := As.mk (cnt16 x hx)
  go_enter Try.func46, Try.ntmps46
  generalize hT : ByteArray.mk _ = T
  have HT : As (T.size = 256 ∧ ∀ i, (h : i < T.size) → (T[i]'h).toNat = cntB i.testBit 8) := ⟨by
    subst hT
    decide +kernel⟩
  clear hT
  have R1 := fun W => run_table T HT.o .u16 (x / 256) (by omega) W
  have R2 := fun W => run_table T HT.o .u16 (x % 256) (by omega) W
  generalize cntB (x / 256).testBit 8 = a at *
  generalize cntB (x % 256).testBit 8 = b at *
  have e1 : IntKind.u8.wrap ((a : Int) + (b : Int)) = ((a + b : Nat) : Int) := by
    simp [IntKind.wrap, IntKind.bits, IntKind.signed]
    omega
  have e2 : IntKind.i64.wrap ((a + b : Nat) : Int) = ((a + b : Nat) : Int) := IntWalk.i64_in _ (by omega)
  rw [← HC.o]
  clear HC HT hx
  generalize a + b = c at *
  generalize x / 256 = d at *
  generalize x % 256 = m at *
  go_wp2
  go_quiet (fail)
  go_wp2
  go_ret
  exact ⟨rfl, _, rfl⟩
end Go.Proofs.Ytlinhckgdfhppaa
