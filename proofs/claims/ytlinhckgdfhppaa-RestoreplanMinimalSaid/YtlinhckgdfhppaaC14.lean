/- A part of the proof: what the functions do, and plain laws. -/
import Derived.Test.YtlinhckgdfhppaaM2
import Derived.Test.YtlinhckgdfhppaaK5
import Derived.WideKeyRuns
namespace Go.Proofs.Ytlinhckgdfhppaa
open Go Go.RowKit Go.Proofs.YtlinhckgdfhppaaK
open Go.ChangeMaps (setBlock)
attribute [local go_sem high] eq_piece

abbrev ePiece (p : Piece) : Value := .agg #[.string p.1, .int .i64 p.2]
abbrev eUnit (_ : Unit) : Value := .agg #[]
theorem piece_eq (w : World) (x y : Piece) : (Op.equal 52 (ePiece x) (ePiece y)).run Try.prog w = .ok (decide (x = y)) w := by
  have e : Op.maxDepth = 9998 + 2 := rfl
  unfold Op.equal
  rw [e, eq_piece]
  congr 1
  exact (Bool.eq_iff_iff.2 ((piece_beq x y).trans decide_eq_true_iff.symm))
theorem piece_key : KeyRun Try.prog 52 ePiece where
  check := fun w em x => by
    have hs : ∀ s, (Instr.checkKey em 9999 9 (.string s)).run Try.prog w = .ok () w := fun s => MapKept.run_checkKey Try.underlying9 (by simp [MapKept.IsKey]) em 9998
    have hi : ∀ i, (Instr.checkKey em 9999 3 (.int .i64 i)).run Try.prog w = .ok () w := fun i => MapKept.run_checkKey Try.underlying3 (by simp [MapKept.IsKey]) em 9998
    unfold Instr.checkKey
    simp only [Sem.run_bind, run_underlying Try.underlying52, Result.andThen]
    have p0 : (part 9 #[.string x.1, .int .i64 x.2] 0).run Try.prog w = .ok (.string x.1) w := by go_simp
    have p1 : (part 3 #[.string x.1, .int .i64 x.2] 1).run Try.prog w = .ok (.int .i64 x.2) w := by go_simp
    simp [hs, hi, p0, p1, Result.andThen]
  find := fun w x es m h => by
    rw [run_findKey_eq w (by kernel_rfl)]
    exact findAsking_hit piece_eq w x es m 0 h
  stays := fun w x => by
    simp [Instr.keyThatStays, Instr.sameBits]

def setF {κ : Type} [DecidableEq κ] (xs : List κ) : κ → Option Unit := fun x => if x ∈ xs then some () else none
theorem setF_yes {κ : Type} [DecidableEq κ] {xs : List κ} {x : κ} (h : x ∈ xs) : setF xs x = some () := if_pos h
theorem setF_no {κ : Type} [DecidableEq κ] {xs : List κ} {x : κ} (h : x ∉ xs) : setF xs x = none := if_neg h
theorem setF_upd {κ : Type} [DecidableEq κ] (xs : List κ) (x : κ) : upd (setF xs) x () = setF (xs ++ [x]) := by
  funext y
  by_cases h : y = x <;> simp [upd, setF, h]
theorem zero_unit (w : World) : (zeroValue 105).run Try.prog w = .ok (.agg #[]) w := by go_simp
set_option maxRecDepth 100000 in
set_option maxHeartbeats 1000000 in
theorem distinct_any (A : Option Addr) (n c : Nat) (ok : Nat → Prop) (xs : List Piece) (w : World) (h : Row kPiece w ok A n xs) :
    Calls Try.prog 58 #[.slice A n c] w fun e w' => e = .returned (.bool (decide (okPieces xs))) ∧ Below w.heap.size w w' := by
  have hm := h.2.1
  have HL := As.mk h.1
  have HR := As.mk h
  clear h
  have hmm := @run_makeMap Try.prog
  go_enter Try.func58, Try.ntmps58
  go_wp2
  go_loopw [11] (fun i' wr => ∃ k : Nat, k ≤ n ∧ i' = .int .i64 k ∧ As (okPieces (xs.take k)) ∧ As (MapAt wr w.heap.size ePiece eUnit (setF (xs.take k))) ∧ (Below w.heap.size w wr)) (fun i' _ => n - (intOf i').toNat)
  case atStart => exact ⟨0, Nat.zero_le _, rfl, ⟨by simp [okPieces]⟩, ⟨MapAt.made w _ _⟩, (Below.refl _ _).alloc (Nat.le_refl _) _⟩
  case round =>
    obtain ⟨k, hk, rfl, hne, HMAP, hb⟩ := hrel
    by_cases hlt : k < n
    · obtain ⟨ad, rfl, _, _, p0, p1⟩ := rowPiece (HR.o.below hb) k hlt
      have HS := As.mk (okPieces_snoc (show k < xs.length by rw [HL.o]; exact hlt))
      have hgg := HMAP.o.lt
      have LK := As.mk fun W hW => (HMAP.o.move (w' := W) hW).look piece_key Try.underlying144 (zero_unit W) (pg xs k) true
      have LS := As.mk fun W hW => (HMAP.o.move (w' := W) hW).store piece_key Try.underlying144 (pg xs k) ()
      generalize hy : pg xs k = y at *
      have HT : As (xs.take (k + 1) = xs.take k ++ [y]) := ⟨by rw [← hy, pg_eq xs k (by rw [HL.o]; exact hlt)]; exact List.take_succ_eq_append_getElem _⟩
      clear hy
      by_cases hx : y ∈ xs.take k
      · have HN : As (¬ okPieces xs) := ⟨fun hc => (HS.o.1 (okPieces_take hc _)).2.2.2 hx⟩
        have LKN : As (∀ W : World, W.heap[w.heap.size]? = wr.heap[w.heap.size]? → (Instr.lookup 144 (.map (some w.heap.size)) (ePiece y) true).run Try.prog W = .ok (.tuple #[.agg #[], .bool true]) W) := ⟨fun W hW => by
          have := LK.o W hW
          rw [setF_yes hx] at this
          exact this⟩
        clear LK LS HS HT
        go_wp2_with (at_lookup; refine wpList_lookup_run rfl _ _ 144 true rfl (.map (some w.heap.size)) (ePiece y) _ rfl rfl (LKN.o _ (by (repeat (first | rfl | (refine (Below.heap_alloc _ _ _ (by (first | omega | (simp; done) | (simp; omega)))).trans ?_) | (refine (Below.heap_setCell _ _ _ _ (by (first | omega | (simp; done) | (simp; omega)))).trans ?_) | (refine (heap_drew _ _).trans ?_) | (refine (heap_setBlock_far _ _ _ _ (by (first | omega | (simp; done) | (simp; omega)))).trans ?_))))) ?_)
        go_ret
        refine ⟨by rw [decide_eq_false HN.o]; rfl, ?_⟩
        first | exact ((hb.alloc (by omega) _).alloc (by simp; omega) _) | exact ((hb.alloc (by omega) _).setCell (by simp; omega) _)
      · have LKN : As (∀ W : World, W.heap[w.heap.size]? = wr.heap[w.heap.size]? → (Instr.lookup 144 (.map (some w.heap.size)) (ePiece y) true).run Try.prog W = .ok (.tuple #[.agg #[], .bool false]) W) := ⟨fun W hW => by
          have := LK.o W hW
          rw [setF_no hx] at this
          exact this⟩
        clear LK
        by_cases h0 : y.2 < 0
        · have d0 : decide (y.2 < 0) = true := decide_eq_true h0
          have HN : As (¬ okPieces xs) := ⟨fun hc => by have := (HS.o.1 (okPieces_take hc _)).2.1; omega⟩
          clear LS HS HT
          go_wp2_with (at_lookup; refine wpList_lookup_run rfl _ _ 144 true rfl (.map (some w.heap.size)) (ePiece y) _ rfl rfl (LKN.o _ (by (repeat (first | rfl | (refine (Below.heap_alloc _ _ _ (by (first | omega | (simp; done) | (simp; omega)))).trans ?_) | (refine (Below.heap_setCell _ _ _ _ (by (first | omega | (simp; done) | (simp; omega)))).trans ?_) | (refine (heap_drew _ _).trans ?_) | (refine (heap_setBlock_far _ _ _ _ (by (first | omega | (simp; done) | (simp; omega)))).trans ?_))))) ?_)
          go_ret
          refine ⟨by rw [decide_eq_false HN.o]; rfl, ?_⟩
          first | exact ((hb.alloc (by omega) _).alloc (by simp; omega) _) | exact ((hb.alloc (by omega) _).setCell (by simp; omega) _)
        · have d0 : decide (y.2 < 0) = false := decide_eq_false h0
          by_cases h1 : 16 ≤ y.2
          · have d1 : decide (16 ≤ y.2) = true := decide_eq_true h1
            have HN : As (¬ okPieces xs) := ⟨fun hc => by have := (HS.o.1 (okPieces_take hc _)).2.2.1; omega⟩
            clear LS HS HT
            go_wp2_with (at_lookup; refine wpList_lookup_run rfl _ _ 144 true rfl (.map (some w.heap.size)) (ePiece y) _ rfl rfl (LKN.o _ (by (repeat (first | rfl | (refine (Below.heap_alloc _ _ _ (by (first | omega | (simp; done) | (simp; omega)))).trans ?_) | (refine (Below.heap_setCell _ _ _ _ (by (first | omega | (simp; done) | (simp; omega)))).trans ?_) | (refine (heap_drew _ _).trans ?_) | (refine (heap_setBlock_far _ _ _ _ (by (first | omega | (simp; done) | (simp; omega)))).trans ?_))))) ?_)
            go_ret
            refine ⟨by rw [decide_eq_false HN.o]; rfl, ?_⟩
            first | exact ((hb.alloc (by omega) _).alloc (by simp; omega) _) | exact ((hb.alloc (by omega) _).setCell (by simp; omega) _)
          · have d1 : decide (16 ≤ y.2) = false := decide_eq_false h1
            have HN : As (okPieces (xs.take (k + 1))) := ⟨HS.o.2 ⟨hne.o, by omega, by omega, hx⟩⟩
            clear HS
            go_wp2_with (first
              | (at_lookup; refine wpList_lookup_run rfl _ _ 144 true rfl (.map (some w.heap.size)) (ePiece y) _ rfl rfl (LKN.o _ (by (repeat (first | rfl | (refine (Below.heap_alloc _ _ _ (by (first | omega | (simp; done) | (simp; omega)))).trans ?_) | (refine (Below.heap_setCell _ _ _ _ (by (first | omega | (simp; done) | (simp; omega)))).trans ?_) | (refine (heap_drew _ _).trans ?_) | (refine (heap_setBlock_far _ _ _ _ (by (first | omega | (simp; done) | (simp; omega)))).trans ?_))))) ?_)
              | (at_mapUpdate; refine wpList_store_map rfl _ _ _ 144 rfl w.heap.size (ePiece y) (eUnit ()) rfl rfl rfl (LS.o _ (by (repeat (first | rfl | (refine (Below.heap_alloc _ _ _ (by (first | omega | (simp; done) | (simp; omega)))).trans ?_) | (refine (Below.heap_setCell _ _ _ _ (by (first | omega | (simp; done) | (simp; omega)))).trans ?_) | (refine (heap_drew _ _).trans ?_) | (refine (heap_setBlock_far _ _ _ _ (by (first | omega | (simp; done) | (simp; omega)))).trans ?_))))) ?_; intro o hmap))
            go_roundw
            case rel =>
              refine ⟨k + 1, by omega, by go_num, HN, ⟨by rw [HT.o, ← setF_upd]; exact hmap⟩, ?_⟩
              refine below_setBlock ?_ (Nat.le_refl _) _
              first | exact ((hb.alloc (by omega) _).alloc (by simp; omega) _) | exact ((hb.alloc (by omega) _).setCell (by simp; omega) _)
            case measure => simp [intOf]; omega
    · have e : k = n := by omega
      subst e
      rw [List.take_of_length_le (by rw [HL.o]; exact Nat.le_refl _)] at hne
      go_wp2
      go_ret
      exact ⟨by rw [decide_eq_true hne.o]; rfl, hb⟩
end Go.Proofs.Ytlinhckgdfhppaa
