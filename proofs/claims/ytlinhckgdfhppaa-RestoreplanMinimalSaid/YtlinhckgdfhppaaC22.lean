/- A part of the proof: what the functions do, and plain laws. -/
import Derived.Test.YtlinhckgdfhppaaC21
namespace Go.Proofs.Ytlinhckgdfhppaa
open Go Go.RowKit Go.Proofs.YtlinhckgdfhppaaK
open Go.ChangeMaps (setBlock)

abbrev mval (m : BitVec 16) : Value := .int .u16 (m.toNat : Int)
abbrev eIdx (i : Nat) : Value := .int .i64 (i : Int)
/-- A piece added to the masks. -/
def giveP (nf : ByteArray → Option Nat) (ms : List (BitVec 16)) (p : Piece) : List (BitVec 16) :=
  match nf p.1 with
  | none => ms
  | some i => ms.set i (maskAt ms i ||| BitVec.twoPow 16 p.2.toNat)
def giveM (nf : ByteArray → Option Nat) (ms : List (BitVec 16)) (ps : List Piece) : List (BitVec 16) := ps.foldl (giveP nf) ms
theorem giveP_len (nf : ByteArray → Option Nat) (ms : List (BitVec 16)) (p : Piece) : (giveP nf ms p).length = ms.length := by
  unfold giveP
  split <;> simp
theorem giveM_len (nf : ByteArray → Option Nat) (ps : List Piece) : ∀ ms, (giveM nf ms ps).length = ms.length := by
  induction ps with
  | nil => exact fun _ => rfl
  | cons p ps ih => exact fun ms => (ih _).trans (giveP_len nf ms p)
theorem giveM_snoc (nf : ByteArray → Option Nat) (ms : List (BitVec 16)) (ps : List Piece) (k : Nat) (h : k < ps.length) : giveM nf ms (ps.take (k + 1)) = giveP nf (giveM nf ms (ps.take k)) (pg ps k) := by
  unfold giveM
  rw [List.take_succ_eq_append_getElem h, List.foldl_append, ← pg_eq ps k h]
  rfl
theorem giveP_none {nf : ByteArray → Option Nat} {ms : List (BitVec 16)} {p : Piece} (h : nf p.1 = none) : giveP nf ms p = ms := by simp [giveP, h]
theorem giveP_some {nf : ByteArray → Option Nat} {ms : List (BitVec 16)} {p : Piece} {i : Nat} (h : nf p.1 = some i) : giveP nf ms p = ms.set i (maskAt ms i ||| BitVec.twoPow 16 p.2.toNat) := by simp [giveP, h]
theorem zero_int (w : World) : (zeroValue 3).run Try.prog w = .ok (.int .i64 0) w := by go_simp

set_option maxRecDepth 100000 in
set_option maxHeartbeats 1000000 in
theorem give_any (pb mb sb so base : Nat) (cs : Array Value) (t : TypeId) (B : Option Addr) (n c : Nat) (ms : List (BitVec 16)) (f : Nat → BitVec 64) (ix : Bool) (nf : ByteArray → Option Nat) (h : Hold) (P : Option Addr) (cp : Nat) (S : Option Addr) (cS : Nat) (w : World)
    (h6 : w.cell? ⟨pb, 6, none⟩ = some (.map (some mb))) (hmap : MapAt w mb Value.string eIdx nf) (hnf : ∀ s i, nf s = some i → i < n)
    (hs : w.heap[sb]? = some (.cells cs t (0, 0))) (hs0 : cs[so]? = some (.slice B n c)) (hsw : WordsAt cs (so + 1) f) (hsi : cs[so + 5]? = some (.bool ix))
    (hown : w.ownsRow base 110 1 (.slice B n c) n (ms.map mval)) (hml : ms.length = n) (hg : ∀ g, (Value.slice B n c).ownBlock = some g → g ≠ sb ∧ g ≠ pb ∧ g ≠ mb)
    (hP : Row kPiece w (fun k => (Value.slice B n c).ownBlock ≠ some k) P h.pieces.length h.pieces) (hp : ∀ p ∈ h.pieces, 0 ≤ p.2 ∧ p.2 < 16)
    (hS : Row (Kn.int .i64) w (fun k => (Value.slice B n c).ownBlock ≠ some k ∧ k ≠ sb) S h.shares.length h.shares) (hx : ∀ x ∈ h.shares, 1 ≤ x ∧ x ≤ 255) :
    Calls Try.prog 73 #[.pointer (some ⟨pb, 0, none⟩), .pointer (some ⟨sb, so, none⟩), .agg #[.int .i64 h.dev, .slice P h.pieces.length cp, .slice S h.shares.length cS, .bool h.index]] w fun e w' =>
      e = .returned (.tuple #[]) ∧ w'.ownsRow base 110 1 (.slice B n c) n ((giveM nf ms h.pieces).map mval) ∧
        (∃ cs', w'.heap[sb]? = some (.cells cs' t (0, 0)) ∧ cs'.size = cs.size ∧ (∀ j, j < so + 1 ∨ so + 6 ≤ j → cs'[j]? = cs[j]?) ∧ WordsAt cs' (so + 1) (addWs f h.shares) ∧ cs'[so + 5]? = some (.bool (ix || h.index))) ∧
        w'.os = w.os ∧ w'.tape = w.tape ∧ w'.output = w.output ∧ w.heap.size ≤ w'.heap.size ∧ ∀ k, k < w.heap.size → k ≠ sb → (Value.slice B n c).ownBlock ≠ some k → w'.heap[k]? = w.heap[k]? := by
  have hm1 := hP.2.1
  have hm2 := hS.2.1
  have hpb := World.block_lt_of_cell? w _ h6
  have hsb := blk_lt hs
  have hmb := hmap.lt
  have HP := As.mk hP
  have HS := As.mk hS
  have HPV := As.mk hp
  have HXV := As.mk hx
  have HG := As.mk hg
  have HNF := As.mk hnf
  obtain ⟨w0, hw0⟩ : ∃ w0 : World, w0 = w.alloc (.cells #[.int .i64 h.dev, .slice P h.pieces.length cp, .slice S h.shares.length cS, .bool h.index] 78) := ⟨_, rfl⟩
  have HB0 : As (Below w.heap.size w w0) := ⟨by rw [hw0]; exact (Below.refl w.heap.size w).alloc (Nat.le_refl _) _⟩
  have HX : As (w0.heap[w.heap.size]? = some (.cells #[.int .i64 h.dev, .slice P h.pieces.length cp, .slice S h.shares.length cS, .bool h.index] 78 (0, 0))) := ⟨by rw [hw0]; exact heap_alloc_new w _⟩
  have hlw := blk_lt HX.o
  have HOWN : As (w0.ownsRow base 110 1 (.slice B n c) n (ms.map mval)) := ⟨by rw [hw0]; exact hown.alloc _⟩
  have hgl := hown.lt
  have HGL := As.mk hgl
  have HW0 := As.mk hw0
  have HMAP : As (MapAt w0 mb Value.string eIdx nf) := ⟨hmap.below HB0.o hmb⟩
  have HSB : As (w0.heap[sb]? = some (.cells cs t (0, 0))) := ⟨(HB0.o.block _ hsb).trans hs⟩
  have H6 : As (w0.cell? ⟨pb, 6, none⟩ = some (.map (some mb))) := ⟨(HB0.o.cell (p := ⟨pb, 6, none⟩) hpb).trans h6⟩
  have x1 : w0.cell? ⟨w.heap.size, 1, none⟩ = some (.slice P h.pieces.length cp) := (cell_of_row _ _ 1 _ _ _ HX.o).trans rfl
  clear hw0 hP hS hp hx hg hnf h6 hmap hown hgl
  go_enter Try.func73, Try.ntmps73
  go_upto_region 1 with (fail)
  rw [← HW0.o]
  go_wp2
  go_loopw [13] (fun i' wr => ∃ k : Nat, k ≤ h.pieces.length ∧ i' = .int .i64 k ∧ As (wr.ownsRow base 110 1 (.slice B n c) n ((giveM nf ms (h.pieces.take k)).map mval)) ∧ As (w0.grownBy wr ((Value.slice B n c).ownBlock))) (fun i' _ => h.pieces.length - (intOf i').toNat)
  case atStart => exact ⟨0, Nat.zero_le _, rfl, HOWN, ⟨⟨rfl, rfl, rfl, Nat.le_refl _, fun _ _ _ => rfl⟩⟩⟩
  case round =>
    obtain ⟨k, hk, rfl, HO, HGR⟩ := hrel
    have hsz := HGR.o.size
    have hw01 : w0.heap.size = w.heap.size + 1 := by rw [HW0.o]; simp
    by_cases hlt : k < h.pieces.length
    · obtain ⟨ad, e1, ho1, hl1, p0, p1⟩ := rowPiece (((HP.o.bound.below HB0.o).step fun j hj hjl => HGR.o.block j hjl (fun e => hj.1 e.symm))) k hlt
      subst e1
      have HSN := As.mk (giveM_snoc nf ms h.pieces k hlt)
      have hpv := HPV.o (pg h.pieces k) (by rw [pg_eq _ _ hlt]; exact List.getElem_mem hlt)
      have hGM : (giveM nf ms (h.pieces.take k)).length = n := (giveM_len nf _ ms).trans hml
      have z6 : wr.cell? ⟨pb, 6, none⟩ = some (.map (some mb)) := (World.cell?_of_block (HGR.o.block pb (by omega) (fun e => (HG.o pb e.symm).2.1 rfl))).trans H6.o
      have hpbr : pb < wr.heap.size := by omega
      have HMR : As (MapAt wr mb Value.string eIdx nf) := ⟨HMAP.o.move (HGR.o.block mb (by omega) (fun e => (HG.o mb e.symm).2.2 rfl))⟩
      have hmr := HMR.o.lt
      generalize giveM nf ms (h.pieces.take k) = mk at *
      generalize pg h.pieces k = y at *
      have LK := As.mk fun q => (HMR.o.move (w' := (wr.alloc (.cells #[.string y.1, .int .i64 y.2] 52)).drewN q) (Below.heap_alloc wr _ mb hmr)).look (string_key Try.underlying9) Try.underlying88 (zero_int _) y.1 true
      cases hnfy : nf y.1 with
      | none =>
        have HSN2 : As (giveM nf ms (h.pieces.take (k + 1)) = mk) := ⟨HSN.o.trans (giveP_none hnfy)⟩
        have LK2 : ∀ q, (Instr.lookup 88 (.map (some mb)) (.string y.1) true).run Try.prog ((wr.alloc (.cells #[.string y.1, .int .i64 y.2] 52)).drewN q) = .ok (.tuple #[.int .i64 0, .bool false]) ((wr.alloc (.cells #[.string y.1, .int .i64 y.2] 52)).drewN q) := fun q => by
          have := LK.o q
          rw [hnfy] at this
          exact this
        clear hnfy LK
        go_wp2
        go_quiet (fail)
        go_wp2
        go_roundw
        case rel =>
          refine ⟨k + 1, by omega, by go_num, ⟨by rw [HSN2.o]; exact HO.o.alloc _⟩, ⟨?_⟩⟩
          exact ⟨HGR.o.os, HGR.o.tape, HGR.o.output, Nat.le_trans HGR.o.size (by simp [World.drewN]), fun j hj hne => (Below.heap_alloc wr _ j (by omega)).trans (HGR.o.block j hj hne)⟩
        case measure => simp [intOf]; omega
      | some i =>
        have HSN2 : As (giveM nf ms (h.pieces.take (k + 1)) = mk.set i (maskAt mk i ||| BitVec.twoPow 16 y.2.toNat)) := ⟨HSN.o.trans (giveP_some hnfy)⟩
        have LK2 : ∀ q, (Instr.lookup 88 (.map (some mb)) (.string y.1) true).run Try.prog ((wr.alloc (.cells #[.string y.1, .int .i64 y.2] 52)).drewN q) = .ok (.tuple #[.int .i64 (i : Int), .bool true]) ((wr.alloc (.cells #[.string y.1, .int .i64 y.2] 52)).drewN q) := fun q => by
          have := LK.o q
          rw [hnfy] at this
          exact this
        have hin := HNF.o _ _ hnfy
        clear hnfy LK
        obtain ⟨g, hBg⟩ : ∃ g, B = some ⟨g, 0, none⟩ := by
          rcases HO.o.2 with ⟨_, hn0⟩ | ⟨g, cap, cur, hv, _⟩
          · omega
          · injection hv with hv
            exact ⟨g, hv⟩
        subst hBg
        have hgs := HG.o g rfl
        have hgr : g < wr.heap.size := (HO.o.lt g rfl).2
        have hsbr : wr.heap[sb]? = some (.cells cs t (0, 0)) := (HGR.o.block sb (by omega) (fun e => hgs.1 (by simpa [Value.ownBlock] using e.symm))).trans HSB.o
        have c0 : wr.cell? ⟨sb, so, none⟩ = some (.slice (some ⟨g, 0, none⟩) n c) := (cell_of_row _ _ _ _ _ _ hsbr).trans hs0
        have HSBR := As.mk hsbr
        have hsbl : sb < wr.heap.size := blk_lt hsbr
        clear hsbr
        have cg : wr.cell? ⟨g, i, none⟩ = some (.int .u16 ((maskAt mk i).toNat : Int)) := (HO.o.cellAt i (by omega)).trans (by
          rw [List.getElem?_map, List.getElem?_eq_getElem (by omega)]
          simp [maskAt, List.getD_eq_getElem?_getD, List.getElem?_eq_getElem (show i < mk.length by omega)])
        have fg : wr.frozen? ⟨g, i, none⟩ = false := HO.o.frozenAt i
        have hal : (⟨g, 0, none⟩ : Addr).add i = ⟨g, i, none⟩ := add_lit0 _ _
        have sh := shl_u16 y.2 hpv.1 hpv.2
        have hwr := wrap_u16 (BitVec.twoPow 16 y.2.toNat)
        have hor := or_u16 (maskAt mk i) (BitVec.twoPow 16 y.2.toNat)
        have hy0 := hpv.1
        have hy1 : y.2 ≤ 16 := by omega
        have hi0 : (0 : Int) ≤ (i : Int) := by omega
        have hi1 : (i : Int) < (n : Int) := by omega
        generalize BitVec.twoPow 16 y.2.toNat = T at *
        generalize maskAt mk i = mi at *
        go_wp2
        go_quiet (fail)
        have HO2 : As (((wr.alloc (.cells #[.string y.1, .int .i64 y.2] 52)).drewN nq).ownsRow base 110 1 (.slice (some ⟨g, 0, none⟩) n c) n (mk.map mval)) := ⟨HO.o.alloc _⟩
        have HG2 : As (w0.grownBy ((wr.alloc (.cells #[.string y.1, .int .i64 y.2] 52)).drewN nq) (some g)) := ⟨⟨HGR.o.os, HGR.o.tape, HGR.o.output, Nat.le_trans HGR.o.size (by simp [World.drewN]), fun j hj hne => (Below.heap_alloc wr _ j (by omega)).trans (HGR.o.block j hj hne)⟩⟩
        have d0 : ((wr.alloc (.cells #[.string y.1, .int .i64 y.2] 52)).drewN nq).cell? ⟨sb, so, none⟩ = some (.slice (some ⟨g, 0, none⟩) n c) := (World.cell?_of_block (w := wr) (Below.heap_alloc wr _ sb hsbl)).trans c0
        have dg : ((wr.alloc (.cells #[.string y.1, .int .i64 y.2] 52)).drewN nq).cell? ⟨g, i, none⟩ = some (.int .u16 (mi.toNat : Int)) := (World.cell?_of_block (w := wr) (Below.heap_alloc wr _ g hgr)).trans cg
        have df : ((wr.alloc (.cells #[.string y.1, .int .i64 y.2] 52)).drewN nq).frozen? ⟨g, i, none⟩ = false := (World.frozen?_of_block (w := wr) (Below.heap_alloc wr _ g hgr)).trans fg
        have dp : ((wr.alloc (.cells #[.string y.1, .int .i64 y.2] 52)).drewN nq).cell? ⟨wr.heap.size, 1, none⟩ = some (.int .i64 y.2) := (cell_of_row (wr.alloc (.cells #[.string y.1, .int .i64 y.2] 52)) wr.heap.size 1 _ _ _ (heap_alloc_new wr _)).trans rfl
        generalize (wr.alloc (.cells #[.string y.1, .int .i64 y.2] 52)).drewN nq = W1 at *
        go_wp2
        refine wp_region_drew_tail 12 (by kernel_rfl) (by kernel_rfl) ?_
        simp only [List.take_succ_cons, List.take_zero, List.drop_succ_cons, List.drop_zero]
        repeat (go_big_quiet_step (fail))
        refine wpQuiet_nil ?_
        rintro _ ⟨q2, rfl⟩
        go_wp2
        go_roundw
        case rel =>
          have HST := HO2.o.stored i (.int .u16 ((mi.toNat ||| T.toNat : Nat) : Int))
          refine ⟨k + 1, by omega, by go_num, ⟨?_⟩, ⟨?_⟩⟩
          · rw [HSN2.o, List.map_set, show mval (mi ||| T) = .int .u16 ((mi.toNat ||| T.toNat : Nat) : Int) by simp [mval, BitVec.toNat_or]]
            exact HST.1
          · exact ⟨HG2.o.os, HG2.o.tape, HG2.o.output, Nat.le_trans HG2.o.size HST.2.size, fun j hj hne => (HST.2.block j (Nat.lt_of_lt_of_le hj HG2.o.size) hne).trans (HG2.o.block j hj hne)⟩
        case measure => simp [intOf]; omega
    · have e : k = h.pieces.length := by omega
      subst e
      rw [List.take_of_length_le (Nat.le_refl _)] at HO
      have hnb : ∀ j, w.heap.size ≤ j → some j ≠ (Value.slice B n c).ownBlock := fun j hj e => by have := (HGL.o j e.symm).2; omega
      have hnsb : some sb ≠ (Value.slice B n c).ownBlock := fun e => (HG.o sb e.symm).1 rfl
      have HSBR : As (wr.heap[sb]? = some (.cells cs t (0, 0))) := ⟨(HGR.o.block sb (by omega) hnsb).trans HSB.o⟩
      have HBOX : As (wr.heap[w.heap.size]? = some (.cells #[.int .i64 h.dev, .slice P h.pieces.length cp, .slice S h.shares.length cS, .bool h.index] 78 (0, 0))) := ⟨(HGR.o.block _ hlw (hnb _ (Nat.le_refl _))).trans HX.o⟩
      have hlwr := blk_lt HBOX.o
      have hsbr := blk_lt HSBR.o
      have y2 : wr.cell? ⟨w.heap.size, 2, none⟩ = some (.slice S h.shares.length cS) := (cell_of_row _ _ 2 _ _ _ HBOX.o).trans rfl
      have HSS := As.mk ((HS.o.bound.below HB0.o).step fun j hj hjl => HGR.o.block j hjl (fun e => hj.1.1 e.symm))
      go_wp2
      refine wp_region_drew_tail 5 (by kernel_rfl) (by kernel_rfl) ?_
      simp only [List.take_succ_cons, List.take_zero, List.drop_succ_cons, List.drop_zero]
      repeat (go_big_quiet_step (fail))
      refine wpQuiet_nil ?_
      rintro _ ⟨q, rfl⟩
      have FIN : As (∀ (w5 : World) (cs5 : Array Value) (r : Bool), (wr.drewN q).grownBy w5 (some sb) → w5.heap[sb]? = some (.cells cs5 t (0, 0)) → WordsAt cs5 (so + 1) (addWs f h.shares) → WordsOnly cs cs5 (so + 1) → ∀ W : World, W = w5.setCell ⟨sb, so + 5, none⟩ (.bool r) → r = (ix || h.index) →
          Ending.returned (.tuple #[]) = .returned (.tuple #[]) ∧ W.ownsRow base 110 1 (.slice B n c) n ((giveM nf ms h.pieces).map mval) ∧
          (∃ cs', W.heap[sb]? = some (.cells cs' t (0, 0)) ∧ cs'.size = cs.size ∧ (∀ j, j < so + 1 ∨ so + 6 ≤ j → cs'[j]? = cs[j]?) ∧ WordsAt cs' (so + 1) (addWs f h.shares) ∧ cs'[so + 5]? = some (.bool (ix || h.index))) ∧
          W.os = w.os ∧ W.tape = w.tape ∧ W.output = w.output ∧ w.heap.size ≤ W.heap.size ∧ ∀ k, k < w.heap.size → k ≠ sb → (Value.slice B n c).ownBlock ≠ some k → W.heap[k]? = w.heap[k]?) := ⟨by
        rintro w5 cs5 r hg5 hb5 hw5 ho5 W rfl hr
        have hgs : w5.grownBy (w5.setCell ⟨sb, so + 5, none⟩ (.bool r)) (some sb) := grownBy_set w5 ⟨sb, so + 5, none⟩ (.bool r)
        have hne : (Value.slice B n c).ownBlock = none ∨ (Value.slice B n c).ownBlock ≠ some sb := .inr fun e => hnsb e.symm
        have h5i : so + 5 < cs5.size := by
          rw [ho5.size]
          exact (Array.getElem?_eq_some_iff.1 hsi).1
        have HOD : (wr.drewN q).ownsRow base 110 1 (.slice B n c) n ((giveM nf ms h.pieces).map mval) := HO.o
        refine ⟨rfl, (HOD.kept hg5 hne).kept hgs hne, ⟨cs5.setIfInBounds (so + 5) (.bool r), blk_set hb5 _, by simp [ho5.size], fun j hj => ?_, ⟨fun j hj => ?_⟩, ?_⟩, ?_, ?_, ?_, ?_, fun k hk h1 h2 => ?_⟩
        · rw [Array.getElem?_setIfInBounds_ne (by omega)]
          exact ho5.far j (by omega)
        · rw [Array.getElem?_setIfInBounds_ne (by omega)]
          exact hw5.at_ j hj
        · rw [Array.getElem?_setIfInBounds_self_of_lt h5i, hr]
        · exact hgs.os.trans (hg5.os.trans (HGR.o.os.trans HB0.o.os))
        · exact hgs.tape.trans (hg5.tape.trans (HGR.o.tape.trans HB0.o.tape))
        · exact hgs.output.trans (hg5.output.trans (HGR.o.output.trans HB0.o.output))
        · exact Nat.le_trans (show w.heap.size ≤ wr.heap.size by omega) (Nat.le_trans hg5.size hgs.size)
        · have hkr : k < (wr.drewN q).heap.size := (by omega : k < wr.heap.size)
          exact (hgs.block k (Nat.lt_of_lt_of_le hkr hg5.size) (fun e => h1 (by injection e))).trans ((hg5.block k hkr (fun e => h1 (by injection e))).trans ((HGR.o.block k (by omega) (fun e => h2 e.symm)).trans (HB0.o.block k hk)))⟩
      cases ix with
      | true =>
        go_wp2_with (go_at_call 86; refine (add_any sb (so + 1) cs t S h.shares.length cS h.shares f (wr.drewN q) HSBR.o hsw (HSS.o.mono fun j hj => hj.1.2) HXV.o).mono ?_; rintro e w5 ⟨rfl, hg5, cs5, hb5, hw5, ho5⟩; have i5 : w5.cell? ⟨sb, so + 5, none⟩ = some (.bool true) := (cell_of_row _ _ _ _ _ _ hb5).trans ((ho5.far _ (.inr (by omega))).trans hsi); have q3 : w5.cell? ⟨w.heap.size, 3, none⟩ = some (.bool h.index) := (World.cell?_of_block (hg5.block w.heap.size hlwr (by simp; omega))).trans ((cell_of_row wr _ 3 _ _ _ HBOX.o).trans rfl); have f5 : w5.frozen? ⟨sb, so + 5, none⟩ = false := blk_frozen hb5)
        go_end0
        exact ⟨rfl, (FIN.o _ _ (true || h.index) hg5 hb5 hw5 ho5 _ rfl rfl).2⟩
      | false =>
        go_wp2_with (go_at_call 86; refine (add_any sb (so + 1) cs t S h.shares.length cS h.shares f (wr.drewN q) HSBR.o hsw (HSS.o.mono fun j hj => hj.1.2) HXV.o).mono ?_; rintro e w5 ⟨rfl, hg5, cs5, hb5, hw5, ho5⟩; have i5 : w5.cell? ⟨sb, so + 5, none⟩ = some (.bool false) := (cell_of_row _ _ _ _ _ _ hb5).trans ((ho5.far _ (.inr (by omega))).trans hsi); have q3 : w5.cell? ⟨w.heap.size, 3, none⟩ = some (.bool h.index) := (World.cell?_of_block (hg5.block w.heap.size hlwr (by simp; omega))).trans ((cell_of_row wr _ 3 _ _ _ HBOX.o).trans rfl); have f5 : w5.frozen? ⟨sb, so + 5, none⟩ = false := blk_frozen hb5)
        go_end0
        exact ⟨rfl, (FIN.o _ _ (false || h.index) hg5 hb5 hw5 ho5 _ rfl rfl).2⟩
end Go.Proofs.Ytlinhckgdfhppaa
