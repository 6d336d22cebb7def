/- A part of the proof: what the functions do, and plain laws. -/
import Derived.Test.YtlinhckgdfhppaaC19
import Derived.Test.YtlinhckgdfhppaaK8
namespace Go.Proofs.Ytlinhckgdfhppaa
open Go Go.RowKit Go.Proofs.YtlinhckgdfhppaaK

def kMask : Kn (BitVec 16) := Kn.scalar (fun m : BitVec 16 => Value.int .u16 (m.toNat : Int)) fun _ => rfl
def maskAt (ms : List (BitVec 16)) (k : Nat) : BitVec 16 := ms.getD k 0
theorem rowMask {w : World} {ok : Nat → Prop} {A : Option Addr} {n : Nat} {ms : List (BitVec 16)} (h : Row kMask w ok A n ms) (k : Nat) (hk : k < n) :
    ∃ ad, A = some ad ∧ ok ad.block ∧ ad.block < w.heap.size ∧ w.cell? (ad.add k) = some (.int .u16 ((maskAt ms k).toNat : Int)) := by
  obtain ⟨ad, cs, e, ho, hlt, hK, hc⟩ := h.at_ (0 : BitVec 16) k hk
  have hK' : cs = [Value.int .u16 ((maskAt ms k).toNat : Int)] := hK
  subst hK'
  refine ⟨ad, e, ho, hlt, ?_⟩
  have := hc 0 _ rfl
  rwa [show k * kMask.sz + 0 = k from by simp [kMask, Kn.scalar]] at this
/-- How many pieces a mask has, how many shares four words have. -/
def maskCnt (m : BitVec 16) : Nat := cntB m.toNat.testBit 16
def wordCnt (m : BitVec 64) : Nat := cntB m.toNat.testBit 64
def shareCnt (f : Nat → BitVec 64) : Nat := wordCnt (f 0) + wordCnt (f 1) + wordCnt (f 2) + wordCnt (f 3)
def wsum (f : Nat → BitVec 64) : Nat → Nat
  | 0 => 0
  | k + 1 => wsum f k + wordCnt (f k)
theorem wsum_four (f : Nat → BitVec 64) : wsum f 4 = shareCnt f := by simp [wsum, shareCnt]
theorem wsum_le (f : Nat → BitVec 64) : ∀ k, wsum f k ≤ 64 * k
  | 0 => Nat.le_refl _
  | k + 1 => by
    have h1 := wsum_le f k
    have h2 : wordCnt (f k) ≤ 64 := cntB_le _ 64
    rw [wsum]
    omega
/-- What needs lack, by masks. -/
def lackAt (needs : List Need) (ms : List (BitVec 16)) (i : Nat) : Int := subN (pg needs i).2 (maskCnt (maskAt ms i))
def lackList (needs : List Need) (ms : List (BitVec 16)) : List Int := (List.range needs.length).map (lackAt needs ms)
abbrev stockCells (B : Option Addr) (n c : Nat) (f : Nat → BitVec 64) (ix : Bool) : Array Value :=
  #[.slice B n c, .int .u64 ((f 0).toNat : Int), .int .u64 ((f 1).toNat : Int), .int .u64 ((f 2).toNat : Int), .int .u64 ((f 3).toNat : Int), .bool ix]
theorem info_int3 : ∃ i : TypeInfo, Try.prog.info? 3 = some i ∧ i.zero = some (.int .i64 0) ∧ i.size = 1 ∧ i.bytes = 8 := by
  obtain ⟨i, hi, hz⟩ := Option.map_eq_some_iff.1 info_int
  simp only [Prod.mk.injEq] at hz
  exact ⟨i, hi, hz.1, hz.2.1, hz.2.2⟩

set_option maxRecDepth 100000 in
theorem index_four (a0 a1 a2 a3 : Value) (k : Nat) (W : World) : (k = 0 → (Instr.index 92 (.agg #[a0, a1, a2, a3]) (.int .i64 (k : Int))).run Try.prog W = .ok a0 W) ∧ (k = 1 → (Instr.index 92 (.agg #[a0, a1, a2, a3]) (.int .i64 (k : Int))).run Try.prog W = .ok a1 W) ∧
    (k = 2 → (Instr.index 92 (.agg #[a0, a1, a2, a3]) (.int .i64 (k : Int))).run Try.prog W = .ok a2 W) ∧ (k = 3 → (Instr.index 92 (.agg #[a0, a1, a2, a3]) (.int .i64 (k : Int))).run Try.prog W = .ok a3 W) := by
  refine ⟨?_, ?_, ?_, ?_⟩ <;> rintro rfl <;> go_simp <;> rfl
set_option maxRecDepth 100000 in
set_option maxHeartbeats 1000000 in
theorem lacking_any (pb : Nat) (needs : List Need) (thr : Int) (A1 : Option Addr) (c1 : Nat) (B : Option Addr) (c : Nat) (ms : List (BitVec 16)) (f : Nat → BitVec 64) (ix : Bool) (ok : Nat → Prop) (w : World)
    (h0 : w.cell? ⟨pb, 0, none⟩ = some (.slice A1 needs.length c1)) (h1 : w.cell? ⟨pb, 1, none⟩ = some (.int .i64 thr)) (hN : Row kPiece w ok A1 needs.length needs) (hM : Row kMask w ok B needs.length ms)
    (hd : ∀ n ∈ needs, 0 ≤ n.2 ∧ n.2 ≤ 1000) (ht : 0 ≤ thr ∧ thr ≤ 1000) (hl : needs.length ≤ 64) :
    Calls Try.prog 57 #[.pointer (some ⟨pb, 0, none⟩), .agg (stockCells B needs.length c f ix)] w fun e w' => ∃ v, e = .returned (.tuple #[v, .int .i64 (subN thr (shareCnt f))]) ∧ Own (Kn.int .i64) 3 w' w.heap.size v (lackList needs ms) ∧ Below w.heap.size w w' := by
  have hpb := World.block_lt_of_cell? w _ h0
  have HN := As.mk hN
  have HM := As.mk hM
  have HD := As.mk hd
  clear hN hM hd
  obtain ⟨w0, hw0⟩ : ∃ w0 : World, w0 = w.alloc (.cells (stockCells B needs.length c f ix) 94) := ⟨_, rfl⟩
  have HB0 : As (Below w.heap.size w w0) := ⟨by rw [hw0]; exact (Below.refl w.heap.size w).alloc (Nat.le_refl _) _⟩
  have HX : As (w0.heap[w.heap.size]? = some (.cells (stockCells B needs.length c f ix) 94 (0, 0))) := ⟨by rw [hw0]; exact heap_alloc_new w _⟩
  have a0 := (HB0.o.cell hpb).trans h0
  have a1 := (HB0.o.cell (p := ⟨pb, 1, none⟩) hpb).trans h1
  have HW0 := As.mk hw0
  clear hw0 h0 h1
  go_enter Try.func57, Try.ntmps57
  go_upto_region 1 with (fail)
  rw [← HW0.o]
  have hs0 : w.heap.size ≤ w0.heap.size := HB0.o.size
  obtain ⟨i3, k1, k2, k3, k4⟩ := info_int3
  go_wp2_with (at_make; refine wpList_make_full _ rfl _ _ 24 rfl w.heap.size 3 i3 (.int .i64 0) 1 Try.underlying24 k1 k2 k3 .i64 .i64 needs.length needs.length needs.length rfl rfl rfl rfl (by rw [k4]; omega) (by unfold maxLen; omega) hs0 ?_; intro w1 hown hg1; have hb1 := (Below.refl w0.heap.size w0).grown hg1 (Nat.le_refl _) (by simp); have hpb0 : pb < w0.heap.size := Nat.lt_of_lt_of_le hpb hs0; have b0 := (hb1.cell (p := ⟨pb, 0, none⟩) hpb0).trans a0; have b1 := (hb1.cell (p := ⟨pb, 1, none⟩) hpb0).trans a1)
  have hlw := blk_lt HX.o
  have HX1 : As (w1.heap[w.heap.size]? = some (.cells (stockCells B needs.length c f ix) 94 (0, 0))) := ⟨(hb1.block _ hlw).trans HX.o⟩
  have x0 : w1.cell? ⟨w.heap.size, 0, none⟩ = some (.slice B needs.length c) := (cell_of_row _ _ 0 _ _ _ HX1.o).trans rfl
  have x1 : w1.cell? ⟨w.heap.size, 1, none⟩ = some (.int .u64 ((f 0).toNat : Int)) := (cell_of_row _ _ 1 _ _ _ HX1.o).trans rfl
  have x2 : w1.cell? ⟨w.heap.size, 2, none⟩ = some (.int .u64 ((f 1).toNat : Int)) := (cell_of_row _ _ 2 _ _ _ HX1.o).trans rfl
  have x3 : w1.cell? ⟨w.heap.size, 3, none⟩ = some (.int .u64 ((f 2).toNat : Int)) := (cell_of_row _ _ 3 _ _ _ HX1.o).trans rfl
  have x4 : w1.cell? ⟨w.heap.size, 4, none⟩ = some (.int .u64 ((f 3).toNat : Int)) := (cell_of_row _ _ 4 _ _ _ HX1.o).trans rfl
  have HB1 := As.mk (bthen HB0.o hb1 (Nat.le_refl _))
  have hs1 : w0.heap.size < w1.heap.size + 1 := by have := hb1.size; omega
  have hlw1 : w.heap.size < w1.heap.size := Nat.lt_of_lt_of_le hlw hb1.size
  have hpb1 : pb < w1.heap.size := Nat.lt_of_lt_of_le hpb0 hb1.size
  have HN1 := As.mk (HN.o.bound.below HB1.o)
  have HM1 := As.mk (HM.o.bound.below HB1.o)
  have HOWN : As (w1.ownsRow w.heap.size 3 1 (.slice (some ⟨w0.heap.size, 0, none⟩) needs.length needs.length) needs.length ((fillTo (lackAt needs ms) 0 needs.length 0).map (Value.int .i64))) := ⟨by
    rw [made_scalar _ rfl] at hown
    rw [fillTo_zero, List.map_map]
    exact hown⟩
  clear hown hg1 a0 a1 hb1
  have hGlt : ∀ k, (Value.slice (some ⟨w0.heap.size, 0, none⟩) needs.length needs.length).ownBlock = some k → k = w0.heap.size := fun k e => by
    simp [Value.ownBlock] at e
    exact e.symm
  go_loopw [25] (fun i' wr => ∃ k : Nat, k ≤ needs.length ∧ i' = .int .i64 k ∧ As (w1.grownBy wr (some w0.heap.size)) ∧ As (wr.ownsRow w.heap.size 3 1 (.slice (some ⟨w0.heap.size, 0, none⟩) needs.length needs.length) needs.length ((fillTo (lackAt needs ms) 0 needs.length k).map (Value.int .i64)))) (fun i' _ => needs.length - (intOf i').toNat)
  case atStart => exact ⟨0, Nat.zero_le _, rfl, ⟨⟨rfl, rfl, rfl, Nat.le_refl _, fun _ _ _ => rfl⟩⟩, HOWN⟩
  case round =>
    obtain ⟨k, hk, rfl, HG, HO⟩ := hrel
    by_cases hlt : k < needs.length
    · have hsr := HG.o.size
      have hkeep : ∀ j, j < w.heap.size + 1 → wr.heap[j]? = w1.heap[j]? := fun j hj => HG.o.block j (by omega) (by simp; omega)
      have y0 : wr.cell? ⟨w.heap.size, 0, none⟩ = some (.slice B needs.length c) := (World.cell?_of_block (hkeep _ (by simp))).trans x0
      obtain ⟨ad, e1, ho1, hl1, p0, p1⟩ := rowPiece (HN1.o.step fun j hj _ => hkeep j (by have := hj.2; omega)) k hlt
      subst e1
      obtain ⟨ad2, e2, ho2, hl2, m0⟩ := rowMask (HM1.o.step fun j hj _ => hkeep j (by have := hj.2; omega)) k hlt
      subst e2
      have hlw2 : w.heap.size < wr.heap.size := by omega
      have hbl2 : (ad2.add k).block < wr.heap.size := by rw [block_add]; exact hl2
      have hml : (maskAt ms k).toNat < 65536 := (maskAt ms k).isLt
      have hcl := cntB_le (maskAt ms k).toNat.testBit 16
      have hdd := HD.o (pg needs k) (by rw [pg_eq _ _ hlt]; exact List.getElem_mem hlt)
      have HLA : As (lackAt needs ms k = subN (pg needs k).2 (cntB (maskAt ms k).toNat.testBit 16)) := ⟨rfl⟩
      have HFS := As.mk (fillTo_succ (lackAt needs ms) 0 needs.length k hlt)
      have CELL : ∀ W : World, W.ownsRow w.heap.size 3 1 (.slice (some ⟨w0.heap.size, 0, none⟩) needs.length needs.length) needs.length ((fillTo (lackAt needs ms) 0 needs.length k).map (Value.int .i64)) → ∃ u, W.cell? ⟨w0.heap.size, k, none⟩ = some u := fun W h => ⟨_, (h.cellAt k (by omega)).trans (by rw [List.getElem?_map, fillTo_get _ _ _ _ _ hlt]; rfl)⟩
      generalize lackAt needs ms k = LA at *
      generalize maskAt ms k = mk at *
      have ONES := As.mk fun W => ones16_any mk.toNat hml W
      generalize cntB mk.toNat.testBit 16 = cnt at *
      generalize pg needs k = y at *
      obtain ⟨ys, d⟩ := y
      simp only at hdd HLA
      have hwd : IntKind.i64.wrap (d - (cnt : Int)) = d - (cnt : Int) := IntWalk.i64_in _ (by omega)
      have hi0 : (0 : Int) ≤ (k : Int) := by omega
      have hi1 : (k : Int) < (needs.length : Int) := by omega
      have hal : (⟨w0.heap.size, 0, none⟩ : Addr).add k = ⟨w0.heap.size, k, none⟩ := add_lit0 _ _
      by_cases hc : (cnt : Int) < d
      · have hc2 : 0 < d - (cnt : Int) := by omega
        go_wp2
        refine wp_region_drew_tail 13 (by kernel_rfl) (by kernel_rfl) ?_
        simp only [List.take_succ_cons, List.take_zero, List.drop_succ_cons, List.drop_zero]
        repeat (go_big_quiet_step ((go_at_call 46; exact Calls.quiet_of (ONES.o _))))
        refine wpQuiet_nil ?_
        rintro _ ⟨q, rfl⟩
        have HO2 : As (((wr.alloc (.cells #[.string ys, .int .i64 d] 69)).drewN q).ownsRow w.heap.size 3 1 (.slice (some ⟨w0.heap.size, 0, none⟩) needs.length needs.length) needs.length ((fillTo (lackAt needs ms) 0 needs.length k).map (Value.int .i64))) := ⟨HO.o.alloc _⟩
        have HG2 : As (w1.grownBy ((wr.alloc (.cells #[.string ys, .int .i64 d] 69)).drewN q) (some w0.heap.size)) := ⟨⟨HG.o.os, HG.o.tape, HG.o.output, Nat.le_trans HG.o.size (by simp [World.drewN]), fun j hj hne => (Below.heap_alloc wr _ j (by omega)).trans (HG.o.block j hj hne)⟩⟩
        generalize (wr.alloc (.cells #[.string ys, .int .i64 d] 69)).drewN q = W2 at *
        have HST := HO2.o.stored k (.int .i64 (d - (cnt : Int)))
        obtain ⟨zu, z0⟩ := CELL W2 HO2.o
        have zf := HO2.o.frozenAt k
        go_wp2
        go_roundw
        case rel =>
          refine ⟨k + 1, by omega, by go_num, ⟨?_⟩, ⟨?_⟩⟩
          · exact ⟨HG2.o.os, HG2.o.tape, HG2.o.output, Nat.le_trans HG2.o.size HST.2.size, fun j hj hne => (HST.2.block j (Nat.lt_of_lt_of_le hj HG2.o.size) hne).trans (HG2.o.block j hj hne)⟩
          · have := HST.1
            rw [← HFS.o, List.map_set, HLA.o]
            rw [show subN d cnt = d - (cnt : Int) by unfold subN; omega]
            exact this
        case measure => simp [intOf]; omega
      · have hc2 : ¬ 0 < d - (cnt : Int) := by omega
        go_wp2
        refine wp_region_drew_tail 13 (by kernel_rfl) (by kernel_rfl) ?_
        simp only [List.take_succ_cons, List.take_zero, List.drop_succ_cons, List.drop_zero]
        repeat (go_big_quiet_step ((go_at_call 46; exact Calls.quiet_of (ONES.o _))))
        refine wpQuiet_nil ?_
        rintro _ ⟨q, rfl⟩
        have HO2 : As (((wr.alloc (.cells #[.string ys, .int .i64 d] 69)).drewN q).ownsRow w.heap.size 3 1 (.slice (some ⟨w0.heap.size, 0, none⟩) needs.length needs.length) needs.length ((fillTo (lackAt needs ms) 0 needs.length k).map (Value.int .i64))) := ⟨HO.o.alloc _⟩
        have HG2 : As (w1.grownBy ((wr.alloc (.cells #[.string ys, .int .i64 d] 69)).drewN q) (some w0.heap.size)) := ⟨⟨HG.o.os, HG.o.tape, HG.o.output, Nat.le_trans HG.o.size (by simp [World.drewN]), fun j hj hne => (Below.heap_alloc wr _ j (by omega)).trans (HG.o.block j hj hne)⟩⟩
        generalize (wr.alloc (.cells #[.string ys, .int .i64 d] 69)).drewN q = W2 at *
        have HST := HO2.o.stored k (.int .i64 0)
        obtain ⟨zu, z0⟩ := CELL W2 HO2.o
        have zf := HO2.o.frozenAt k
        go_wp2
        go_roundw
        case rel =>
          refine ⟨k + 1, by omega, by go_num, ⟨?_⟩, ⟨?_⟩⟩
          · exact ⟨HG2.o.os, HG2.o.tape, HG2.o.output, Nat.le_trans HG2.o.size HST.2.size, fun j hj hne => (HST.2.block j (Nat.lt_of_lt_of_le hj HG2.o.size) hne).trans (HG2.o.block j hj hne)⟩
          · have := HST.1
            rw [← HFS.o, List.map_set, HLA.o]
            rw [show subN d cnt = 0 by unfold subN; omega]
            exact this
        case measure => simp [intOf]; omega
    · have e : k = needs.length := by omega
      subst e
      have hsr := HG.o.size
      have hkeep : ∀ j, j < w.heap.size + 1 → wr.heap[j]? = w1.heap[j]? := fun j hj => HG.o.block j (by omega) (by simp; omega)
      have y0 : wr.cell? ⟨w.heap.size, 0, none⟩ = some (.slice B needs.length c) := (World.cell?_of_block (hkeep _ (by simp))).trans x0
      have y1 : wr.cell? ⟨w.heap.size, 1, none⟩ = some (.int .u64 ((f 0).toNat : Int)) := (World.cell?_of_block (hkeep _ (by simp))).trans x1
      have y2 : wr.cell? ⟨w.heap.size, 2, none⟩ = some (.int .u64 ((f 1).toNat : Int)) := (World.cell?_of_block (hkeep _ (by simp))).trans x2
      have y3 : wr.cell? ⟨w.heap.size, 3, none⟩ = some (.int .u64 ((f 2).toNat : Int)) := (World.cell?_of_block (hkeep _ (by simp))).trans x3
      have y4 : wr.cell? ⟨w.heap.size, 4, none⟩ = some (.int .u64 ((f 3).toNat : Int)) := (World.cell?_of_block (hkeep _ (by simp))).trans x4
      obtain ⟨wo, rfl⟩ : ∃ wo : World, wo = wr := ⟨_, rfl⟩
      go_wp2
      have HBO : As (Below w.heap.size w wo) := ⟨HB1.o.grown HG.o (by omega) (fun j e => by simp at e; omega)⟩
      go_loopw [9, 46] (fun a' i' wr => ∃ k : Nat, k ≤ 4 ∧ i' = .int .i64 k ∧ a' = .int .i64 (wsum f k : Nat) ∧ wr = wo) (fun _ i' _ => 4 - (intOf i').toNat)
      case atStart => exact ⟨0, Nat.zero_le _, rfl, rfl, rfl⟩
      case round =>
        obtain ⟨k, hk4, rfl, rfl, rfl⟩ := hrel
        have hwl := wsum_le f k
        by_cases hlt4 : k < 4
        · have HW := As.mk (show wsum f (k + 1) = wsum f k + wordCnt (f k) from rfl)
          have hcl : wordCnt (f k) ≤ 64 := cntB_le _ 64
          have hwa : IntKind.i64.wrap ((wsum f k : Nat) + (wordCnt (f k) : Nat) : Int) = ((wsum f k + wordCnt (f k) : Nat) : Int) := (IntWalk.i64_in _ (by omega)).trans (by omega)
          have ONES : As (∀ W, Calls Try.prog 77 #[.int .u64 ((f k).toNat : Int)] W fun e w' => e = .returned (.int .i64 (wordCnt (f k) : Nat)) ∧ W = w') := ⟨fun W => ones64_any (f k).toNat (f k).isLt W⟩
          generalize wordCnt (f k) = s2 at *
          generalize wsum f k = s0 at *
          have IDX : As (∀ W : World, (Instr.index 92 (.agg #[.int .u64 ((f 0).toNat : Int), .int .u64 ((f 1).toNat : Int), .int .u64 ((f 2).toNat : Int), .int .u64 ((f 3).toNat : Int)]) (.int .i64 (k : Int))).run Try.prog W = .ok (.int .u64 ((f k).toNat : Int)) W) := ⟨fun W => by
            have h4 := index_four (.int .u64 ((f 0).toNat : Int)) (.int .u64 ((f 1).toNat : Int)) (.int .u64 ((f 2).toNat : Int)) (.int .u64 ((f 3).toNat : Int)) k W
            rcases (show k = 0 ∨ k = 1 ∨ k = 2 ∨ k = 3 by omega) with rfl | rfl | rfl | rfl
            · exact h4.1 rfl
            · exact h4.2.1 rfl
            · exact h4.2.2.1 rfl
            · exact h4.2.2.2 rfl⟩
          generalize f k = fk at *
          go_wp2_with (first
            | (refine wpList_index_run rfl _ _ 92 rfl _ _ _ rfl rfl (IDX.o _) ?_)
            | (go_at_call 77; refine (ONES.o _).mono ?_; rintro e w5 ⟨rfl, rfl⟩))
          go_roundw
          case rel => exact ⟨k + 1, by omega, by go_num, by rw [HW.o, Int.natCast_add], trivial⟩
          case measure => simp [intOf]; omega
        · have e4 : k = 4 := by omega
          subst e4
          rw [wsum_four] at hwl ⊢
          have hsub : IntKind.i64.wrap (thr - (shareCnt f : Nat)) = thr - (shareCnt f : Nat) := IntWalk.i64_in _ (by omega)
          obtain ⟨sc, hsc⟩ : ∃ sc : Nat, sc = shareCnt f := ⟨_, rfl⟩
          have HSC := As.mk hsc
          rw [← hsc] at hwl hsub ⊢
          clear hsc
          have HSB : As (subN thr (shareCnt f) = max 0 (thr - (sc : Int))) := ⟨by rw [← HSC.o]; rfl⟩
          have z1 : wr.cell? ⟨pb, 1, none⟩ = some (.int .i64 thr) := (World.cell?_of_block (hkeep _ (Nat.lt_succ_of_lt hpb))).trans b1
          have HFIN : As (∀ q, Own (Kn.int .i64) 3 (wr.drewN q) w.heap.size (.slice (some ⟨w0.heap.size, 0, none⟩) needs.length needs.length) (lackList needs ms) ∧ Below w.heap.size w (wr.drewN q)) := ⟨fun q => by
            have h := HO.o
            rw [fillTo_all] at h
            have h2 : wr.ownsRow w.heap.size 3 1 (.slice (some ⟨w0.heap.size, 0, none⟩) needs.length needs.length) (lackList needs ms).length ((lackList needs ms).map (Value.int .i64)) := by
              have e : (lackList needs ms).length = needs.length := by simp [lackList]
              rw [e]
              exact h
            exact ⟨own_scalar (w := wr.drewN q) h2, below_drewN HBO.o q⟩⟩
          by_cases hcs : (sc : Int) < thr
          · have hcs2 : 0 < thr - (sc : Int) := by omega
            go_wp2
            go_quiet (fail)
            go_wp2
            go_ret2
            exact ⟨_, by rw [HSB.o, show max 0 (thr - (sc : Int)) = thr - (sc : Int) by omega]; rfl, (HFIN.o _).1, (HFIN.o _).2⟩
          · have hcs2 : ¬ 0 < thr - (sc : Int) := by omega
            go_wp2
            go_quiet (fail)
            go_wp2
            go_ret2
            exact ⟨_, by rw [HSB.o, show max 0 (thr - (sc : Int)) = 0 by omega]; rfl, (HFIN.o _).1, (HFIN.o _).2⟩
end Go.Proofs.Ytlinhckgdfhppaa
