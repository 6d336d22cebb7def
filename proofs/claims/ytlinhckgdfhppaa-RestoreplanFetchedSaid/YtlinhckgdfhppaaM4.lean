/- A part of the proof: what the functions do, and plain laws. -/
import Derived.Test.YtlinhckgdfhppaaM3
import Derived.Test.YtlinhckgdfhppaaK8
set_option linter.unusedSimpArgs false
set_option linter.unusedVariables false
namespace Go.Proofs.Ytlinhckgdfhppaa
open Go Go.RowKit Go.Proofs.YtlinhckgdfhppaaK

def kMask : Kn (BitVec 16) := Kn.scalar (fun m : BitVec 16 => Value.int .u16 (m.toNat : Int)) fun _ => rfl
def maskAt (ms : List (BitVec 16)) (k : Nat) : BitVec 16 := ms.getD k 0
theorem rowMask {w : World} {ok : Nat → Prop} {A : Option Addr} {n : Nat} {ms : List (BitVec 16)} (h : Row kMask w ok A n ms) (k : Nat) (hk : k < n) :
    ∃ ad, A = some ad ∧ ok ad.block ∧ ad.block < w.heap.size ∧ w.cell? (ad.add k) = some (.int .u16 ((maskAt ms k).toNat : Int)) := by
  obtain ⟨ad, cs, e, ho, hlt, hK, hc⟩ := h.at_ (0 : BitVec 16) k hk
  have hK' : cs = [Value.int .u16 ((maskAt ms k).toNat : Int)] := hK
  subst hK'
  refine ⟨ad, e, ho, hlt, ?_⟩
  have := hc 0 _ rfl
  rwa [show k * kMask.sz + 0 = k from by simp [kMask, Kn.scalar]] at this
/-- How many pieces a mask has, how many shares four words have. -/
def maskCnt (m : BitVec 16) : Nat := cntB m.toNat.testBit 16
def wordCnt (m : BitVec 64) : Nat := cntB m.toNat.testBit 64
def shareCnt (f : Nat → BitVec 64) : Nat := wordCnt (f 0) + wordCnt (f 1) + wordCnt (f 2) + wordCnt (f 3)
def wsum (f : Nat → BitVec 64) : Nat → Nat
  | 0 => 0
  | k + 1 => wsum f k + wordCnt (f k)
theorem wsum_four (f : Nat → BitVec 64) : wsum f 4 = shareCnt f := by simp [wsum, shareCnt]
theorem wsum_le (f : Nat → BitVec 64) : ∀ k, wsum f k ≤ 64 * k
  | 0 => Nat.le_refl _
  | k + 1 => by
    have h1 := wsum_le f k
    have h2 : wordCnt (f k) ≤ 64 := cntB_le _ 64
    rw [wsum]
    omega
/-- What needs lack, by masks. -/
def lackAt (needs : List Need) (ms : List (BitVec 16)) (i : Nat) : Int := subN (pg needs i).2 (maskCnt (maskAt ms i))
def lackList (needs : List Need) (ms : List (BitVec 16)) : List Int := (List.range needs.length).map (lackAt needs ms)
abbrev stockCells (B : Option Addr) (n c : Nat) (f : Nat → BitVec 64) (ix : Bool) : Array Value :=
  #[.slice B n c, .int .u64 ((f 0).toNat : Int), .int .u64 ((f 1).toNat : Int), .int .u64 ((f 2).toNat : Int), .int .u64 ((f 3).toNat : Int), .bool ix]
theorem info_int3 : ∃ i : TypeInfo, Try.prog.info? 3 = some i ∧ i.zero = some (.int .i64 0) ∧ i.size = 1 ∧ i.bytes = 8 := by
  obtain ⟨i, hi, hz⟩ := Option.map_eq_some_iff.1 info_int
  simp only [Prod.mk.injEq] at hz
  exact ⟨i, hi, hz.1, hz.2.1, hz.2.2⟩

set_option maxRecDepth 100000 in
theorem index_four (a0 a1 a2 a3 : Value) (k : Nat) (W : World) : (k = 0 → (Instr.index 92 (.agg #[a0, a1, a2, a3]) (.int .i64 (k : Int))).run Try.prog W = .ok a0 W) ∧ (k = 1 → (Instr.index 92 (.agg #[a0, a1, a2, a3]) (.int .i64 (k : Int))).run Try.prog W = .ok a1 W) ∧
    (k = 2 → (Instr.index 92 (.agg #[a0, a1, a2, a3]) (.int .i64 (k : Int))).run Try.prog W = .ok a2 W) ∧ (k = 3 → (Instr.index 92 (.agg #[a0, a1, a2, a3]) (.int .i64 (k : Int))).run Try.prog W = .ok a3 W) := by
  refine ⟨?_, ?_, ?_, ?_⟩ <;> rintro rfl <;> go_simp <;> rfl
set_option maxRecDepth 100000 in
set_option maxHeartbeats 1000000 in
theorem lacking_any (pb : Nat) (needs : List Need) (thr : Int) (A1 : Option Addr) (c1 : Nat) (B : Option Addr) (c : Nat) (ms : List (BitVec 16)) (f : Nat → BitVec 64) (ix : Bool) (ok : Nat → Prop) (w : World)
    (h0 : w.cell? ⟨pb, 0, none⟩ = some (.slice A1 needs.length c1)) (h1 : w.cell? ⟨pb, 1, none⟩ = some (.int .i64 thr)) (hN : Row kPiece w ok A1 needs.length needs) (hM : Row kMask w ok B needs.length ms)
    (hd : ∀ n ∈ needs, 0 ≤ n.2 ∧ n.2 ≤ 1000) (ht : 0 ≤ thr ∧ thr ≤ 1000) (hl : needs.length ≤ 64) :
    Calls Try.prog 57 #[.pointer (some ⟨pb, 0, none⟩), .agg (stockCells B needs.length c f ix)] w fun e w' => ∃ v, e = .returned (.tuple #[v, .int .i64 (subN thr (shareCnt f))]) ∧ Own (Kn.int .i64) 3 w' w.heap.size v (lackList needs ms) ∧ Below w.heap.size w w' := by
  have hpb := World.block_lt_of_cell? w _ h0
  have HN := As.mk hN
  have HM := As.mk hM
  have HD := As.mk hd
  clear hN hM hd
  obtain ⟨w0, hw0⟩ : ∃ w0 : World, w0 = w.alloc (.cells (stockCells B needs.length c f ix) 94) := ⟨_, rfl⟩
  have HB0 : As (Below w.heap.size w w0) := ⟨by rw [hw0]; exact (Below.refl w.heap.size w).alloc (Nat.le_refl _) _⟩
  have HX : As (w0.heap[w.heap.size]? = some (.cells (stockCells B needs.length c f ix) 94 (0, 0))) := ⟨by rw [hw0]; exact heap_alloc_new w _⟩
  have a0 := (HB0.o.cell hpb).trans h0
  have a1 := (HB0.o.cell (p := ⟨pb, 1, none⟩) hpb).trans h1
  have HW0 := As.mk hw0
  clear hw0 h0 h1
  go_enter Try.func57, Try.ntmps57
  go_upto_region 1 with (fail)
  rw [← HW0.o]
  have hs0 : w.heap.size ≤ w0.heap.size := HB0.o.size
  obtain ⟨i3, k1, k2, k3, k4⟩ := info_int3
  go_wp2_with (at_make; refine wpList_make_full _ rfl _ _ 24 rfl w.heap.size 3 i3 (.int .i64 0) 1 Try.underlying24 k1 k2 k3 .i64 .i64 needs.length needs.length needs.length rfl rfl rfl rfl (by rw [k4]; omega) (by unfold maxLen; omega) hs0 ?_; intro w1 hown hg1; have hb1 := (Below.refl w0.heap.size w0).grown hg1 (Nat.le_refl _) (by simp); have hpb0 : pb < w0.heap.size := Nat.lt_of_lt_of_le hpb hs0; have b0 := (hb1.cell (p := ⟨pb, 0, none⟩) hpb0).trans a0; have b1 := (hb1.cell (p := ⟨pb, 1, none⟩) hpb0).trans a1)
  have hlw := blk_lt HX.o
  have HX1 : As (w1.heap[w.heap.size]? = some (.cells (stockCells B needs.length c f ix) 94 (0, 0))) := ⟨(hb1.block _ hlw).trans HX.o⟩
  have x0 : w1.cell? ⟨w.heap.size, 0, none⟩ = some (.slice B needs.length c) := (cell_of_row _ _ 0 _ _ _ HX1.o).trans rfl
  have x1 : w1.cell? ⟨w.heap.size, 1, none⟩ = some (.int .u64 ((f 0).toNat : Int)) := (cell_of_row _ _ 1 _ _ _ HX1.o).trans rfl
  have x2 : w1.cell? ⟨w.heap.size, 2, none⟩ = some (.int .u64 ((f 1).toNat : Int)) := (cell_of_row _ _ 2 _ _ _ HX1.o).trans rfl
  have x3 : w1.cell? ⟨w.heap.size, 3, none⟩ = some (.int .u64 ((f 2).toNat : Int)) := (cell_of_row _ _ 3 _ _ _ HX1.o).trans rfl
  have x4 : w1.cell? ⟨w.heap.size, 4, none⟩ = some (.int .u64 ((f 3).toNat : Int)) := (cell_of_row _ _ 4 _ _ _ HX1.o).trans rfl
  have HB1 := As.mk (bthen HB0.o hb1 (Nat.le_refl _))
  have hs1 : w0.heap.size < w1.heap.size + 1 := by have := hb1.size; omega
  have hlw1 : w.heap.size < w1.heap.size := Nat.lt_of_lt_of_le hlw hb1.size
  have hpb1 : pb < w1.heap.size := Nat.lt_of_lt_of_le hpb0 hb1.size
  have HN1 := As.mk (HN.o.bound.below HB1.o)
  have HM1 := As.mk (HM.o.bound.below HB1.o)
  have HOWN : As (w1.ownsRow w.heap.size 3 1 (.slice (some ⟨w0.heap.size, 0, none⟩) needs.length needs.length) needs.length ((fillTo (lackAt needs ms) 0 needs.length 0).map (Value.int .i64))) := ⟨by
    rw [made_scalar _ rfl] at hown
    rw [fillTo_zero, List.map_map]
    exact hown⟩
  clear hown hg1 a0 a1 hb1
  have hGlt : ∀ k, (Value.slice (some ⟨w0.heap.size, 0, none⟩) needs.length needs.length).ownBlock = some k → k = w0.heap.size := fun k e => by
    simp [Value.ownBlock] at e
    exact e.symm
  go_loopw [25] (fun i' wr => ∃ k : Nat, k ≤ needs.length ∧ i' = .int .i64 k ∧ As (w1.grownBy wr (some w0.heap.size)) ∧ As (wr.ownsRow w.heap.size 3 1 (.slice (some ⟨w0.heap.size, 0, none⟩) needs.length needs.length) needs.length ((fillTo (lackAt needs ms) 0 needs.length k).map (Value.int .i64)))) (fun i' _ => needs.length - (intOf i').toNat)
  case atStart => exact ⟨0, Nat.zero_le _, rfl, ⟨⟨rfl, rfl, rfl, Nat.le_refl _, fun _ _ _ => rfl⟩⟩, HOWN⟩
  case round =>
    obtain ⟨k, hk, rfl, HG, HO⟩ := hrel
    by_cases hlt : k < needs.length
    · have hsr := HG.o.size
      have hkeep : ∀ j, j < w.heap.size + 1 → wr.heap[j]? = w1.heap[j]? := fun j hj => HG.o.block j (by omega) (by simp; omega)
      have y0 : wr.cell? ⟨w.heap.size, 0, none⟩ = some (.slice B needs.length c) := (World.cell?_of_block (hkeep _ (by simp))).trans x0
      obtain ⟨ad, e1, ho1, hl1, p0, p1⟩ := rowPiece (HN1.o.step fun j hj _ => hkeep j (by have := hj.2; omega)) k hlt
      subst e1
      obtain ⟨ad2, e2, ho2, hl2, m0⟩ := rowMask (HM1.o.step fun j hj _ => hkeep j (by have := hj.2; omega)) k hlt
      subst e2
      have hlw2 : w.heap.size < wr.heap.size := by omega
      have hbl2 : (ad2.add k).block < wr.heap.size := by rw [block_add]; exact hl2
      have hml : (maskAt ms k).toNat < 65536 := (maskAt ms k).isLt
      have hcl := cntB_le (maskAt ms k).toNat.testBit 16
      have hdd := HD.o (pg needs k) (by rw [pg_eq _ _ hlt]; exact List.getElem_mem hlt)
      have HLA : As (lackAt needs ms k = subN (pg needs k).2 (cntB (maskAt ms k).toNat.testBit 16)) := ⟨rfl⟩
      have HFS := As.mk (fillTo_succ (lackAt needs ms) 0 needs.length k hlt)
      have CELL : ∀ W : World, W.ownsRow w.heap.size 3 1 (.slice (some ⟨w0.heap.size, 0, none⟩) needs.length needs.length) needs.length ((fillTo (lackAt needs ms) 0 needs.length k).map (Value.int .i64)) → ∃ u, W.cell? ⟨w0.heap.size, k, none⟩ = some u := fun W h => ⟨_, (h.cellAt k (by omega)).trans (by rw [List.getElem?_map, fillTo_get _ _ _ _ _ hlt]; rfl)⟩
      generalize lackAt needs ms k = LA at *
      generalize maskAt ms k = mk at *
      have ONES := As.mk fun W => ones16_any mk.toNat hml W
      generalize cntB mk.toNat.testBit 16 = cnt at *
      generalize pg needs k = y at *
      obtain ⟨ys, d⟩ := y
      simp only at hdd HLA
      have hwd : IntKind.i64.wrap (d - (cnt : Int)) = d - (cnt : Int) := IntWalk.i64_in _ (by omega)
      have hi0 : (0 : Int) ≤ (k : Int) := by omega
      have hi1 : (k : Int) < (needs.length : Int) := by omega
      have hal : (⟨w0.heap.size, 0, none⟩ : Addr).add k = ⟨w0.heap.size, k, none⟩ := add_lit0 _ _
      by_cases hc : (cnt : Int) < d
      · have hc2 : 0 < d - (cnt : Int) := by omega
        go_wp2
        refine wp_region_drew_tail 13 (by kernel_rfl) (by kernel_rfl) ?_
        simp only [List.take_succ_cons, List.take_zero, List.drop_succ_cons, List.drop_zero]
        repeat (go_big_quiet_step ((go_at_call 46; exact Calls.quiet_of (ONES.o _))))
        refine wpQuiet_nil ?_
        rintro _ ⟨q, rfl⟩
        have HO2 : As (((wr.alloc (.cells #[.string ys, .int .i64 d] 69)).drewN q).ownsRow w.heap.size 3 1 (.slice (some ⟨w0.heap.size, 0, none⟩) needs.length needs.length) needs.length ((fillTo (lackAt needs ms) 0 needs.length k).map (Value.int .i64))) := ⟨HO.o.alloc _⟩
        have HG2 : As (w1.grownBy ((wr.alloc (.cells #[.string ys, .int .i64 d] 69)).drewN q) (some w0.heap.size)) := ⟨⟨HG.o.os, HG.o.tape, HG.o.output, Nat.le_trans HG.o.size (by simp [World.drewN]), fun j hj hne => (Below.heap_alloc wr _ j (by omega)).trans (HG.o.block j hj hne)⟩⟩
        generalize (wr.alloc (.cells #[.string ys, .int .i64 d] 69)).drewN q = W2 at *
        have HST := HO2.o.stored k (.int .i64 (d - (cnt : Int)))
        obtain ⟨zu, z0⟩ := CELL W2 HO2.o
        have zf := HO2.o.frozenAt k
        go_wp2
        go_roundw
        case rel =>
          refine ⟨k + 1, by omega, by go_num, ⟨?_⟩, ⟨?_⟩⟩
          · exact ⟨HG2.o.os, HG2.o.tape, HG2.o.output, Nat.le_trans HG2.o.size HST.2.size, fun j hj hne => (HST.2.block j (Nat.lt_of_lt_of_le hj HG2.o.size) hne).trans (HG2.o.block j hj hne)⟩
          · have := HST.1
            rw [← HFS.o, List.map_set, HLA.o]
            rw [show subN d cnt = d - (cnt : Int) by unfold subN; omega]
            exact this
        case measure => simp [intOf]; omega
      · have hc2 : ¬ 0 < d - (cnt : Int) := by omega
        go_wp2
        refine wp_region_drew_tail 13 (by kernel_rfl) (by kernel_rfl) ?_
        simp only [List.take_succ_cons, List.take_zero, List.drop_succ_cons, List.drop_zero]
        repeat (go_big_quiet_step ((go_at_call 46; exact Calls.quiet_of (ONES.o _))))
        refine wpQuiet_nil ?_
        rintro _ ⟨q, rfl⟩
        have HO2 : As (((wr.alloc (.cells #[.string ys, .int .i64 d] 69)).drewN q).ownsRow w.heap.size 3 1 (.slice (some ⟨w0.heap.size, 0, none⟩) needs.length needs.length) needs.length ((fillTo (lackAt needs ms) 0 needs.length k).map (Value.int .i64))) := ⟨HO.o.alloc _⟩
        have HG2 : As (w1.grownBy ((wr.alloc (.cells #[.string ys, .int .i64 d] 69)).drewN q) (some w0.heap.size)) := ⟨⟨HG.o.os, HG.o.tape, HG.o.output, Nat.le_trans HG.o.size (by simp [World.drewN]), fun j hj hne => (Below.heap_alloc wr _ j (by omega)).trans (HG.o.block j hj hne)⟩⟩
        generalize (wr.alloc (.cells #[.string ys, .int .i64 d] 69)).drewN q = W2 at *
        have HST := HO2.o.stored k (.int .i64 0)
        obtain ⟨zu, z0⟩ := CELL W2 HO2.o
        have zf := HO2.o.frozenAt k
        go_wp2
        go_roundw
        case rel =>
          refine ⟨k + 1, by omega, by go_num, ⟨?_⟩, ⟨?_⟩⟩
          · exact ⟨HG2.o.os, HG2.o.tape, HG2.o.output, Nat.le_trans HG2.o.size HST.2.size, fun j hj hne => (HST.2.block j (Nat.lt_of_lt_of_le hj HG2.o.size) hne).trans (HG2.o.block j hj hne)⟩
          · have := HST.1
            rw [← HFS.o, List.map_set, HLA.o]
            rw [show subN d cnt = 0 by unfold subN; omega]
            exact this
        case measure => simp [intOf]; omega
    · have e : k = needs.length := by omega
      subst e
      have hsr := HG.o.size
      have hkeep : ∀ j, j < w.heap.size + 1 → wr.heap[j]? = w1.heap[j]? := fun j hj => HG.o.block j (by omega) (by simp; omega)
      have y0 : wr.cell? ⟨w.heap.size, 0, none⟩ = some (.slice B needs.length c) := (World.cell?_of_block (hkeep _ (by simp))).trans x0
      have y1 : wr.cell? ⟨w.heap.size, 1, none⟩ = some (.int .u64 ((f 0).toNat : Int)) := (World.cell?_of_block (hkeep _ (by simp))).trans x1
      have y2 : wr.cell? ⟨w.heap.size, 2, none⟩ = some (.int .u64 ((f 1).toNat : Int)) := (World.cell?_of_block (hkeep _ (by simp))).trans x2
      have y3 : wr.cell? ⟨w.heap.size, 3, none⟩ = some (.int .u64 ((f 2).toNat : Int)) := (World.cell?_of_block (hkeep _ (by simp))).trans x3
      have y4 : wr.cell? ⟨w.heap.size, 4, none⟩ = some (.int .u64 ((f 3).toNat : Int)) := (World.cell?_of_block (hkeep _ (by simp))).trans x4
      obtain ⟨wo, rfl⟩ : ∃ wo : World, wo = wr := ⟨_, rfl⟩
      go_wp2
      have HBO : As (Below w.heap.size w wo) := ⟨HB1.o.grown HG.o (by omega) (fun j e => by simp at e; omega)⟩
      go_loopw [9, 46] (fun a' i' wr => ∃ k : Nat, k ≤ 4 ∧ i' = .int .i64 k ∧ a' = .int .i64 (wsum f k : Nat) ∧ wr = wo) (fun _ i' _ => 4 - (intOf i').toNat)
      case atStart => exact ⟨0, Nat.zero_le _, rfl, rfl, rfl⟩
      case round =>
        obtain ⟨k, hk4, rfl, rfl, rfl⟩ := hrel
        have hwl := wsum_le f k
        by_cases hlt4 : k < 4
        · have HW := As.mk (show wsum f (k + 1) = wsum f k + wordCnt (f k) from rfl)
          have hcl : wordCnt (f k) ≤ 64 := cntB_le _ 64
          have hwa : IntKind.i64.wrap ((wsum f k : Nat) + (wordCnt (f k) : Nat) : Int) = ((wsum f k + wordCnt (f k) : Nat) : Int) := (IntWalk.i64_in _ (by omega)).trans (by omega)
          have ONES : As (∀ W, Calls Try.prog 77 #[.int .u64 ((f k).toNat : Int)] W fun e w' => e = .returned (.int .i64 (wordCnt (f k) : Nat)) ∧ W = w') := ⟨fun W => ones64_any (f k).toNat (f k).isLt W⟩
          generalize wordCnt (f k) = s2 at *
          generalize wsum f k = s0 at *
          have IDX : As (∀ W : World, (Instr.index 92 (.agg #[.int .u64 ((f 0).toNat : Int), .int .u64 ((f 1).toNat : Int), .int .u64 ((f 2).toNat : Int), .int .u64 ((f 3).toNat : Int)]) (.int .i64 (k : Int))).run Try.prog W = .ok (.int .u64 ((f k).toNat : Int)) W) := ⟨fun W => by
            have h4 := index_four (.int .u64 ((f 0).toNat : Int)) (.int .u64 ((f 1).toNat : Int)) (.int .u64 ((f 2).toNat : Int)) (.int .u64 ((f 3).toNat : Int)) k W
            rcases (show k = 0 ∨ k = 1 ∨ k = 2 ∨ k = 3 by omega) with rfl | rfl | rfl | rfl
            · exact h4.1 rfl
            · exact h4.2.1 rfl
            · exact h4.2.2.1 rfl
            · exact h4.2.2.2 rfl⟩
          generalize f k = fk at *
          go_wp2_with (first
            | (refine wpList_index_run rfl _ _ 92 rfl _ _ _ rfl rfl (IDX.o _) ?_)
            | (go_at_call 77; refine (ONES.o _).mono ?_; rintro e w5 ⟨rfl, rfl⟩))
          go_roundw
          case rel => exact ⟨k + 1, by omega, by go_num, by rw [HW.o, Int.natCast_add], trivial⟩
          case measure => simp [intOf]; omega
        · have e4 : k = 4 := by omega
          subst e4
          rw [wsum_four] at hwl ⊢
          have hsub : IntKind.i64.wrap (thr - (shareCnt f : Nat)) = thr - (shareCnt f : Nat) := IntWalk.i64_in _ (by omega)
          obtain ⟨sc, hsc⟩ : ∃ sc : Nat, sc = shareCnt f := ⟨_, rfl⟩
          have HSC := As.mk hsc
          rw [← hsc] at hwl hsub ⊢
          clear hsc
          have HSB : As (subN thr (shareCnt f) = max 0 (thr - (sc : Int))) := ⟨by rw [← HSC.o]; rfl⟩
          have z1 : wr.cell? ⟨pb, 1, none⟩ = some (.int .i64 thr) := (World.cell?_of_block (hkeep _ (Nat.lt_succ_of_lt hpb))).trans b1
          have HFIN : As (∀ q, Own (Kn.int .i64) 3 (wr.drewN q) w.heap.size (.slice (some ⟨w0.heap.size, 0, none⟩) needs.length needs.length) (lackList needs ms) ∧ Below w.heap.size w (wr.drewN q)) := ⟨fun q => by
            have h := HO.o
            rw [fillTo_all] at h
            have h2 : wr.ownsRow w.heap.size 3 1 (.slice (some ⟨w0.heap.size, 0, none⟩) needs.length needs.length) (lackList needs ms).length ((lackList needs ms).map (Value.int .i64)) := by
              have e : (lackList needs ms).length = needs.length := by simp [lackList]
              rw [e]
              exact h
            exact ⟨own_scalar (w := wr.drewN q) h2, below_drewN HBO.o q⟩⟩
          by_cases hcs : (sc : Int) < thr
          · have hcs2 : 0 < thr - (sc : Int) := by omega
            go_wp2
            go_quiet (fail)
            go_wp2
            go_ret2
            exact ⟨_, by rw [HSB.o, show max 0 (thr - (sc : Int)) = thr - (sc : Int) by omega]; rfl, (HFIN.o _).1, (HFIN.o _).2⟩
          · have hcs2 : ¬ 0 < thr - (sc : Int) := by omega
            go_wp2
            go_quiet (fail)
            go_wp2
            go_ret2
            exact ⟨_, by rw [HSB.o, show max 0 (thr - (sc : Int)) = 0 by omega]; rfl, (HFIN.o _).1, (HFIN.o _).2⟩
end Go.Proofs.Ytlinhckgdfhppaa
namespace Go.Proofs.Ytlinhckgdfhppaa
open Go Go.RowKit Go.Proofs.YtlinhckgdfhppaaK

/-- The sum of what is lacking, by masks. -/
def maskSum (needs : List Need) (thr : Int) (ms : List (BitVec 16)) (f : Nat → BitVec 64) (ix : Bool) : Int := subN thr (shareCnt f) + (lackList needs ms).sum + if ix then 0 else 1
theorem lackList_bd {needs : List Need} {ms : List (BitVec 16)} (hd : ∀ n ∈ needs, 0 ≤ n.2 ∧ n.2 ≤ 1000) : ∀ x ∈ lackList needs ms, 0 ≤ x ∧ x ≤ 1000 := by
  intro x hx
  obtain ⟨i, hi, rfl⟩ := List.mem_map.1 hx
  have hi' := List.mem_range.1 hi
  have h := hd (pg needs i) (by rw [pg_eq _ _ hi']; exact List.getElem_mem hi')
  unfold lackAt subN
  omega
set_option maxRecDepth 100000 in
set_option maxHeartbeats 1000000 in
theorem msum_any (pb : Nat) (needs : List Need) (thr : Int) (A1 : Option Addr) (c1 : Nat) (B : Option Addr) (c : Nat) (ms : List (BitVec 16)) (f : Nat → BitVec 64) (ix : Bool) (ok : Nat → Prop) (w : World)
    (h0 : w.cell? ⟨pb, 0, none⟩ = some (.slice A1 needs.length c1)) (h1 : w.cell? ⟨pb, 1, none⟩ = some (.int .i64 thr)) (hN : Row kPiece w ok A1 needs.length needs) (hM : Row kMask w ok B needs.length ms)
    (hd : ∀ n ∈ needs, 0 ≤ n.2 ∧ n.2 ≤ 1000) (ht : 0 ≤ thr ∧ thr ≤ 1000) (hl : needs.length ≤ 64) :
    Calls Try.prog 68 #[.pointer (some ⟨pb, 0, none⟩), .agg (stockCells B needs.length c f ix)] w fun e w' => e = .returned (.int .i64 (maskSum needs thr ms f ix)) ∧ Below w.heap.size w w' := by
  have hpb := World.block_lt_of_cell? w _ h0
  obtain ⟨w0, hw0⟩ : ∃ w0 : World, w0 = w.alloc (.cells (stockCells B needs.length c f ix) 94) := ⟨_, rfl⟩
  have HB0 : As (Below w.heap.size w w0) := ⟨by rw [hw0]; exact (Below.refl w.heap.size w).alloc (Nat.le_refl _) _⟩
  have HX : As (w0.heap[w.heap.size]? = some (.cells (stockCells B needs.length c f ix) 94 (0, 0))) := ⟨by rw [hw0]; exact heap_alloc_new w _⟩
  have hlw := blk_lt HX.o
  have LACK : As (Calls Try.prog 57 #[.pointer (some ⟨pb, 0, none⟩), .agg (stockCells B needs.length c f ix)] w0 fun e w' => ∃ A n cc, e = .returned (.tuple #[.slice A n cc, .int .i64 (subN thr (shareCnt f))]) ∧ Row (Kn.int .i64) w' (fun _ => True) A n (lackList needs ms) ∧ Below w0.heap.size w0 w') :=
    ⟨(lacking_any pb needs thr A1 c1 B c ms f ix ok w0 ((HB0.o.cell hpb).trans h0) ((HB0.o.cell (p := ⟨pb, 1, none⟩) hpb).trans h1) (hN.below HB0.o) (hM.below HB0.o) hd ht hl).mono fun e w' ⟨v, he, ho, hb⟩ => by
      obtain ⟨A, cc, rfl, _, hr⟩ := ho.shape
      exact ⟨A, _, cc, he, hr.mono fun _ _ => trivial, hb⟩⟩
  have HBD := As.mk (lackList_bd (ms := ms) hd)
  have HLL : As ((lackList needs ms).length = needs.length) := ⟨by simp [lackList]⟩
  have HS0 : As (0 ≤ subN thr (shareCnt f) ∧ subN thr (shareCnt f) ≤ 1000) := ⟨by unfold subN; omega⟩
  have HMS : As (maskSum needs thr ms f ix = subN thr (shareCnt f) + (lackList needs ms).sum + if ix then 0 else 1) := ⟨rfl⟩
  have HW0 := As.mk hw0
  clear hw0 h0 h1 hN hM hd ht
  generalize lackList needs ms = LL at *
  generalize subN thr (shareCnt f) = s0 at *
  generalize maskSum needs thr ms f ix = RES at *
  have x0 : w0.cell? ⟨w.heap.size, 0, none⟩ = some (.slice B needs.length c) := (cell_of_row _ _ 0 _ _ _ HX.o).trans rfl
  have x1 : w0.cell? ⟨w.heap.size, 1, none⟩ = some (.int .u64 ((f 0).toNat : Int)) := (cell_of_row _ _ 1 _ _ _ HX.o).trans rfl
  have x2 : w0.cell? ⟨w.heap.size, 2, none⟩ = some (.int .u64 ((f 1).toNat : Int)) := (cell_of_row _ _ 2 _ _ _ HX.o).trans rfl
  have x3 : w0.cell? ⟨w.heap.size, 3, none⟩ = some (.int .u64 ((f 2).toNat : Int)) := (cell_of_row _ _ 3 _ _ _ HX.o).trans rfl
  have x4 : w0.cell? ⟨w.heap.size, 4, none⟩ = some (.int .u64 ((f 3).toNat : Int)) := (cell_of_row _ _ 4 _ _ _ HX.o).trans rfl
  have x5 : w0.cell? ⟨w.heap.size, 5, none⟩ = some (.bool ix) := (cell_of_row _ _ 5 _ _ _ HX.o).trans rfl
  go_enter Try.func68, Try.ntmps68
  go_upto_region 1 with (fail)
  rw [← HW0.o]
  go_wp2_with (go_at_call 57; refine LACK.o.mono ?_; rintro e w1 ⟨A, n, cc, rfl, hr1, hb1⟩)
  have HR := As.mk hr1
  have hn1 : n = LL.length := hr1.1.symm
  have hnm := hr1.2.1
  have HB1 := As.mk hb1
  have y5 := (hb1.cell (p := ⟨w.heap.size, 5, none⟩) hlw).trans x5
  clear hr1 hb1 x0 x1 x2 x3 x4 x5
  have HN1 := As.mk hn1
  have hln : n ≤ 64 := by rw [hn1, HLL.o]; exact hl
  clear hn1
  go_loopw [6, 17] (fun a' i' wr => ∃ k : Nat, k ≤ n ∧ i' = .int .i64 k ∧ a' = .int .i64 (s0 + (LL.take k).sum) ∧ wr = w1) (fun _ i' _ => n - (intOf i').toNat)
  case atStart => exact ⟨0, Nat.zero_le _, rfl, by simp, rfl⟩
  case round =>
    obtain ⟨k, hk, rfl, rfl, rfl⟩ := hrel
    have hb := sum_bd (LL.take k) fun x hx => HBD.o x (List.mem_of_mem_take hx)
    have htl : (LL.take k).length ≤ 64 := by rw [List.length_take]; omega
    have hs0 := HS0.o
    by_cases hlt : k < n
    · obtain ⟨ad, rfl, _, _, p0⟩ := HR.o.int_at k hlt
      have hkl : k < LL.length := by rw [← HN1.o]; exact hlt
      have HS := As.mk (sum_take_succ LL k hkl)
      have hx := HBD.o (ig LL k) (by unfold ig; rw [List.getD_eq_getElem?_getD, List.getElem?_eq_getElem hkl]; exact List.getElem_mem hkl)
      generalize ig LL k = x at *
      generalize (LL.take k).sum = s1 at *
      have hwr : IntKind.i64.wrap (s0 + s1 + x) = s0 + s1 + x := IntWalk.i64_in _ (by omega)
      go_wp2
      go_roundw
      case rel => exact ⟨k + 1, by omega, by go_num, by rw [HS.o, Int.add_assoc], trivial⟩
      case measure => simp [intOf]; omega
    · have e : k = n := by omega
      subst e
      rw [List.take_of_length_le (by rw [HN1.o]; exact Nat.le_refl _)] at hb ⊢
      generalize LL.sum = s1 at *
      have hlt64 : (LL.length : Int) ≤ 64 := by rw [← HN1.o]; omega
      cases ix with
      | false =>
        have hwr : IntKind.i64.wrap (s0 + s1 + 1) = s0 + s1 + 1 := IntWalk.i64_in _ (by omega)
        go_wp2
        go_ret
        exact ⟨by rw [HMS.o]; rfl, bthen HB0.o HB1.o (Nat.le_refl _)⟩
      | true =>
        go_wp2
        go_ret
        exact ⟨by rw [HMS.o]; simp, bthen HB0.o HB1.o (Nat.le_refl _)⟩
end Go.Proofs.Ytlinhckgdfhppaa
namespace Go.Proofs.Ytlinhckgdfhppaa
open Go Go.RowKit Go.Proofs.YtlinhckgdfhppaaK
open Go.ChangeMaps (setBlock)

abbrev mval (m : BitVec 16) : Value := .int .u16 (m.toNat : Int)
abbrev eIdx (i : Nat) : Value := .int .i64 (i : Int)
/-- A piece added to the masks. -/
def giveP (nf : ByteArray → Option Nat) (ms : List (BitVec 16)) (p : Piece) : List (BitVec 16) :=
  match nf p.1 with
  | none => ms
  | some i => ms.set i (maskAt ms i ||| BitVec.twoPow 16 p.2.toNat)
def giveM (nf : ByteArray → Option Nat) (ms : List (BitVec 16)) (ps : List Piece) : List (BitVec 16) := ps.foldl (giveP nf) ms
theorem giveP_len (nf : ByteArray → Option Nat) (ms : List (BitVec 16)) (p : Piece) : (giveP nf ms p).length = ms.length := by
  unfold giveP
  split <;> simp
theorem giveM_len (nf : ByteArray → Option Nat) (ps : List Piece) : ∀ ms, (giveM nf ms ps).length = ms.length := by
  induction ps with
  | nil => exact fun _ => rfl
  | cons p ps ih => exact fun ms => (ih _).trans (giveP_len nf ms p)
theorem giveM_snoc (nf : ByteArray → Option Nat) (ms : List (BitVec 16)) (ps : List Piece) (k : Nat) (h : k < ps.length) : giveM nf ms (ps.take (k + 1)) = giveP nf (giveM nf ms (ps.take k)) (pg ps k) := by
  unfold giveM
  rw [List.take_succ_eq_append_getElem h, List.foldl_append, ← pg_eq ps k h]
  rfl
theorem giveP_none {nf : ByteArray → Option Nat} {ms : List (BitVec 16)} {p : Piece} (h : nf p.1 = none) : giveP nf ms p = ms := by simp [giveP, h]
theorem giveP_some {nf : ByteArray → Option Nat} {ms : List (BitVec 16)} {p : Piece} {i : Nat} (h : nf p.1 = some i) : giveP nf ms p = ms.set i (maskAt ms i ||| BitVec.twoPow 16 p.2.toNat) := by simp [giveP, h]
theorem zero_int (w : World) : (zeroValue 3).run Try.prog w = .ok (.int .i64 0) w := by go_simp

set_option maxRecDepth 100000 in
set_option maxHeartbeats 1000000 in
theorem give_any (pb mb sb so base : Nat) (cs : Array Value) (t : TypeId) (B : Option Addr) (n c : Nat) (ms : List (BitVec 16)) (f : Nat → BitVec 64) (ix : Bool) (nf : ByteArray → Option Nat) (h : Hold) (P : Option Addr) (cp : Nat) (S : Option Addr) (cS : Nat) (w : World)
    (h6 : w.cell? ⟨pb, 6, none⟩ = some (.map (some mb))) (hmap : MapAt w mb Value.string eIdx nf) (hnf : ∀ s i, nf s = some i → i < n)
    (hs : w.heap[sb]? = some (.cells cs t (0, 0))) (hs0 : cs[so]? = some (.slice B n c)) (hsw : WordsAt cs (so + 1) f) (hsi : cs[so + 5]? = some (.bool ix))
    (hown : w.ownsRow base 110 1 (.slice B n c) n (ms.map mval)) (hml : ms.length = n) (hg : ∀ g, (Value.slice B n c).ownBlock = some g → g ≠ sb ∧ g ≠ pb ∧ g ≠ mb)
    (hP : Row kPiece w (fun k => (Value.slice B n c).ownBlock ≠ some k) P h.pieces.length h.pieces) (hp : ∀ p ∈ h.pieces, 0 ≤ p.2 ∧ p.2 < 16)
    (hS : Row (Kn.int .i64) w (fun k => (Value.slice B n c).ownBlock ≠ some k ∧ k ≠ sb) S h.shares.length h.shares) (hx : ∀ x ∈ h.shares, 1 ≤ x ∧ x ≤ 255) :
    Calls Try.prog 73 #[.pointer (some ⟨pb, 0, none⟩), .pointer (some ⟨sb, so, none⟩), .agg #[.int .i64 h.dev, .slice P h.pieces.length cp, .slice S h.shares.length cS, .bool h.index]] w fun e w' =>
      e = .returned (.tuple #[]) ∧ w'.ownsRow base 110 1 (.slice B n c) n ((giveM nf ms h.pieces).map mval) ∧
        (∃ cs', w'.heap[sb]? = some (.cells cs' t (0, 0)) ∧ cs'.size = cs.size ∧ (∀ j, j < so + 1 ∨ so + 6 ≤ j → cs'[j]? = cs[j]?) ∧ WordsAt cs' (so + 1) (addWs f h.shares) ∧ cs'[so + 5]? = some (.bool (ix || h.index))) ∧
        w'.os = w.os ∧ w'.tape = w.tape ∧ w'.output = w.output ∧ w.heap.size ≤ w'.heap.size ∧ ∀ k, k < w.heap.size → k ≠ sb → (Value.slice B n c).ownBlock ≠ some k → w'.heap[k]? = w.heap[k]? := by
  have hm1 := hP.2.1
  have hm2 := hS.2.1
  have hpb := World.block_lt_of_cell? w _ h6
  have hsb := blk_lt hs
  have hmb := hmap.lt
  have HP := As.mk hP
  have HS := As.mk hS
  have HPV := As.mk hp
  have HXV := As.mk hx
  have HG := As.mk hg
  have HNF := As.mk hnf
  obtain ⟨w0, hw0⟩ : ∃ w0 : World, w0 = w.alloc (.cells #[.int .i64 h.dev, .slice P h.pieces.length cp, .slice S h.shares.length cS, .bool h.index] 78) := ⟨_, rfl⟩
  have HB0 : As (Below w.heap.size w w0) := ⟨by rw [hw0]; exact (Below.refl w.heap.size w).alloc (Nat.le_refl _) _⟩
  have HX : As (w0.heap[w.heap.size]? = some (.cells #[.int .i64 h.dev, .slice P h.pieces.length cp, .slice S h.shares.length cS, .bool h.index] 78 (0, 0))) := ⟨by rw [hw0]; exact heap_alloc_new w _⟩
  have hlw := blk_lt HX.o
  have HOWN : As (w0.ownsRow base 110 1 (.slice B n c) n (ms.map mval)) := ⟨by rw [hw0]; exact hown.alloc _⟩
  have hgl := hown.lt
  have HGL := As.mk hgl
  have HW0 := As.mk hw0
  have HMAP : As (MapAt w0 mb Value.string eIdx nf) := ⟨hmap.below HB0.o hmb⟩
  have HSB : As (w0.heap[sb]? = some (.cells cs t (0, 0))) := ⟨(HB0.o.block _ hsb).trans hs⟩
  have H6 : As (w0.cell? ⟨pb, 6, none⟩ = some (.map (some mb))) := ⟨(HB0.o.cell (p := ⟨pb, 6, none⟩) hpb).trans h6⟩
  have x1 : w0.cell? ⟨w.heap.size, 1, none⟩ = some (.slice P h.pieces.length cp) := (cell_of_row _ _ 1 _ _ _ HX.o).trans rfl
  clear hw0 hP hS hp hx hg hnf h6 hmap hown hgl
  go_enter Try.func73, Try.ntmps73
  go_upto_region 1 with (fail)
  rw [← HW0.o]
  go_wp2
  go_loopw [13] (fun i' wr => ∃ k : Nat, k ≤ h.pieces.length ∧ i' = .int .i64 k ∧ As (wr.ownsRow base 110 1 (.slice B n c) n ((giveM nf ms (h.pieces.take k)).map mval)) ∧ As (w0.grownBy wr ((Value.slice B n c).ownBlock))) (fun i' _ => h.pieces.length - (intOf i').toNat)
  case atStart => exact ⟨0, Nat.zero_le _, rfl, HOWN, ⟨⟨rfl, rfl, rfl, Nat.le_refl _, fun _ _ _ => rfl⟩⟩⟩
  case round =>
    obtain ⟨k, hk, rfl, HO, HGR⟩ := hrel
    have hsz := HGR.o.size
    have hw01 : w0.heap.size = w.heap.size + 1 := by rw [HW0.o]; simp
    by_cases hlt : k < h.pieces.length
    · obtain ⟨ad, e1, ho1, hl1, p0, p1⟩ := rowPiece (((HP.o.bound.below HB0.o).step fun j hj hjl => HGR.o.block j hjl (fun e => hj.1 e.symm))) k hlt
      subst e1
      have HSN := As.mk (giveM_snoc nf ms h.pieces k hlt)
      have hpv := HPV.o (pg h.pieces k) (by rw [pg_eq _ _ hlt]; exact List.getElem_mem hlt)
      have hGM : (giveM nf ms (h.pieces.take k)).length = n := (giveM_len nf _ ms).trans hml
      have z6 : wr.cell? ⟨pb, 6, none⟩ = some (.map (some mb)) := (World.cell?_of_block (HGR.o.block pb (by omega) (fun e => (HG.o pb e.symm).2.1 rfl))).trans H6.o
      have hpbr : pb < wr.heap.size := by omega
      have HMR : As (MapAt wr mb Value.string eIdx nf) := ⟨HMAP.o.move (HGR.o.block mb (by omega) (fun e => (HG.o mb e.symm).2.2 rfl))⟩
      have hmr := HMR.o.lt
      generalize giveM nf ms (h.pieces.take k) = mk at *
      generalize pg h.pieces k = y at *
      have LK := As.mk fun q => (HMR.o.move (w' := (wr.alloc (.cells #[.string y.1, .int .i64 y.2] 52)).drewN q) (Below.heap_alloc wr _ mb hmr)).look (string_key Try.underlying9) Try.underlying88 (zero_int _) y.1 true
      cases hnfy : nf y.1 with
      | none =>
        have HSN2 : As (giveM nf ms (h.pieces.take (k + 1)) = mk) := ⟨HSN.o.trans (giveP_none hnfy)⟩
        have LK2 : ∀ q, (Instr.lookup 88 (.map (some mb)) (.string y.1) true).run Try.prog ((wr.alloc (.cells #[.string y.1, .int .i64 y.2] 52)).drewN q) = .ok (.tuple #[.int .i64 0, .bool false]) ((wr.alloc (.cells #[.string y.1, .int .i64 y.2] 52)).drewN q) := fun q => by
          have := LK.o q
          rw [hnfy] at this
          exact this
        clear hnfy LK
        go_wp2
        go_quiet (fail)
        go_wp2
        go_roundw
        case rel =>
          refine ⟨k + 1, by omega, by go_num, ⟨by rw [HSN2.o]; exact HO.o.alloc _⟩, ⟨?_⟩⟩
          exact ⟨HGR.o.os, HGR.o.tape, HGR.o.output, Nat.le_trans HGR.o.size (by simp [World.drewN]), fun j hj hne => (Below.heap_alloc wr _ j (by omega)).trans (HGR.o.block j hj hne)⟩
        case measure => simp [intOf]; omega
      | some i =>
        have HSN2 : As (giveM nf ms (h.pieces.take (k + 1)) = mk.set i (maskAt mk i ||| BitVec.twoPow 16 y.2.toNat)) := ⟨HSN.o.trans (giveP_some hnfy)⟩
        have LK2 : ∀ q, (Instr.lookup 88 (.map (some mb)) (.string y.1) true).run Try.prog ((wr.alloc (.cells #[.string y.1, .int .i64 y.2] 52)).drewN q) = .ok (.tuple #[.int .i64 (i : Int), .bool true]) ((wr.alloc (.cells #[.string y.1, .int .i64 y.2] 52)).drewN q) := fun q => by
          have := LK.o q
          rw [hnfy] at this
          exact this
        have hin := HNF.o _ _ hnfy
        clear hnfy LK
        obtain ⟨g, hBg⟩ : ∃ g, B = some ⟨g, 0, none⟩ := by
          rcases HO.o.2 with ⟨_, hn0⟩ | ⟨g, cap, cur, hv, _⟩
          · omega
          · injection hv with hv
            exact ⟨g, hv⟩
        subst hBg
        have hgs := HG.o g rfl
        have hgr : g < wr.heap.size := (HO.o.lt g rfl).2
        have hsbr : wr.heap[sb]? = some (.cells cs t (0, 0)) := (HGR.o.block sb (by omega) (fun e => hgs.1 (by simpa [Value.ownBlock] using e.symm))).trans HSB.o
        have c0 : wr.cell? ⟨sb, so, none⟩ = some (.slice (some ⟨g, 0, none⟩) n c) := (cell_of_row _ _ _ _ _ _ hsbr).trans hs0
        have HSBR := As.mk hsbr
        have hsbl : sb < wr.heap.size := blk_lt hsbr
        clear hsbr
        have cg : wr.cell? ⟨g, i, none⟩ = some (.int .u16 ((maskAt mk i).toNat : Int)) := (HO.o.cellAt i (by omega)).trans (by
          rw [List.getElem?_map, List.getElem?_eq_getElem (by omega)]
          simp [maskAt, List.getD_eq_getElem?_getD, List.getElem?_eq_getElem (show i < mk.length by omega)])
        have fg : wr.frozen? ⟨g, i, none⟩ = false := HO.o.frozenAt i
        have hal : (⟨g, 0, none⟩ : Addr).add i = ⟨g, i, none⟩ := add_lit0 _ _
        have sh := shl_u16 y.2 hpv.1 hpv.2
        have hwr := wrap_u16 (BitVec.twoPow 16 y.2.toNat)
        have hor := or_u16 (maskAt mk i) (BitVec.twoPow 16 y.2.toNat)
        have hy0 := hpv.1
        have hy1 : y.2 ≤ 16 := by omega
        have hi0 : (0 : Int) ≤ (i : Int) := by omega
        have hi1 : (i : Int) < (n : Int) := by omega
        generalize BitVec.twoPow 16 y.2.toNat = T at *
        generalize maskAt mk i = mi at *
        go_wp2
        go_quiet (fail)
        have HO2 : As (((wr.alloc (.cells #[.string y.1, .int .i64 y.2] 52)).drewN nq).ownsRow base 110 1 (.slice (some ⟨g, 0, none⟩) n c) n (mk.map mval)) := ⟨HO.o.alloc _⟩
        have HG2 : As (w0.grownBy ((wr.alloc (.cells #[.string y.1, .int .i64 y.2] 52)).drewN nq) (some g)) := ⟨⟨HGR.o.os, HGR.o.tape, HGR.o.output, Nat.le_trans HGR.o.size (by simp [World.drewN]), fun j hj hne => (Below.heap_alloc wr _ j (by omega)).trans (HGR.o.block j hj hne)⟩⟩
        have d0 : ((wr.alloc (.cells #[.string y.1, .int .i64 y.2] 52)).drewN nq).cell? ⟨sb, so, none⟩ = some (.slice (some ⟨g, 0, none⟩) n c) := (World.cell?_of_block (w := wr) (Below.heap_alloc wr _ sb hsbl)).trans c0
        have dg : ((wr.alloc (.cells #[.string y.1, .int .i64 y.2] 52)).drewN nq).cell? ⟨g, i, none⟩ = some (.int .u16 (mi.toNat : Int)) := (World.cell?_of_block (w := wr) (Below.heap_alloc wr _ g hgr)).trans cg
        have df : ((wr.alloc (.cells #[.string y.1, .int .i64 y.2] 52)).drewN nq).frozen? ⟨g, i, none⟩ = false := (World.frozen?_of_block (w := wr) (Below.heap_alloc wr _ g hgr)).trans fg
        have dp : ((wr.alloc (.cells #[.string y.1, .int .i64 y.2] 52)).drewN nq).cell? ⟨wr.heap.size, 1, none⟩ = some (.int .i64 y.2) := (cell_of_row (wr.alloc (.cells #[.string y.1, .int .i64 y.2] 52)) wr.heap.size 1 _ _ _ (heap_alloc_new wr _)).trans rfl
        generalize (wr.alloc (.cells #[.string y.1, .int .i64 y.2] 52)).drewN nq = W1 at *
        go_wp2
        refine wp_region_drew_tail 12 (by kernel_rfl) (by kernel_rfl) ?_
        simp only [List.take_succ_cons, List.take_zero, List.drop_succ_cons, List.drop_zero]
        repeat (go_big_quiet_step (fail))
        refine wpQuiet_nil ?_
        rintro _ ⟨q2, rfl⟩
        go_wp2
        go_roundw
        case rel =>
          have HST := HO2.o.stored i (.int .u16 ((mi.toNat ||| T.toNat : Nat) : Int))
          refine ⟨k + 1, by omega, by go_num, ⟨?_⟩, ⟨?_⟩⟩
          · rw [HSN2.o, List.map_set, show mval (mi ||| T) = .int .u16 ((mi.toNat ||| T.toNat : Nat) : Int) by simp [mval, BitVec.toNat_or]]
            exact HST.1
          · exact ⟨HG2.o.os, HG2.o.tape, HG2.o.output, Nat.le_trans HG2.o.size HST.2.size, fun j hj hne => (HST.2.block j (Nat.lt_of_lt_of_le hj HG2.o.size) hne).trans (HG2.o.block j hj hne)⟩
        case measure => simp [intOf]; omega
    · have e : k = h.pieces.length := by omega
      subst e
      rw [List.take_of_length_le (Nat.le_refl _)] at HO
      have hnb : ∀ j, w.heap.size ≤ j → some j ≠ (Value.slice B n c).ownBlock := fun j hj e => by have := (HGL.o j e.symm).2; omega
      have hnsb : some sb ≠ (Value.slice B n c).ownBlock := fun e => (HG.o sb e.symm).1 rfl
      have HSBR : As (wr.heap[sb]? = some (.cells cs t (0, 0))) := ⟨(HGR.o.block sb (by omega) hnsb).trans HSB.o⟩
      have HBOX : As (wr.heap[w.heap.size]? = some (.cells #[.int .i64 h.dev, .slice P h.pieces.length cp, .slice S h.shares.length cS, .bool h.index] 78 (0, 0))) := ⟨(HGR.o.block _ hlw (hnb _ (Nat.le_refl _))).trans HX.o⟩
      have hlwr := blk_lt HBOX.o
      have hsbr := blk_lt HSBR.o
      have y2 : wr.cell? ⟨w.heap.size, 2, none⟩ = some (.slice S h.shares.length cS) := (cell_of_row _ _ 2 _ _ _ HBOX.o).trans rfl
      have HSS := As.mk ((HS.o.bound.below HB0.o).step fun j hj hjl => HGR.o.block j hjl (fun e => hj.1.1 e.symm))
      go_wp2
      refine wp_region_drew_tail 5 (by kernel_rfl) (by kernel_rfl) ?_
      simp only [List.take_succ_cons, List.take_zero, List.drop_succ_cons, List.drop_zero]
      repeat (go_big_quiet_step (fail))
      refine wpQuiet_nil ?_
      rintro _ ⟨q, rfl⟩
      have FIN : As (∀ (w5 : World) (cs5 : Array Value) (r : Bool), (wr.drewN q).grownBy w5 (some sb) → w5.heap[sb]? = some (.cells cs5 t (0, 0)) → WordsAt cs5 (so + 1) (addWs f h.shares) → WordsOnly cs cs5 (so + 1) → ∀ W : World, W = w5.setCell ⟨sb, so + 5, none⟩ (.bool r) → r = (ix || h.index) →
          Ending.returned (.tuple #[]) = .returned (.tuple #[]) ∧ W.ownsRow base 110 1 (.slice B n c) n ((giveM nf ms h.pieces).map mval) ∧
          (∃ cs', W.heap[sb]? = some (.cells cs' t (0, 0)) ∧ cs'.size = cs.size ∧ (∀ j, j < so + 1 ∨ so + 6 ≤ j → cs'[j]? = cs[j]?) ∧ WordsAt cs' (so + 1) (addWs f h.shares) ∧ cs'[so + 5]? = some (.bool (ix || h.index))) ∧
          W.os = w.os ∧ W.tape = w.tape ∧ W.output = w.output ∧ w.heap.size ≤ W.heap.size ∧ ∀ k, k < w.heap.size → k ≠ sb → (Value.slice B n c).ownBlock ≠ some k → W.heap[k]? = w.heap[k]?) := ⟨by
        rintro w5 cs5 r hg5 hb5 hw5 ho5 W rfl hr
        have hgs : w5.grownBy (w5.setCell ⟨sb, so + 5, none⟩ (.bool r)) (some sb) := grownBy_set w5 ⟨sb, so + 5, none⟩ (.bool r)
        have hne : (Value.slice B n c).ownBlock = none ∨ (Value.slice B n c).ownBlock ≠ some sb := .inr fun e => hnsb e.symm
        have h5i : so + 5 < cs5.size := by
          rw [ho5.size]
          exact (Array.getElem?_eq_some_iff.1 hsi).1
        have HOD : (wr.drewN q).ownsRow base 110 1 (.slice B n c) n ((giveM nf ms h.pieces).map mval) := HO.o
        refine ⟨rfl, (HOD.kept hg5 hne).kept hgs hne, ⟨cs5.setIfInBounds (so + 5) (.bool r), blk_set hb5 _, by simp [ho5.size], fun j hj => ?_, ⟨fun j hj => ?_⟩, ?_⟩, ?_, ?_, ?_, ?_, fun k hk h1 h2 => ?_⟩
        · rw [Array.getElem?_setIfInBounds_ne (by omega)]
          exact ho5.far j (by omega)
        · rw [Array.getElem?_setIfInBounds_ne (by omega)]
          exact hw5.at_ j hj
        · rw [Array.getElem?_setIfInBounds_self_of_lt h5i, hr]
        · exact hgs.os.trans (hg5.os.trans (HGR.o.os.trans HB0.o.os))
        · exact hgs.tape.trans (hg5.tape.trans (HGR.o.tape.trans HB0.o.tape))
        · exact hgs.output.trans (hg5.output.trans (HGR.o.output.trans HB0.o.output))
        · exact Nat.le_trans (show w.heap.size ≤ wr.heap.size by omega) (Nat.le_trans hg5.size hgs.size)
        · have hkr : k < (wr.drewN q).heap.size := (by omega : k < wr.heap.size)
          exact (hgs.block k (Nat.lt_of_lt_of_le hkr hg5.size) (fun e => h1 (by injection e))).trans ((hg5.block k hkr (fun e => h1 (by injection e))).trans ((HGR.o.block k (by omega) (fun e => h2 e.symm)).trans (HB0.o.block k hk)))⟩
      cases ix with
      | true =>
        go_wp2_with (go_at_call 86; refine (add_any sb (so + 1) cs t S h.shares.length cS h.shares f (wr.drewN q) HSBR.o hsw (HSS.o.mono fun j hj => hj.1.2) HXV.o).mono ?_; rintro e w5 ⟨rfl, hg5, cs5, hb5, hw5, ho5⟩; have i5 : w5.cell? ⟨sb, so + 5, none⟩ = some (.bool true) := (cell_of_row _ _ _ _ _ _ hb5).trans ((ho5.far _ (.inr (by omega))).trans hsi); have q3 : w5.cell? ⟨w.heap.size, 3, none⟩ = some (.bool h.index) := (World.cell?_of_block (hg5.block w.heap.size hlwr (by simp; omega))).trans ((cell_of_row wr _ 3 _ _ _ HBOX.o).trans rfl); have f5 : w5.frozen? ⟨sb, so + 5, none⟩ = false := blk_frozen hb5)
        go_end0
        exact ⟨rfl, (FIN.o _ _ (true || h.index) hg5 hb5 hw5 ho5 _ rfl rfl).2⟩
      | false =>
        go_wp2_with (go_at_call 86; refine (add_any sb (so + 1) cs t S h.shares.length cS h.shares f (wr.drewN q) HSBR.o hsw (HSS.o.mono fun j hj => hj.1.2) HXV.o).mono ?_; rintro e w5 ⟨rfl, hg5, cs5, hb5, hw5, ho5⟩; have i5 : w5.cell? ⟨sb, so + 5, none⟩ = some (.bool false) := (cell_of_row _ _ _ _ _ _ hb5).trans ((ho5.far _ (.inr (by omega))).trans hsi); have q3 : w5.cell? ⟨w.heap.size, 3, none⟩ = some (.bool h.index) := (World.cell?_of_block (hg5.block w.heap.size hlwr (by simp; omega))).trans ((cell_of_row wr _ 3 _ _ _ HBOX.o).trans rfl); have f5 : w5.frozen? ⟨sb, so + 5, none⟩ = false := blk_frozen hb5)
        go_end0
        exact ⟨rfl, (FIN.o _ _ (false || h.index) hg5 hb5 hw5 ho5 _ rfl rfl).2⟩
end Go.Proofs.Ytlinhckgdfhppaa
namespace Go.Proofs.Ytlinhckgdfhppaa
open Go Go.RowKit Go.Proofs.YtlinhckgdfhppaaK

/-- The devices of the set s among the first k holdings. -/
def pickTo (list : List Hold) (s : Nat) : Nat → List Int
  | 0 => []
  | k + 1 => if s.testBit k = true then pickTo list s k ++ [(hgt list k).dev] else pickTo list s k
theorem pickTo_len (list : List Hold) (s : Nat) : ∀ k, (pickTo list s k).length ≤ k
  | 0 => Nat.le_refl _
  | k + 1 => by
    have := pickTo_len list s k
    rw [pickTo]
    split
    · rw [List.length_append, List.length_singleton]; omega
    · omega
theorem bit_u64 (s k : Nat) (hs : s < 18446744073709551616) : bits .and .u64 ((s : Int) / 2 ^ k) 1 = if s.testBit k = true then 1 else 0 := by
  have h := and_u64 (s / 2 ^ k) 1 (Nat.lt_of_le_of_lt (Nat.div_le_self _ _) hs)
  have e : ((s / 2 ^ k : Nat) : Int) = (s : Int) / 2 ^ k := by simp
  rw [e] at h
  refine (show bits .and .u64 ((s : Int) / 2 ^ k) 1 = bits .and .u64 ((s : Int) / 2 ^ k) ((1 : Nat) : Int) from rfl).trans (h.trans ?_)
  rw [Nat.and_one_is_mod, Nat.testBit_eq_decide_div_mod_eq]
  by_cases h1 : s / 2 ^ k % 2 = 1
  · simp [h1]
  · simp [h1]
    omega
set_option maxRecDepth 100000 in
set_option maxHeartbeats 1000000 in
theorem setAll_any (pb : Nat) (A : Option Addr) (n c : Nat) (w : World) (h5 : w.cell? ⟨pb, 5, none⟩ = some (.slice A n c)) (hn : n ≤ 12) :
    Calls Try.prog 60 #[.pointer (some ⟨pb, 0, none⟩)] w fun e w' => e = .returned (.int .u64 ((2 ^ n - 1 : Nat) : Int)) ∧ w = w' := by
  have h1 : 2 ^ n ≤ 2 ^ 12 := Nat.pow_le_pow_right (by omega) hn
  have h0 : 0 < 2 ^ n := Nat.pow_pos (by omega)
  have e1 : (2 : Int) ^ n = ((2 ^ n : Nat) : Int) := by simp
  have e2 : IntKind.u64.wrap (2 ^ n) = ((2 ^ n : Nat) : Int) := by rw [e1]; exact wrap64 (2 ^ n) (by omega)
  have e3 : IntKind.u64.wrap (((2 ^ n : Nat) : Int) - 1) = ((2 ^ n - 1 : Nat) : Int) := by
    rw [show ((2 ^ n : Nat) : Int) - 1 = ((2 ^ n - 1 : Nat) : Int) by omega]
    exact wrap64 _ (by omega)
  generalize 2 ^ n - 1 = r at *
  have hni : (n : Int) ≤ 64 := by omega
  generalize 2 ^ n = p at *
  go_enter Try.func60, Try.ntmps60
  go_wp2
  go_ret
  exact ⟨rfl, rfl⟩
set_option maxRecDepth 100000 in
set_option maxHeartbeats 1000000 in
theorem pick_any (pb : Nat) (A : Option Addr) (n c : Nat) (list : List Hold) (s : Nat) (ok : Nat → Prop) (w : World) (h5 : w.cell? ⟨pb, 5, none⟩ = some (.slice A n c)) (hR : Row kHold w ok A n list) (hn : n ≤ 12) (hs : s < 18446744073709551616) :
    Calls Try.prog 37 #[.pointer (some ⟨pb, 0, none⟩), .int .u64 (s : Int)] w fun e w' => ∃ v, e = .returned v ∧ Own (Kn.int .i64) 3 w' w.heap.size v (pickTo list s n) ∧ Below w.heap.size w w' := by
  have HR := As.mk hR
  clear hR
  go_enter Try.func37, Try.ntmps37
  go_wp2
  go_loopw [5, 13] (fun v i' wr => ∃ k : Nat, k ≤ n ∧ i' = .int .i64 k ∧ As (Own (Kn.int .i64) 3 wr w.heap.size v (pickTo list s k)) ∧ (Below w.heap.size w wr)) (fun _ i' _ => n - (intOf i').toNat)
  case atStart => exact ⟨0, Nat.zero_le _, rfl, ⟨Own.nil _ _ _ _⟩, Below.refl _ _⟩
  case round =>
    obtain ⟨k, hk, rfl, HO, hb⟩ := hrel
    by_cases hlt : k < n
    · obtain ⟨ad, A1, c1, A2, c2, e1, _, hla, p0, p1, p2, p3, _⟩ := rowHold (HR.o.below hb) k hlt
      subst e1
      have HS := As.mk (show pickTo list s (k + 1) = if s.testBit k = true then pickTo list s k ++ [(hgt list k).dev] else pickTo list s k from rfl)
      have HL := pickTo_len list s k
      have hki : (k : Int) ≤ 64 := by omega
      have hk0 : (0 : Int) ≤ (k : Int) := by omega
      have hbit := bit_u64 s k hs
      have hsz := hb.size
      have HB := As.mk hb
      generalize hgt list k = y at *
      by_cases ht : s.testBit k = true
      · rw [if_pos ht] at hbit HS
        clear ht
        have HO1 := As.mk (HO.o.below ((Below.refl wr.heap.size wr).alloc (Nat.le_refl _) (.cells #[.int .i64 y.dev, .slice A1 y.pieces.length c1, .slice A2 y.shares.length c2, .bool y.index] 78)))
        go_wp2_with (at_builtin; refine app_one (Kn.int .i64) w.heap.size rfl (.tmp 23) (.tmp 26) 24 (.int .i64 0) 8 rfl Try.underlying24 info_int rfl (by decide) u5 _ y.dev _ rfl (by show Value.slice _ _ _ = _; simp) HO1.o rfl (by simp; omega) (by omega) (by omega) ?_; intro v1 w1 HO2 hg hat)
        go_roundw
        case rel =>
          refine ⟨k + 1, by omega, by go_num, ⟨by rw [HS.o]; exact HO2⟩, ?_⟩
          exact (HB.o.alloc (by omega) _).trans (HO1.o.base_le hg (Nat.le_refl _) (by simp; omega))
        case measure => simp [intOf]; omega
      · rw [if_neg ht] at hbit HS
        go_wp2
        go_roundw
        case rel => exact ⟨k + 1, by omega, by go_num, ⟨by rw [HS.o]; exact HO.o.below ((Below.refl wr.heap.size wr).alloc (Nat.le_refl _) _)⟩, HB.o.alloc (by omega) _⟩
        case measure => simp [intOf]; omega
    · have e : k = n := by omega
      subst e
      go_wp2
      go_ret
      exact ⟨_, rfl, HO.o, hb⟩
end Go.Proofs.Ytlinhckgdfhppaa
namespace Go.Proofs.Ytlinhckgdfhppaa
open Go Go.RowKit Go.Proofs.YtlinhckgdfhppaaK

set_option maxHeartbeats 400000 in
theorem libIndex_any (A : Option Addr) (n c : Nat) (ok : Nat → Prop) (xs : List Int) (x : Int) (w : World) (h : Row (Kn.int .i64) w ok A n xs) :
    Calls Try.prog 87 #[.slice A n c, .int .i64 x] w fun e w' => (∃ r : Int, e = .returned (.int .i64 r) ∧ (0 ≤ r ↔ x ∈ xs)) ∧ w = w' := by
  have hm := h.2.1
  have HL := As.mk h.1
  go_enter Try.func87, Try.ntmps87
  go_wp2
  go_loop [8] (fun i => ∃ k : Nat, k ≤ n ∧ i = .int .i64 k ∧ As (x ∉ xs.take k)) (fun i => n - (intOf i).toNat)
  case atStart => exact ⟨0, Nat.zero_le _, rfl, ⟨by simp⟩⟩
  case round =>
    obtain ⟨k, hk, rfl, hne⟩ := hrel
    by_cases hlt : k < n
    · obtain ⟨ad, rfl, _, _, hcell⟩ := h.int_at k hlt
      have HS := As.mk (ints_snoc (x := x) (show k < xs.length by rw [HL.o]; exact hlt))
      by_cases hx : x = ig xs k
      · have hb : (x == ig xs k) = true := beq_iff_eq.2 hx
        have HX := As.mk hx
        clear hx
        go_wp2
        go_ret
        exact ⟨⟨(k : Int), rfl, fun _ => List.mem_of_mem_take (HS.o.2 (.inr HX.o.symm)), fun _ => by omega⟩, rfl⟩
      · have hb : (x == ig xs k) = false := beq_eq_false_iff_ne.2 hx
        go_wp2
        go_round
        case rel => exact ⟨k + 1, by omega, by go_num, ⟨fun hc => (HS.o.1 hc).elim hne.o fun e => hx e.symm⟩⟩
        case measure => simp [intOf]; omega
    · go_wp2
      go_ret
      have : xs.take k = xs := List.take_of_length_le (by rw [HL.o]; omega)
      refine ⟨⟨-1, rfl, fun h => absurd h (by decide), fun h => absurd h (by rw [← this]; exact hne.o)⟩, rfl⟩
set_option maxHeartbeats 400000 in
theorem libContains_any (A : Option Addr) (n c : Nat) (ok : Nat → Prop) (xs : List Int) (x : Int) (w : World) (h : Row (Kn.int .i64) w ok A n xs) :
    Calls Try.prog 76 #[.slice A n c, .int .i64 x] w fun e w' => e = .returned (.bool (decide (x ∈ xs))) ∧ w = w' := by
  have IDX := As.mk (libIndex_any A n c ok xs x w h)
  clear h
  go_enter Try.func76, Try.ntmps76
  go_wp2_with (go_at_call 87; refine IDX.o.mono ?_; rintro e w1 ⟨⟨r, rfl, hr⟩, rfl⟩)
  go_ret
  exact ⟨by rw [show decide (x ∈ xs) = decide (0 ≤ r) from decide_eq_decide.2 hr.symm]; rfl, rfl⟩

/-- The set of the devices among the first k holdings. -/
def setTo (list : List Hold) (devs : List Int) : Nat → Nat
  | 0 => 0
  | k + 1 => if (hgt list k).dev ∈ devs then setTo list devs k ||| 2 ^ k else setTo list devs k
theorem setTo_lt (list : List Hold) (devs : List Int) : ∀ k, setTo list devs k < 2 ^ k
  | 0 => by simp [setTo]
  | k + 1 => by
    have h := setTo_lt list devs k
    have h2 : 2 ^ k < 2 ^ (k + 1) := Nat.pow_lt_pow_right (by omega) (by omega)
    rw [setTo]
    split
    · exact Nat.or_lt_two_pow (by omega) h2
    · omega
theorem or_nat64 (a b : Nat) (ha : a < 18446744073709551616) (hb : b < 18446744073709551616) : bits .or .u64 (a : Int) (b : Int) = ((a ||| b : Nat) : Int) := by
  have h := or_u64 (BitVec.ofNat 64 a) (BitVec.ofNat 64 b)
  rw [BitVec.toNat_or, BitVec.toNat_ofNat, BitVec.toNat_ofNat, Nat.mod_eq_of_lt ha, Nat.mod_eq_of_lt hb] at h
  exact h
set_option maxRecDepth 100000 in
set_option maxHeartbeats 1000000 in
theorem toSet_any (pb : Nat) (A : Option Addr) (n c : Nat) (list : List Hold) (B : Option Addr) (nd cd : Nat) (devs : List Int) (ok : Nat → Prop) (w : World) (h5 : w.cell? ⟨pb, 5, none⟩ = some (.slice A n c)) (hR : Row kHold w ok A n list) (hD : Row (Kn.int .i64) w ok B nd devs) (hn : n ≤ 12) :
    Calls Try.prog 55 #[.pointer (some ⟨pb, 0, none⟩), .slice B nd cd] w fun e w' => e = .returned (.int .u64 (setTo list devs n : Nat)) ∧ Below w.heap.size w w' := by
  have HR := As.mk hR
  have CON : As (∀ (W : World) (x : Int), Below w.heap.size w W → Calls Try.prog 76 #[.slice B nd cd, .int .i64 x] W fun e w' => e = .returned (.bool (decide (x ∈ devs))) ∧ W = w') := ⟨fun W x hW => libContains_any _ _ _ _ _ _ _ (hD.below hW)⟩
  clear hR hD
  go_enter Try.func55, Try.ntmps55
  go_wp2
  go_loopw [5, 13] (fun v i' wr => ∃ k : Nat, k ≤ n ∧ i' = .int .i64 k ∧ v = .int .u64 (setTo list devs k : Nat) ∧ (Below w.heap.size w wr)) (fun _ i' _ => n - (intOf i').toNat)
  case atStart => exact ⟨0, Nat.zero_le _, rfl, rfl, Below.refl _ _⟩
  case round =>
    obtain ⟨k, hk, rfl, rfl, hb⟩ := hrel
    by_cases hlt : k < n
    · obtain ⟨ad, A1, c1, A2, c2, e1, _, hla, p0, p1, p2, p3, _⟩ := rowHold (HR.o.below hb) k hlt
      subst e1
      have HS := As.mk (show setTo list devs (k + 1) = if (hgt list k).dev ∈ devs then setTo list devs k ||| 2 ^ k else setTo list devs k from rfl)
      have hki : (k : Int) ≤ 64 := by omega
      have hk0 : (0 : Int) ≤ (k : Int) := by omega
      have hsz := hb.size
      have HB := As.mk hb
      have h12 : 2 ^ k ≤ 2 ^ 12 := Nat.pow_le_pow_right (by omega) (by omega)
      have hsl : setTo list devs k < 2 ^ 12 := Nat.lt_of_lt_of_le (setTo_lt list devs k) h12
      have e1 : (2 : Int) ^ k = ((2 ^ k : Nat) : Int) := by simp
      have e2 : IntKind.u64.wrap (2 ^ k) = ((2 ^ k : Nat) : Int) := by rw [e1]; exact wrap64 (2 ^ k) (by omega)
      have e3 := or_nat64 (setTo list devs k) (2 ^ k) (by omega) (by omega)
      generalize hgt list k = y at *
      generalize setTo list devs k = s at *
      generalize 2 ^ k = p at *
      have CON2 : As (∀ (W : World), Below w.heap.size w W → Calls Try.prog 76 #[.slice B nd cd, .int .i64 y.dev] W fun e w' => e = .returned (.bool (decide (y.dev ∈ devs))) ∧ W = w') := ⟨fun W hW => CON.o W y.dev hW⟩
      by_cases ht : y.dev ∈ devs
      · rw [if_pos ht] at HS
        rw [decide_eq_true ht] at CON2
        clear ht
        go_wp2_with (go_at_call 76; refine (CON2.o _ (HB.o.alloc hsz _)).mono ?_; rintro e w5 ⟨rfl, rfl⟩)
        go_roundw
        case rel => exact ⟨k + 1, by omega, by go_num, by rw [HS.o], HB.o.alloc hsz _⟩
        case measure => simp [intOf]; omega
      · rw [if_neg ht] at HS
        rw [decide_eq_false ht] at CON2
        clear ht
        go_wp2_with (go_at_call 76; refine (CON2.o _ (HB.o.alloc hsz _)).mono ?_; rintro e w5 ⟨rfl, rfl⟩)
        go_roundw
        case rel => exact ⟨k + 1, by omega, by go_num, by rw [HS.o], HB.o.alloc hsz _⟩
        case measure => simp [intOf]; omega
    · have e : k = n := by omega
      subst e
      go_wp2
      go_ret
      exact ⟨rfl, hb⟩
end Go.Proofs.Ytlinhckgdfhppaa
namespace Go.Proofs.Ytlinhckgdfhppaa
open Go Go.RowKit Go.Proofs.YtlinhckgdfhppaaK

theorem info_u16 : (Try.prog.info? 110).map (fun i => (i.zero, i.size, i.bytes)) = some (some (.int .u16 0), 1, 2) := by kernel_rfl
theorem info_holding : (Try.prog.info? 78).map (fun i => (i.zero, i.size, i.bytes)) = some (some (.agg #[(.int .i64 0), (.slice none 0 0), (.slice none 0 0), (.bool false)]), 4, 64) := by kernel_rfl
set_option maxHeartbeats 400000 in
theorem clone16_any (A : Option Addr) (n c : Nat) (ok : Nat → Prop) (ms : List (BitVec 16)) (w : World) (h : Row kMask w ok A n ms) (hn : n ≤ 64) :
    Calls Try.prog 74 #[.slice A n c] w fun e w' => ∃ v, e = .returned v ∧ Own kMask 110 w' w.heap.size v ms ∧ Below w.heap.size w w' := by
  have hm := h.2.1
  have HL := As.mk h.1
  have HR := As.mk h.bound
  have q : ∀ (W : World) (a : Option Addr) (n c n' c' : Nat), (binOp .eql 89 (.slice a n c) (.slice none n' c')).run Try.prog W = .ok (.bool a.isNone) W := fun W a n c n' c' => Lib.run_eql_slice_nil W _ _ a n c n' c' Try.underlying89
  cases A with
  | none =>
    have hms : ms = [] := List.eq_nil_of_length_eq_zero (by
      rw [HL.o]
      rcases Nat.eq_zero_or_pos n with h0 | h0
      · exact h0
      · obtain ⟨_, e, _⟩ := h.2.2 h0
        cases e)
    subst hms
    clear h
    go_enter Try.func74, Try.ntmps74
    go_wp2
    go_ret
    exact ⟨_, rfl, Own.nil _ _ _ _, Below.refl _ _⟩
  | some ad =>
    clear h
    have E0 : As (Own kMask 110 (w.alloc (.cells #[] 110)) w.heap.size (.slice (some ⟨w.heap.size, 0, none⟩) 0 0) []) := ⟨Own.empty _ _ _ _ (Nat.le_refl _)⟩
    have hb0 : Below w.heap.size w (w.alloc (.cells #[] 110)) := (Below.refl _ _).alloc (Nat.le_refl _) _
    have R0 : As (Row kMask (w.alloc (.cells #[] 110)) (fun k => True ∧ Value.ownBlock (.slice (some ⟨w.heap.size, 0, none⟩) 0 0) ≠ some k) (some ad) n ms) := ⟨(HR.o.below hb0).mono fun j hj => ⟨trivial, fun e => by simp [Value.ownBlock] at e; omega⟩⟩
    have HB0 := As.mk hb0
    clear hb0
    go_enter Try.func74, Try.ntmps74
    go_wp2_with (at_builtin; refine app_row kMask w.heap.size rfl (.tmp 5) (.tmp 6) 89 (.int .u16 0) 2 rfl Try.underlying89 info_u16 rfl (by decide) (.slice (some ⟨w.heap.size, 0, none⟩) 0 0) [] ms (some ad) n c rfl rfl E0.o R0.o (by simp) (by simp; omega) (by simp; omega) ?_; intro v1 w1 HO1 hg1 hat1)
    go_ret
    exact ⟨_, rfl, by simpa using HO1, HB0.o.trans (E0.o.base_le hg1 (Nat.le_refl _) (by simp))⟩
set_option maxHeartbeats 400000 in
theorem cloneHold_any (A : Option Addr) (n c : Nat) (ok : Nat → Prop) (ms : List Hold) (w : World) (h : Row kHold w ok A n ms) (hn : n ≤ 64) :
    Calls Try.prog 70 #[.slice A n c] w fun e w' => ∃ v, e = .returned v ∧ OwnK ok kHold 78 w' w.heap.size v ms ∧ Below w.heap.size w w' := by
  have hm := h.2.1
  have HL := As.mk h.1
  have HR := As.mk h.bound
  have q : ∀ (W : World) (a : Option Addr) (n c n' c' : Nat), (binOp .eql 27 (.slice a n c) (.slice none n' c')).run Try.prog W = .ok (.bool a.isNone) W := fun W a n c n' c' => Lib.run_eql_slice_nil W _ _ a n c n' c' Try.underlying27
  cases A with
  | none =>
    have hms : ms = [] := List.eq_nil_of_length_eq_zero (by
      rw [HL.o]
      rcases Nat.eq_zero_or_pos n with h0 | h0
      · exact h0
      · obtain ⟨_, e, _⟩ := h.2.2 h0
        cases e)
    subst hms
    clear h
    go_enter Try.func70, Try.ntmps70
    go_wp2
    go_ret
    exact ⟨_, rfl, OwnK.nil _ _ _ _ _, Below.refl _ _⟩
  | some ad =>
    clear h
    have E0 : As (OwnK ok kHold 78 (w.alloc (.cells #[] 78)) w.heap.size (.slice (some ⟨w.heap.size, 0, none⟩) 0 0) []) := ⟨OwnK.empty _ _ _ _ _ (Nat.le_refl _)⟩
    have hb0 : Below w.heap.size w (w.alloc (.cells #[] 78)) := (Below.refl _ _).alloc (Nat.le_refl _) _
    have R0 : As (Row kHold (w.alloc (.cells #[] 78)) (fun k => ok k ∧ Value.ownBlock (.slice (some ⟨w.heap.size, 0, none⟩) 0 0) ≠ some k) (some ad) n ms) := ⟨(HR.o.below hb0).mono fun j hj => ⟨hj.1, fun e => by simp [Value.ownBlock] at e; have := hj.2; omega⟩⟩
    have HB0 := As.mk hb0
    clear hb0
    go_enter Try.func70, Try.ntmps70
    go_wp2_with (at_builtin; refine app_row kHold w.heap.size rfl (.tmp 5) (.tmp 6) 27 (.agg #[(.int .i64 0), (.slice none 0 0), (.slice none 0 0), (.bool false)]) 64 rfl Try.underlying27 info_holding rfl (by decide) (.slice (some ⟨w.heap.size, 0, none⟩) 0 0) [] ms (some ad) n c rfl rfl E0.o R0.o (by simp) (by simp; omega) (by simp; omega) ?_; intro v1 w1 HO1 hg1 hat1)
    go_ret
    exact ⟨_, rfl, by simpa using HO1, HB0.o.trans (E0.o.base_le hg1 (Nat.le_refl _) (by simp))⟩
end Go.Proofs.Ytlinhckgdfhppaa
namespace Go.Proofs.Ytlinhckgdfhppaa
open Go Go.RowKit Go.Proofs.YtlinhckgdfhppaaK

/-- The stock with the first k holdings of the set s. -/
def withM (nf : ByteArray → Option Nat) (list : List Hold) (s : Nat) (ms : List (BitVec 16)) : Nat → List (BitVec 16)
  | 0 => ms
  | k + 1 => if s.testBit k = true then giveM nf (withM nf list s ms k) (hgt list k).pieces else withM nf list s ms k
def withW (list : List Hold) (s : Nat) (f : Nat → BitVec 64) : Nat → (Nat → BitVec 64)
  | 0 => f
  | k + 1 => if s.testBit k = true then addWs (withW list s f k) (hgt list k).shares else withW list s f k
def withI (list : List Hold) (s : Nat) (ix : Bool) : Nat → Bool
  | 0 => ix
  | k + 1 => if s.testBit k = true then withI list s ix k || (hgt list k).index else withI list s ix k
theorem withM_len (nf : ByteArray → Option Nat) (list : List Hold) (s : Nat) (ms : List (BitVec 16)) : ∀ k, (withM nf list s ms k).length = ms.length
  | 0 => rfl
  | k + 1 => by
    rw [withM]
    split
    · rw [giveM_len, withM_len nf list s ms k]
    · exact withM_len nf list s ms k
/-- A stock in a block of its own, its masks in a row of the call's own. -/
structure StockIn (W : World) (sb base : Nat) (B : Option Addr) (n c : Nat) (ms : List (BitVec 16)) (f : Nat → BitVec 64) (ix : Bool) : Prop where
  own : W.ownsRow base 110 1 (.slice B n c) n (ms.map mval)
  far : ∀ g, (Value.slice B n c).ownBlock = some g → sb < g
  cells : ∃ cs, W.heap[sb]? = some (.cells cs 94 (0, 0)) ∧ cs[0]? = some (.slice B n c) ∧ WordsAt cs 1 f ∧ cs[5]? = some (.bool ix) ∧ cs.size = 6
set_option maxRecDepth 100000 in
set_option maxHeartbeats 1000000 in
theorem with_any (pb mb : Nat) (nf : ByteArray → Option Nat) (A : Option Addr) (nl cl : Nat) (list : List Hold) (s : Nat) (B0 : Option Addr) (n c0 : Nat) (ms : List (BitVec 16)) (f : Nat → BitVec 64) (ix : Bool) (w : World)
    (h5 : w.cell? ⟨pb, 5, none⟩ = some (.slice A nl cl)) (h6 : w.cell? ⟨pb, 6, none⟩ = some (.map (some mb))) (h7 : w.cell? ⟨pb, 7, none⟩ = some (.slice B0 n c0))
    (hw : ∀ i, i < 4 → w.cell? ⟨pb, 8 + i, none⟩ = some (.int .u64 ((f i).toNat : Int))) (hi : w.cell? ⟨pb, 12, none⟩ = some (.bool ix))
    (hmap : MapAt w mb Value.string eIdx nf) (hnf : ∀ s i, nf s = some i → i < n) (hR : Row kHold w (fun k => k < w.heap.size) A nl list) (hM : Row kMask w (fun k => k < w.heap.size) B0 n ms)
    (hn : n ≤ 64) (hnl : nl ≤ 12) (hs : s < 18446744073709551616) (hp : ∀ h ∈ list, (∀ p ∈ h.pieces, 0 ≤ p.2 ∧ p.2 < 16) ∧ (∀ x ∈ h.shares, 1 ≤ x ∧ x ≤ 255)) :
    Calls Try.prog 43 #[.pointer (some ⟨pb, 0, none⟩), .int .u64 (s : Int)] w fun e w' => ∃ B c, e = .returned (.agg (stockCells B n c (withW list s f nl) (withI list s ix nl))) ∧
      w'.ownsRow w.heap.size 110 1 (.slice B n c) n ((withM nf list s ms nl).map mval) ∧ Below w.heap.size w w' := by
  have hpb := World.block_lt_of_cell? w _ h5
  have w0 := hw 0 (by omega)
  have w1 := hw 1 (by omega)
  have w2 := hw 2 (by omega)
  have w3 := hw 3 (by omega)
  have HRL := As.mk hR
  have HML := As.mk hM
  have HMAP := As.mk hmap
  have hmb := hmap.lt
  have hml : ms.length = n := hM.1
  have HNF := As.mk hnf
  have HP := As.mk hp
  have CL : As (∀ W : World, Below w.heap.size w W → Calls Try.prog 74 #[.slice B0 n c0] W fun e w' => ∃ B c, e = .returned (.slice B n c) ∧ w'.ownsRow w.heap.size 110 1 (.slice B n c) n (ms.map mval) ∧ (∀ g, (Value.slice B n c).ownBlock = some g → W.heap.size ≤ g) ∧ Below W.heap.size W w') := ⟨fun W hW => (clone16_any B0 n c0 _ ms W (hM.below hW) hn).mono fun e w' ⟨v, he, ho, hb⟩ => by
    obtain ⟨B, c, ev, _, _⟩ := ho.shape
    subst ev
    rw [hml] at he ho
    have hsc := OwnK.scalar (ho.lower hW.size)
    rw [hml] at hsc
    exact ⟨B, c, he, hsc, fun g e => (ho.lt g e).1, hb⟩⟩
  clear hR hM hmap hnf hp hw
  go_enter Try.func43, Try.ntmps43
  go_wp2_with (go_at_call 74; fail)
  obtain ⟨W1, hW1⟩ : ∃ W1 : World, W1 = w.alloc (.cells #[.slice none 0 0, .int .u64 0, .int .u64 0, .int .u64 0, .int .u64 0, .bool false] 94) := ⟨_, rfl⟩
  obtain ⟨W2, hW2⟩ : ∃ W2 : World, W2 = W1.alloc (.cells (stockCells B0 n c0 f ix) 94) := ⟨_, rfl⟩
  have HB1 : As (Below w.heap.size w W1) := ⟨by rw [hW1]; exact (Below.refl w.heap.size w).alloc (Nat.le_refl _) _⟩
  have X01 : As (W1.heap[w.heap.size]? = some (.cells #[.slice none 0 0, .int .u64 0, .int .u64 0, .int .u64 0, .int .u64 0, .bool false] 94 (0, 0))) := ⟨by rw [hW1]; exact heap_alloc_new w _⟩
  have hs1 : W1.heap.size = w.heap.size + 1 := by rw [hW1]; simp
  have HB2 : As (Below w.heap.size w W2) := ⟨by rw [hW2]; exact HB1.o.alloc (by omega) _⟩
  have X02 : As (W2.heap[w.heap.size]? = some (.cells #[.slice none 0 0, .int .u64 0, .int .u64 0, .int .u64 0, .int .u64 0, .bool false] 94 (0, 0))) := ⟨by rw [hW2]; exact (Below.heap_alloc _ _ _ (by omega)).trans X01.o⟩
  have X12 : As (W2.heap[w.heap.size + 1]? = some (.cells (stockCells B0 n c0 f ix) 94 (0, 0))) := ⟨by rw [hW2, ← hs1]; exact heap_alloc_new W1 _⟩
  have hs2 : W2.heap.size = w.heap.size + 2 := by rw [hW2]; simp; omega
  rw [← hW1]
  rw [← hW2]
  clear hW1 hW2 HB1 X01 hs1
  refine (CL.o W2 HB2.o).mono ?_
  rintro e w4 ⟨B, c, rfl, hown, hgl, hb4⟩
  have hs4 : w.heap.size + 2 ≤ w4.heap.size := by have := hb4.size; omega
  have X04 := As.mk ((hb4.block w.heap.size (by omega)).trans X02.o)
  have X14 := As.mk ((hb4.block (w.heap.size + 1) (by omega)).trans X12.o)
  have HB4 := As.mk (HB2.o.trans (hb4.mono (by omega)))
  have e5 := (HB4.o.cell (p := ⟨pb, 5, none⟩) hpb).trans h5
  have s0 : w4.cell? ⟨w.heap.size + 1, 0, none⟩ = some (.slice B0 n c0) := (cell_of_row _ _ 0 _ _ _ X14.o).trans rfl
  have f0 : w4.frozen? ⟨w.heap.size + 1, 0, none⟩ = false := blk_frozen X14.o
  go_wp2
  have hgB : ∀ g, (Value.slice B n c).ownBlock = some g → w.heap.size + 1 < g := fun g e => by have := hgl g e; omega
  have hg4 : w4.grownBy (w4.setCell ⟨w.heap.size + 1, 0, none⟩ (.slice B n c)) (some (w.heap.size + 1)) := grownBy_set w4 ⟨w.heap.size + 1, 0, none⟩ _
  have hneB : (Value.slice B n c).ownBlock = none ∨ (Value.slice B n c).ownBlock ≠ some (w.heap.size + 1) := .inr fun e => by have := hgB _ e; omega
  have ST0 : As (StockIn (w4.setCell ⟨w.heap.size + 1, 0, none⟩ (.slice B n c)) (w.heap.size + 1) w.heap.size B n c ms f ix) :=
    ⟨⟨hown.kept hg4 hneB, hgB, _, blk_set X14.o _, rfl, ⟨fun i hi => by rcases (show i = 0 ∨ i = 1 ∨ i = 2 ∨ i = 3 by omega) with rfl | rfl | rfl | rfl <;> rfl⟩, rfl, rfl⟩⟩
  have XR0 : As ((w4.setCell ⟨w.heap.size + 1, 0, none⟩ (.slice B n c)).heap[w.heap.size]? = some (.cells #[.slice none 0 0, .int .u64 0, .int .u64 0, .int .u64 0, .int .u64 0, .bool false] 94 (0, 0))) := ⟨(blk_far (by simp) _).trans X04.o⟩
  have BB0 : As (Below w.heap.size w (w4.setCell ⟨w.heap.size + 1, 0, none⟩ (.slice B n c))) := ⟨HB4.o.setCell (by simp) _⟩
  have HGB := As.mk hgB
  clear hown hgl hb4 X04 X14 hg4 hneB X02 X12 s0 f0 e5 CL HML hgB
  go_loopw [21] (fun i' wr => ∃ k : Nat, k ≤ nl ∧ i' = .int .i64 k ∧ As (StockIn wr (w.heap.size + 1) w.heap.size B n c (withM nf list s ms k) (withW list s f k) (withI list s ix k)) ∧ As (wr.heap[w.heap.size]? = some (.cells #[.slice none 0 0, .int .u64 0, .int .u64 0, .int .u64 0, .int .u64 0, .bool false] 94 (0, 0))) ∧ As (Below w.heap.size w wr)) (fun i' _ => nl - (intOf i').toNat)
  case atStart => exact ⟨0, Nat.zero_le _, rfl, ST0, XR0, BB0⟩
  case round =>
    obtain ⟨k, hk, rfl, HST, HXR, HB⟩ := hrel
    by_cases hlt : k < nl
    · have hszr := HB.o.size
      obtain ⟨cs, hcs, k0, kw, k5, k6⟩ := HST.o.cells
      obtain ⟨ad, P, cP, S, cS, e1, _, hla, p0, p1, p2, p3, hcP, R1, hcS, R2⟩ := rowHold (HRL.o.below HB.o) k hlt
      subst e1
      have hll : k < list.length := by rw [HRL.o.1]; exact hlt
      have HPV := As.mk (HP.o (hgt list k) (by rw [hgt_eq _ _ hll]; exact List.getElem_mem hll))
      have SM := As.mk (show withM nf list s ms (k + 1) = if s.testBit k = true then giveM nf (withM nf list s ms k) (hgt list k).pieces else withM nf list s ms k from rfl)
      have SW := As.mk (show withW list s f (k + 1) = if s.testBit k = true then addWs (withW list s f k) (hgt list k).shares else withW list s f k from rfl)
      have SI := As.mk (show withI list s ix (k + 1) = if s.testBit k = true then (withI list s ix k || (hgt list k).index) else withI list s ix k from rfl)
      have hWL : (withM nf list s ms k).length = n := (withM_len nf list s ms k).trans hml
      have hki : (k : Int) ≤ 64 := by omega
      have hk0 : (0 : Int) ≤ (k : Int) := by omega
      have hbit := bit_u64 s k hs
      generalize withM nf list s ms k = mk at *
      generalize withW list s f k = fk at *
      generalize withI list s ix k = ik at *
      have HRP := As.mk R1
      have HRS := As.mk R2
      have HCS := As.mk hcs
      clear R1 R2 hcs
      generalize hgt list k = y at *
      have hgr : ∀ g, (Value.slice B n c).ownBlock = some g → g < wr.heap.size := fun g e => (HST.o.own.lt g e).2
      obtain ⟨W, hW⟩ : ∃ W : World, W = wr.alloc (.cells #[.int .i64 y.dev, .slice P y.pieces.length cP, .slice S y.shares.length cS, .bool y.index] 78) := ⟨_, rfl⟩
      have HW := As.mk hW
      have HBW : As (Below wr.heap.size wr W) := ⟨by rw [hW]; exact (Below.refl _ _).alloc (Nat.le_refl _) _⟩
      by_cases ht : s.testBit k = true
      · rw [if_pos ht] at hbit SM SW SI
        have GIVE := As.mk (give_any pb mb (w.heap.size + 1) 0 w.heap.size cs 94 B n c mk fk ik nf y P cP S cS W
          ((HBW.o.cell (p := ⟨pb, 6, none⟩) (Nat.lt_of_lt_of_le hpb hszr)).trans ((HB.o.cell (p := ⟨pb, 6, none⟩) hpb).trans h6)) ((HMAP.o.below HB.o hmb).below HBW.o (Nat.lt_of_lt_of_le hmb hszr)) HNF.o
          ((HBW.o.block _ (blk_lt HCS.o)).trans HCS.o) k0 kw k5 (by rw [hW]; exact HST.o.own.alloc _) hWL (fun g e => by have h1 := HGB.o g e; have h2 : pb < w.heap.size := hpb; refine ⟨?_, ?_, ?_⟩ <;> omega)
          ((HRP.o.below HBW.o).mono fun j hj e => by have := HGB.o j e; omega) HPV.o.1 ((HRS.o.below HBW.o).mono fun j hj => ⟨fun e => by have := HGB.o j e; omega, by omega⟩) HPV.o.2)
        clear ht hW
        go_wp2_with (go_at_call 73; fail)
        rw [← HW.o]
        refine GIVE.o.mono ?_
        rintro e w5 ⟨rfl, hown5, ⟨cs5, hb5, hsz5, hfar5, hw5, hi5⟩, ho1, ho2, ho3, hsi, hot⟩
        go_wp2
        go_roundw
        case rel =>
          have hsW : wr.heap.size ≤ W.heap.size := HBW.o.size
          have hsbl := blk_lt HCS.o
          have hot2 : ∀ j, j < w.heap.size + 1 → w5.heap[j]? = wr.heap[j]? := fun j hj => (hot j (by omega) (by omega) (fun e => by have := HGB.o j e; omega)).trans (HBW.o.block j (by omega))
          refine ⟨k + 1, by omega, by go_num, ⟨?_⟩, ⟨?_⟩, ⟨?_⟩⟩
          · rw [SM.o, SW.o, SI.o]
            exact ⟨hown5, HST.o.far, cs5, hb5, (hfar5 0 (.inl (by omega))).trans k0, hw5, hi5, hsz5.trans k6⟩
          · exact (hot2 _ (by omega)).trans HXR.o
          · exact ⟨ho1.trans (HBW.o.os.trans HB.o.os), ho2.trans (HBW.o.tape.trans HB.o.tape), ho3.trans (HBW.o.output.trans HB.o.output), by omega, fun j hj => (hot2 j (by omega)).trans (HB.o.block j hj)⟩
        case measure => simp [intOf]; omega
      · rw [if_neg ht] at hbit SM SW SI
        go_wp2
        go_roundw
        case rel =>
          refine ⟨k + 1, by omega, by go_num, ⟨?_⟩, ⟨?_⟩, ⟨?_⟩⟩
          · rw [SM.o, SW.o, SI.o, ← HW.o]
            exact ⟨by rw [hW]; exact HST.o.own.alloc _, HST.o.far, cs, (HBW.o.block _ (blk_lt HCS.o)).trans HCS.o, k0, kw, k5, k6⟩
          · rw [← HW.o]; exact (HBW.o.block _ (blk_lt HXR.o)).trans HXR.o
          · rw [← HW.o]; exact bthen HB.o HBW.o (Nat.le_refl _)
        case measure => simp [intOf]; omega
    · have e : k = nl := by omega
      subst e
      obtain ⟨cs, hcs, k0, kw, k5, k6⟩ := HST.o.cells
      have g0 : wr.cell? ⟨w.heap.size + 1, 0, none⟩ = some (.slice B n c) := (cell_of_row _ _ _ _ _ _ hcs).trans k0
      have g1 := (cell_of_row _ _ 1 _ _ _ hcs).trans (kw.at_ 0 (by omega))
      have g2 := (cell_of_row _ _ 2 _ _ _ hcs).trans (kw.at_ 1 (by omega))
      have g3 := (cell_of_row _ _ 3 _ _ _ hcs).trans (kw.at_ 2 (by omega))
      have g4 := (cell_of_row _ _ 4 _ _ _ hcs).trans (kw.at_ 3 (by omega))
      have g5 := (cell_of_row _ _ 5 _ _ _ hcs).trans k5
      have r0 : wr.cell? ⟨w.heap.size, 0, none⟩ = some (.slice none 0 0) := (cell_of_row _ _ 0 _ _ _ HXR.o).trans rfl
      have r1 : wr.cell? ⟨w.heap.size, 1, none⟩ = some (.int .u64 0) := (cell_of_row _ _ 1 _ _ _ HXR.o).trans rfl
      have r2 : wr.cell? ⟨w.heap.size, 2, none⟩ = some (.int .u64 0) := (cell_of_row _ _ 2 _ _ _ HXR.o).trans rfl
      have r3 : wr.cell? ⟨w.heap.size, 3, none⟩ = some (.int .u64 0) := (cell_of_row _ _ 3 _ _ _ HXR.o).trans rfl
      have r4 : wr.cell? ⟨w.heap.size, 4, none⟩ = some (.int .u64 0) := (cell_of_row _ _ 4 _ _ _ HXR.o).trans rfl
      have r5 : wr.cell? ⟨w.heap.size, 5, none⟩ = some (.bool false) := (cell_of_row _ _ 5 _ _ _ HXR.o).trans rfl
      have fz : ∀ i, wr.frozen? ⟨w.heap.size, i, none⟩ = false := fun i => blk_frozen HXR.o
      go_wp2
      have keep : ∀ (W : World) (i : Nat) (u : Value), W.ownsRow w.heap.size 110 1 (.slice B n c) n ((withM nf list s ms k).map mval) → (W.setCell ⟨w.heap.size, i, none⟩ u).ownsRow w.heap.size 110 1 (.slice B n c) n ((withM nf list s ms k).map mval) := fun W i u h =>
        h.kept (grownBy_set W ⟨w.heap.size, i, none⟩ u) (.inr fun e => by have := HST.o.far w.heap.size e; omega)
      have keepB : ∀ (W : World) (i : Nat) (u : Value), Below w.heap.size w W → Below w.heap.size w (W.setCell ⟨w.heap.size, i, none⟩ u) := fun W i u h => h.setCell (p := ⟨w.heap.size, i, none⟩) (Nat.le_refl _) u
      refine bodyPost_ret (v := .agg (stockCells B n c (withW list s f k) (withI list s ix k))) ?_ rfl ?_
      · simp [results, Try.results43, go_sem, r0, r1, r2, r3, r4, r5]
      · refine ⟨B, c, rfl, ?_, ?_⟩
        · iterate 6 refine keep _ _ _ ?_
          exact HST.o.own
        · iterate 6 refine keepB _ _ _ ?_
          exact HB.o
end Go.Proofs.Ytlinhckgdfhppaa
namespace Go.Proofs.Ytlinhckgdfhppaa
open Go Go.RowKit Go.Proofs.YtlinhckgdfhppaaK

theorem row_masks {w : World} {base : Nat} {B : Option Addr} {n c : Nat} {ms : List (BitVec 16)} (h : w.ownsRow base 110 1 (.slice B n c) n (ms.map mval)) : ms.length = n ∧ Row kMask w (fun _ => True) B n ms := by
  have hl : ms.length = n := by simpa using h.1
  subst hl
  have ho : OwnK (fun _ => True) kMask 110 w base (.slice B ms.length c) ms := own_scalar h
  obtain ⟨A, c', e, _, hr⟩ := ho.shape
  injection e with e1 e2 e3
  subst e1
  exact ⟨rfl, hr.mono fun _ _ => trivial⟩

/-- A problem in memory: the goal's needs and threshold, the sorted holdings, the need map, the start. -/
structure ProbIn (w : World) (pb mb : Nat) (needs : List Need) (thr : Int) (A1 : Option Addr) (c1 : Nat) (nf : ByteArray → Option Nat) (A : Option Addr) (nl cl : Nat) (list : List Hold) (B0 : Option Addr) (c0 : Nat) (ms : List (BitVec 16)) (f : Nat → BitVec 64) (ix : Bool) : Prop where
  h0 : w.cell? ⟨pb, 0, none⟩ = some (.slice A1 needs.length c1)
  h1 : w.cell? ⟨pb, 1, none⟩ = some (.int .i64 thr)
  h5 : w.cell? ⟨pb, 5, none⟩ = some (.slice A nl cl)
  h6 : w.cell? ⟨pb, 6, none⟩ = some (.map (some mb))
  h7 : w.cell? ⟨pb, 7, none⟩ = some (.slice B0 needs.length c0)
  hw : ∀ i, i < 4 → w.cell? ⟨pb, 8 + i, none⟩ = some (.int .u64 ((f i).toNat : Int))
  hi : w.cell? ⟨pb, 12, none⟩ = some (.bool ix)
  hN : Row kPiece w (fun k => k < w.heap.size) A1 needs.length needs
  hmap : MapAt w mb Value.string eIdx nf
  hR : Row kHold w (fun k => k < w.heap.size) A nl list
  hM : Row kMask w (fun k => k < w.heap.size) B0 needs.length ms
/-- What is known of a problem's data. -/
structure ProbOk (needs : List Need) (thr : Int) (nf : ByteArray → Option Nat) (nl : Nat) (list : List Hold) : Prop where
  hnf : ∀ s i, nf s = some i → i < needs.length
  hn : needs.length ≤ 64
  hnl : nl ≤ 12
  hd : ∀ n ∈ needs, 0 ≤ n.2 ∧ n.2 ≤ 1000
  ht : 0 ≤ thr ∧ thr ≤ 1000
  hp : ∀ h ∈ list, (∀ p ∈ h.pieces, 0 ≤ p.2 ∧ p.2 < 16) ∧ (∀ x ∈ h.shares, 1 ≤ x ∧ x ≤ 255)
theorem ProbIn.below {w w' : World} {pb mb : Nat} {needs : List Need} {thr : Int} {A1 : Option Addr} {c1 : Nat} {nf : ByteArray → Option Nat} {A : Option Addr} {nl cl : Nat} {list : List Hold} {B0 : Option Addr} {c0 : Nat} {ms : List (BitVec 16)} {f : Nat → BitVec 64} {ix : Bool}
    (h : ProbIn w pb mb needs thr A1 c1 nf A nl cl list B0 c0 ms f ix) (hb : Below w.heap.size w w') : ProbIn w' pb mb needs thr A1 c1 nf A nl cl list B0 c0 ms f ix := by
  have hp := World.block_lt_of_cell? w _ h.h0
  have e : ∀ i, w'.cell? ⟨pb, i, none⟩ = w.cell? ⟨pb, i, none⟩ := fun i => hb.cell (p := ⟨pb, i, none⟩) hp
  have hs := hb.size
  exact ⟨(e 0).trans h.h0, (e 1).trans h.h1, (e 5).trans h.h5, (e 6).trans h.h6, (e 7).trans h.h7, fun i hi => (e _).trans (h.hw i hi), (e 12).trans h.hi, (h.hN.below hb).mono fun k hk => by omega, h.hmap.below hb h.hmap.lt, (h.hR.below hb).mono fun k hk => by omega, (h.hM.below hb).mono fun k hk => by omega⟩
/-- The sum of what lacks with the set s. -/
def sumOf (needs : List Need) (thr : Int) (nf : ByteArray → Option Nat) (nl : Nat) (list : List Hold) (ms : List (BitVec 16)) (f : Nat → BitVec 64) (ix : Bool) (s : Nat) : Int :=
  maskSum needs thr (withM nf list s ms nl) (withW list s f nl) (withI list s ix nl)
section
variable {pb mb : Nat} {needs : List Need} {thr : Int} {A1 : Option Addr} {c1 : Nat} {nf : ByteArray → Option Nat} {A : Option Addr} {nl cl : Nat} {list : List Hold} {B0 : Option Addr} {c0 : Nat} {ms : List (BitVec 16)} {f : Nat → BitVec 64} {ix : Bool} {w : World}
set_option maxRecDepth 100000 in
theorem withP (h : ProbIn w pb mb needs thr A1 c1 nf A nl cl list B0 c0 ms f ix) (k : ProbOk needs thr nf nl list) (s : Nat) (hs : s < 18446744073709551616) :
    Calls Try.prog 43 #[.pointer (some ⟨pb, 0, none⟩), .int .u64 (s : Int)] w fun e w' => ∃ B c, e = .returned (.agg (stockCells B needs.length c (withW list s f nl) (withI list s ix nl))) ∧
      Row kMask w' (fun _ => True) B needs.length (withM nf list s ms nl) ∧ Below w.heap.size w w' :=
  (with_any pb mb nf A nl cl list s B0 needs.length c0 ms f ix w h.h5 h.h6 h.h7 h.hw h.hi h.hmap k.hnf h.hR h.hM k.hn k.hnl hs k.hp).mono fun e w' ⟨B, c, he, ho, hb⟩ => ⟨B, c, he, (row_masks ho).2, hb⟩
theorem sumP (h : ProbIn w pb mb needs thr A1 c1 nf A nl cl list B0 c0 ms f ix) (k : ProbOk needs thr nf nl list) (B : Option Addr) (c : Nat) (ms' : List (BitVec 16)) (f' : Nat → BitVec 64) (ix' : Bool) (hM : Row kMask w (fun _ => True) B needs.length ms') :
    Calls Try.prog 68 #[.pointer (some ⟨pb, 0, none⟩), .agg (stockCells B needs.length c f' ix')] w fun e w' => e = .returned (.int .i64 (maskSum needs thr ms' f' ix')) ∧ Below w.heap.size w w' :=
  msum_any pb needs thr A1 c1 B c ms' f' ix' (fun _ => True) w h.h0 h.h1 (h.hN.mono fun _ _ => trivial) hM k.hd k.ht k.hn
set_option maxRecDepth 100000 in
set_option maxHeartbeats 1000000 in
theorem sufficesP (h : ProbIn w pb mb needs thr A1 c1 nf A nl cl list B0 c0 ms f ix) (k : ProbOk needs thr nf nl list) (s : Nat) (hs : s < 18446744073709551616) (b : Bool) (hb : (sumOf needs thr nf nl list ms f ix s == 0) = b) :
    Calls Try.prog 39 #[.pointer (some ⟨pb, 0, none⟩), .int .u64 (s : Int)] w fun e w' => e = .returned (.bool b) ∧ Below w.heap.size w w' := by
  have HP := As.mk h
  have HK := As.mk k
  have WITH := As.mk (withP h k s hs)
  have HBQ : As ((maskSum needs thr (withM nf list s ms nl) (withW list s f nl) (withI list s ix nl) == 0) = b) := ⟨hb⟩
  clear h k hb
  generalize withM nf list s ms nl = ms' at *
  generalize withW list s f nl = f' at *
  generalize withI list s ix nl = ix' at *
  have SUM : As (∀ (W : World) (B : Option Addr) (c : Nat), Below w.heap.size w W → Row kMask W (fun _ => True) B needs.length ms' → Calls Try.prog 68 #[.pointer (some ⟨pb, 0, none⟩), .agg (stockCells B needs.length c f' ix')] W fun e w' => e = .returned (.int .i64 (maskSum needs thr ms' f' ix')) ∧ Below W.heap.size W w') := ⟨fun W B c hW hM => sumP (HP.o.below hW) HK.o B c ms' f' ix' hM⟩
  generalize maskSum needs thr ms' f' ix' = r at *
  have hr := HBQ.o
  go_enter Try.func39, Try.ntmps39
  go_wp2_with (first
    | (go_at_call 43; refine WITH.o.mono ?_; rintro e w1 ⟨B, c, rfl, hm1, hb1⟩)
    | (go_at_call 68; refine (SUM.o _ _ _ hb1 hm1).mono ?_; rintro e w2 ⟨rfl, hb2⟩))
  go_ret
  exact ⟨rfl, bthen hb1 hb2 (Nat.le_refl _)⟩
end
end Go.Proofs.Ytlinhckgdfhppaa
namespace Go.Proofs.Ytlinhckgdfhppaa
open Go Go.RowKit Go.Proofs.YtlinhckgdfhppaaK
section
variable {pb mb : Nat} {needs : List Need} {thr : Int} {A1 : Option Addr} {c1 : Nat} {nf : ByteArray → Option Nat} {A : Option Addr} {nl cl : Nat} {list : List Hold} {B0 : Option Addr} {c0 : Nat} {ms : List (BitVec 16)} {f : Nat → BitVec 64} {ix : Bool} {w : World}
theorem sum_bd2 {needs : List Need} {thr : Int} {ms : List (BitVec 16)} {f : Nat → BitVec 64} {ix : Bool} (hd : ∀ n ∈ needs, 0 ≤ n.2 ∧ n.2 ≤ 1000) (ht : 0 ≤ thr ∧ thr ≤ 1000) (hn : needs.length ≤ 64) : 0 ≤ maskSum needs thr ms f ix ∧ maskSum needs thr ms f ix ≤ 66000 := by
  have h1 := sum_bd (lackList needs ms) (lackList_bd hd)
  have h2 : (lackList needs ms).length = needs.length := by simp [lackList]
  have h3 : 0 ≤ subN thr (shareCnt f) ∧ subN thr (shareCnt f) ≤ 1000 := by unfold subN; omega
  unfold maskSum
  rw [h2] at h1
  cases ix <;> simp <;> omega
end
end Go.Proofs.Ytlinhckgdfhppaa
