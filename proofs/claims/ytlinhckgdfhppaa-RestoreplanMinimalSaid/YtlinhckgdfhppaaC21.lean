/- A part of the proof: what the functions do, and plain laws. -/
import Derived.Test.YtlinhckgdfhppaaC20
namespace Go.Proofs.Ytlinhckgdfhppaa
open Go Go.RowKit Go.Proofs.YtlinhckgdfhppaaK

/-- The sum of what is lacking, by masks. -/
def maskSum (needs : List Need) (thr : Int) (ms : List (BitVec 16)) (f : Nat → BitVec 64) (ix : Bool) : Int := subN thr (shareCnt f) + (lackList needs ms).sum + if ix then 0 else 1
theorem lackList_bd {needs : List Need} {ms : List (BitVec 16)} (hd : ∀ n ∈ needs, 0 ≤ n.2 ∧ n.2 ≤ 1000) : ∀ x ∈ lackList needs ms, 0 ≤ x ∧ x ≤ 1000 := by
  intro x hx
  obtain ⟨i, hi, rfl⟩ := List.mem_map.1 hx
  have hi' := List.mem_range.1 hi
  have h := hd (pg needs i) (by rw [pg_eq _ _ hi']; exact List.getElem_mem hi')
  unfold lackAt subN
  omega
set_option maxRecDepth 100000 in
set_option maxHeartbeats 1000000 in
theorem msum_any (pb : Nat) (needs : List Need) (thr : Int) (A1 : Option Addr) (c1 : Nat) (B : Option Addr) (c : Nat) (ms : List (BitVec 16)) (f : Nat → BitVec 64) (ix : Bool) (ok : Nat → Prop) (w : World)
    (h0 : w.cell? ⟨pb, 0, none⟩ = some (.slice A1 needs.length c1)) (h1 : w.cell? ⟨pb, 1, none⟩ = some (.int .i64 thr)) (hN : Row kPiece w ok A1 needs.length needs) (hM : Row kMask w ok B needs.length ms)
    (hd : ∀ n ∈ needs, 0 ≤ n.2 ∧ n.2 ≤ 1000) (ht : 0 ≤ thr ∧ thr ≤ 1000) (hl : needs.length ≤ 64) :
    Calls Try.prog 68 #[.pointer (some ⟨pb, 0, none⟩), .agg (stockCells B needs.length c f ix)] w fun e w' => e = .returned (.int .i64 (maskSum needs thr ms f ix)) ∧ Below w.heap.size w w' := by
  have hpb := World.block_lt_of_cell? w _ h0
  obtain ⟨w0, hw0⟩ : ∃ w0 : World, w0 = w.alloc (.cells (stockCells B needs.length c f ix) 94) := ⟨_, rfl⟩
  have HB0 : As (Below w.heap.size w w0) := ⟨by rw [hw0]; exact (Below.refl w.heap.size w).alloc (Nat.le_refl _) _⟩
  have HX : As (w0.heap[w.heap.size]? = some (.cells (stockCells B needs.length c f ix) 94 (0, 0))) := ⟨by rw [hw0]; exact heap_alloc_new w _⟩
  have hlw := blk_lt HX.o
  have LACK : As (Calls Try.prog 57 #[.pointer (some ⟨pb, 0, none⟩), .agg (stockCells B needs.length c f ix)] w0 fun e w' => ∃ A n cc, e = .returned (.tuple #[.slice A n cc, .int .i64 (subN thr (shareCnt f))]) ∧ Row (Kn.int .i64) w' (fun _ => True) A n (lackList needs ms) ∧ Below w0.heap.size w0 w') :=
    ⟨(lacking_any pb needs thr A1 c1 B c ms f ix ok w0 ((HB0.o.cell hpb).trans h0) ((HB0.o.cell (p := ⟨pb, 1, none⟩) hpb).trans h1) (hN.below HB0.o) (hM.below HB0.o) hd ht hl).mono fun e w' ⟨v, he, ho, hb⟩ => by
      obtain ⟨A, cc, rfl, _, hr⟩ := ho.shape
      exact ⟨A, _, cc, he, hr.mono fun _ _ => trivial, hb⟩⟩
  have HBD := As.mk (lackList_bd (ms := ms) hd)
  have HLL : As ((lackList needs ms).length = needs.length) := ⟨by simp [lackList]⟩
  have HS0 : As (0 ≤ subN thr (shareCnt f) ∧ subN thr (shareCnt f) ≤ 1000) := ⟨by unfold subN; omega⟩
  have HMS : As (maskSum needs thr ms f ix = subN thr (shareCnt f) + (lackList needs ms).sum + if ix then 0 else 1) := ⟨rfl⟩
  have HW0 := As.mk hw0
  clear hw0 h0 h1 hN hM hd ht
  generalize lackList needs ms = LL at *
  generalize subN thr (shareCnt f) = s0 at *
  generalize maskSum needs thr ms f ix = RES at *
  have x0 : w0.cell? ⟨w.heap.size, 0, none⟩ = some (.slice B needs.length c) := (cell_of_row _ _ 0 _ _ _ HX.o).trans rfl
  have x1 : w0.cell? ⟨w.heap.size, 1, none⟩ = some (.int .u64 ((f 0).toNat : Int)) := (cell_of_row _ _ 1 _ _ _ HX.o).trans rfl
  have x2 : w0.cell? ⟨w.heap.size, 2, none⟩ = some (.int .u64 ((f 1).toNat : Int)) := (cell_of_row _ _ 2 _ _ _ HX.o).trans rfl
  have x3 : w0.cell? ⟨w.heap.size, 3, none⟩ = some (.int .u64 ((f 2).toNat : Int)) := (cell_of_row _ _ 3 _ _ _ HX.o).trans rfl
  have x4 : w0.cell? ⟨w.heap.size, 4, none⟩ = some (.int .u64 ((f 3).toNat : Int)) := (cell_of_row _ _ 4 _ _ _ HX.o).trans rfl
  have x5 : w0.cell? ⟨w.heap.size, 5, none⟩ = some (.bool ix) := (cell_of_row _ _ 5 _ _ _ HX.o).trans rfl
  go_enter Try.func68, Try.ntmps68
  go_upto_region 1 with (fail)
  rw [← HW0.o]
  go_wp2_with (go_at_call 57; refine LACK.o.mono ?_; rintro e w1 ⟨A, n, cc, rfl, hr1, hb1⟩)
  have HR := As.mk hr1
  have hn1 : n = LL.length := hr1.1.symm
  have hnm := hr1.2.1
  have HB1 := As.mk hb1
  have y5 := (hb1.cell (p := ⟨w.heap.size, 5, none⟩) hlw).trans x5
  clear hr1 hb1 x0 x1 x2 x3 x4 x5
  have HN1 := As.mk hn1
  have hln : n ≤ 64 := by rw [hn1, HLL.o]; exact hl
  clear hn1
  go_loopw [6, 17] (fun a' i' wr => ∃ k : Nat, k ≤ n ∧ i' = .int .i64 k ∧ a' = .int .i64 (s0 + (LL.take k).sum) ∧ wr = w1) (fun _ i' _ => n - (intOf i').toNat)
  case atStart => exact ⟨0, Nat.zero_le _, rfl, by simp, rfl⟩
  case round =>
    obtain ⟨k, hk, rfl, rfl, rfl⟩ := hrel
    have hb := sum_bd (LL.take k) fun x hx => HBD.o x (List.mem_of_mem_take hx)
    have htl : (LL.take k).length ≤ 64 := by rw [List.length_take]; omega
    have hs0 := HS0.o
    by_cases hlt : k < n
    · obtain ⟨ad, rfl, _, _, p0⟩ := HR.o.int_at k hlt
      have hkl : k < LL.length := by rw [← HN1.o]; exact hlt
      have HS := As.mk (sum_take_succ LL k hkl)
      have hx := HBD.o (ig LL k) (by unfold ig; rw [List.getD_eq_getElem?_getD, List.getElem?_eq_getElem hkl]; exact List.getElem_mem hkl)
      generalize ig LL k = x at *
      generalize (LL.take k).sum = s1 at *
      have hwr : IntKind.i64.wrap (s0 + s1 + x) = s0 + s1 + x := IntWalk.i64_in _ (by omega)
      go_wp2
      go_roundw
      case rel => exact ⟨k + 1, by omega, by go_num, by rw [HS.o, Int.add_assoc], trivial⟩
      case measure => simp [intOf]; omega
    · have e : k = n := by omega
      subst e
      rw [List.take_of_length_le (by rw [HN1.o]; exact Nat.le_refl _)] at hb ⊢
      generalize LL.sum = s1 at *
      have hlt64 : (LL.length : Int) ≤ 64 := by rw [← HN1.o]; omega
      cases ix with
      | false =>
        have hwr : IntKind.i64.wrap (s0 + s1 + 1) = s0 + s1 + 1 := IntWalk.i64_in _ (by omega)
        go_wp2
        go_ret
        exact ⟨by rw [HMS.o]; rfl, bthen HB0.o HB1.o (Nat.le_refl _)⟩
      | true =>
        go_wp2
        go_ret
        exact ⟨by rw [HMS.o]; simp, bthen HB0.o HB1.o (Nat.le_refl _)⟩
end Go.Proofs.Ytlinhckgdfhppaa
