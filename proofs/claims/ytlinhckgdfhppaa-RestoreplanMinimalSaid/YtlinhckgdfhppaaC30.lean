/- A part of the proof: what the functions do, and plain laws. -/
import Derived.Test.YtlinhckgdfhppaaC29
import Derived.Deep.DeepCutAuto
import Derived.Deep.RegionWith
namespace Go.Proofs.Ytlinhckgdfhppaa
open Go Go.RowKit Go.Proofs.YtlinhckgdfhppaaK
open Go.ChangeMaps (setBlock)

/-- The need map: the last need of a name among the first k. -/
def needTo (needs : List Need) : Nat → ByteArray → Option Nat
  | 0 => fun _ => none
  | k + 1 => upd (needTo needs k) (pg needs k).1 k
theorem needTo_lt (needs : List Need) : ∀ (k : Nat) (s : ByteArray) (i : Nat), needTo needs k s = some i → i < k
  | 0, s, i, h => by cases h
  | k + 1, s, i, h => by
    by_cases e : s = (pg needs k).1
    · rw [needTo, upd, if_pos e] at h
      cases h
      omega
    · rw [needTo, upd, if_neg e] at h
      have := needTo_lt needs k s i h
      omega
/-- The cells of a problem. -/
abbrev probCells (g : Goal) (A1 : Option Addr) (c1 : Nat) (A2 : Option Addr) (c2 : Nat) (A3 : Option Addr) (c3 : Nat) (v : Value) (mb : Nat) (B : Option Addr) (n c : Nat) (f : Nat → BitVec 64) (ix : Bool) : Array Value :=
  #[.slice A1 g.needs.length c1, .int .i64 g.thr, .bool g.index, .slice A2 g.pieces.length c2, .slice A3 g.shares.length c3, v, .map (some mb), .slice B n c, .int .u64 ((f 0).toNat : Int), .int .u64 ((f 1).toNat : Int), .int .u64 ((f 2).toNat : Int), .int .u64 ((f 3).toNat : Int), .bool ix]
def zeroW : Nat → BitVec 64 := fun _ => 0
/-- The new problem as it is laid. -/
structure NP (n0 : Nat) (W0 W : World) (pb mb : Nat) (v : Value) (cs : Array Value) (list : List Hold) : Prop where
  cells : W.heap[pb]? = some (.cells cs 96 (0, 0))
  hmap : Go.Proofs.YtlinhckgdfhppaaK.MapAt W mb Value.string eIdx (fun _ => none)
  own : OwnK (fun k => k < n0) kHold 78 W W0.heap.size v list
  p1 : W0.heap.size ≤ pb
  m1 : W0.heap.size ≤ mb
  ne : pb ≠ mb
  np : v.ownBlock ≠ some pb
  nm : v.ownBlock ≠ some mb
  below : Below W0.heap.size W0 W
theorem np1 {n0 : Nat} {W0 w1 : World} {v : Value} {list : List Hold} (h : OwnK (fun k => k < n0) kHold 78 w1 W0.heap.size v list) (hb : Below W0.heap.size W0.drew w1) (cs : Array Value) : NP n0 W0 ((w1.alloc (.map #[] 0)).alloc (.cells cs 96)) (w1.heap.size + 1) w1.heap.size v cs list := by
  have hs : W0.heap.size ≤ w1.heap.size := hb.size
  have b1 : Below w1.heap.size w1 (w1.alloc (.map #[] 0)) := (Below.refl _ _).alloc (Nat.le_refl _) _
  have hs1 : (w1.alloc (.map #[] 0)).heap.size = w1.heap.size + 1 := by simp
  have b2 : Below (w1.heap.size + 1) (w1.alloc (.map #[] 0)) ((w1.alloc (.map #[] 0)).alloc (.cells cs 96)) := (Below.refl _ _).alloc (by omega) _
  refine ⟨?_, (Go.Proofs.YtlinhckgdfhppaaK.MapAt.made w1 _ _).below b2 (by omega), (h.below b1).below (by rw [hs1]; exact b2), by omega, hs, by omega, fun e => by have := (h.lt _ e).2; omega, fun e => by have := (h.lt _ e).2; omega, ?_⟩
  · rw [← hs1]
    exact heap_alloc_new _ _
  · exact ⟨hb.os, hb.tape, hb.output, by simp; omega, fun k hk => (b2.block k (by omega)).trans ((b1.block k (by omega)).trans (hb.block k hk))⟩
theorem np2 {n0 : Nat} {W0 w1 : World} {v : Value} {list : List Hold} (h : OwnK (fun k => k < n0) kHold 78 w1 (W0.heap.size + 1) v list) (hb : Below (W0.heap.size + 1) (W0.alloc (.map #[] 0)).drew w1) (cs : Array Value) : NP n0 W0 (w1.alloc (.cells cs 96)) w1.heap.size W0.heap.size v cs list := by
  have hs1 : (W0.alloc (.map #[] 0)).heap.size = W0.heap.size + 1 := by simp
  have hs : W0.heap.size + 1 ≤ w1.heap.size := by rw [← hs1]; exact hb.size
  have b0 : Below W0.heap.size W0 (W0.alloc (.map #[] 0)) := (Below.refl _ _).alloc (Nat.le_refl _) _
  have b2 : Below w1.heap.size w1 (w1.alloc (.cells cs 96)) := (Below.refl _ _).alloc (Nat.le_refl _) _
  refine ⟨heap_alloc_new _ _, (Go.Proofs.YtlinhckgdfhppaaK.MapAt.made W0 _ _).move ?_, (h.below b2).lower (by omega), by omega, Nat.le_refl _, by omega, fun e => by have := (h.lt _ e).2; omega, fun e => by have := (h.lt _ e).1; omega, ?_⟩
  · exact (b2.block _ (by omega)).trans (hb.block _ (by omega))
  · exact ⟨hb.os, hb.tape, hb.output, by simp; omega, fun k hk => (b2.block k (by omega)).trans ((hb.block k (by omega)).trans (b0.block k hk))⟩

/-- Six stores into one block, then a block laid. -/
theorem np8 {wr : World} {pb : Nat} {cs : Array Value} {t : TypeId} (HC : wr.heap[pb]? = some (.cells cs t (0, 0))) (a b c d e f : Value) (o : Obj) :
    let W := (((((((wr.setCell ⟨pb, 7, none⟩ a).setCell ⟨pb, 8, none⟩ b).setCell ⟨pb, 9, none⟩ c).setCell ⟨pb, 10, none⟩ d).setCell ⟨pb, 11, none⟩ e).setCell ⟨pb, 12, none⟩ f).alloc o).drew
    W.heap[pb]? = some (.cells ((((((cs.setIfInBounds 7 a).setIfInBounds 8 b).setIfInBounds 9 c).setIfInBounds 10 d).setIfInBounds 11 e).setIfInBounds 12 f) t (0, 0)) ∧ W.heap[wr.heap.size]? = some o ∧ wr.grownBy W (some pb) := by
  intro W
  have hl := blk_lt HC
  have g1 := grownBy_trans (grownBy_trans (grownBy_trans (grownBy_trans (grownBy_trans (grownBy_set wr ⟨pb, 7, none⟩ a) (grownBy_set _ ⟨pb, 8, none⟩ b)) (grownBy_set _ ⟨pb, 9, none⟩ c)) (grownBy_set _ ⟨pb, 10, none⟩ d)) (grownBy_set _ ⟨pb, 11, none⟩ e)) (grownBy_set _ ⟨pb, 12, none⟩ f)
  have b1 := blk_set (i := 12) (blk_set (i := 11) (blk_set (i := 10) (blk_set (i := 9) (blk_set (i := 8) (blk_set (i := 7) HC a) b) c) d) e) f
  obtain ⟨W6, hW6⟩ : ∃ W6 : World, W6 = ((((((wr.setCell ⟨pb, 7, none⟩ a).setCell ⟨pb, 8, none⟩ b).setCell ⟨pb, 9, none⟩ c).setCell ⟨pb, 10, none⟩ d).setCell ⟨pb, 11, none⟩ e).setCell ⟨pb, 12, none⟩ f) := ⟨_, rfl⟩
  have hs : W6.heap.size = wr.heap.size := by rw [hW6]; simp
  have e1 : W = (W6.alloc o).drew := by rw [hW6]
  rw [e1]
  rw [← hW6] at g1 b1
  refine ⟨(Below.heap_alloc W6 _ _ (by omega)).trans b1, by rw [← hs]; exact heap_alloc_new W6 o, g1.os, g1.tape, g1.output, (show wr.heap.size ≤ (W6.alloc o).heap.size by simp; omega), fun k hk hne => (Below.heap_alloc W6 _ _ (by omega)).trans (g1.block k hk hne)⟩

set_option maxRecDepth 100000 in
set_option maxHeartbeats 1500000 in
theorem newProblem_any (g : Goal) (A1 : Option Addr) (c1 : Nat) (A2 : Option Addr) (c2 : Nat) (A3 : Option Addr) (c3 : Nat) (A4 : Option Addr) (c4 : Nat) (list : List Hold) (w : World)
    (hg : GoalIn w (fun k => k < w.heap.size) g A1 c1 A2 c2 A3 c3) (hl : Row kHold w (fun k => k < w.heap.size) A4 list.length list)
    (hn : g.needs.length ≤ 64) (hnl : list.length ≤ 12) (hd : (list.map (·.dev)).Nodup) (hp : ∀ p ∈ g.pieces, 0 ≤ p.2 ∧ p.2 < 16) (hx : ∀ x ∈ g.shares, 1 ≤ x ∧ x ≤ 255) :
    Calls Try.prog 42 #[.agg (goalCells g A1 c1 A2 c2 A3 c3), .slice A4 list.length c4] w fun e w' => ∃ pb mb A cl B c, e = .returned (.pointer (some ⟨pb, 0, none⟩)) ∧
      ProbIn w' pb mb g.needs g.thr A1 c1 (needTo g.needs g.needs.length) A list.length cl (sortH list) B c (giveM (needTo g.needs g.needs.length) (List.replicate g.needs.length 0) g.pieces) (addWs zeroW g.shares) (!g.index) ∧ Below w.heap.size w w' := by
  have HG := As.mk hg
  have HL := As.mk hl
  have HP := As.mk hp
  have HX := As.mk hx
  have HD := As.mk hd
  have CL : As (∀ W : World, Below w.heap.size w W → Calls Try.prog 70 #[.slice A4 list.length c4] W fun e w' => ∃ Av cv, e = .returned (.slice Av list.length cv) ∧ OwnK (fun k => k < w.heap.size) kHold 78 w' W.heap.size (.slice Av list.length cv) list ∧ Below W.heap.size W w') := ⟨fun W hW => (cloneHold_any A4 list.length c4 _ list W (HL.o.below hW) (by omega)).mono fun e w' ⟨v, he, ho, hb⟩ => by
    obtain ⟨Av, cv, ev, _, _⟩ := ho.shape
    subst ev
    exact ⟨Av, cv, he, ho, hb⟩⟩
  clear hg hl hp hx hd
  have hmm := @run_makeMap Try.prog
  go_enter Try.func42, Try.ntmps42
  go_upto_region 1 with (fail)
  obtain ⟨W0, hW0⟩ : ∃ W0 : World, W0 = w.alloc (.cells (goalCells g A1 c1 A2 c2 A3 c3) 26) := ⟨_, rfl⟩
  rw [← hW0]
  have X0 : As (W0.heap[w.heap.size]? = some (.cells (goalCells g A1 c1 A2 c2 A3 c3) 26 (0, 0))) := ⟨by rw [hW0]; exact heap_alloc_new w _⟩
  have HB0 : As (Below w.heap.size w W0) := ⟨by rw [hW0]; exact (Below.refl w.heap.size w).alloc (Nat.le_refl _) _⟩
  have hs0 : W0.heap.size = w.heap.size + 1 := by rw [hW0]; simp
  clear hW0
  go_cut [5] (fun s5 wx => ∃ pb mb Av cv, s5 = .pointer (some ⟨pb, 0, none⟩) ∧ As (NP w.heap.size W0 wx pb mb (.slice Av list.length cv) (probCells g A1 c1 A2 c2 A3 c3 (.slice Av list.length cv) mb none 0 0 zeroW false) list))
  case first =>
    have a0 : W0.cell? ⟨w.heap.size, 0, none⟩ = some (.slice A1 g.needs.length c1) := (cell_of_row _ _ 0 _ _ _ X0.o).trans rfl
    have a1 : W0.cell? ⟨w.heap.size, 1, none⟩ = some (.int .i64 g.thr) := (cell_of_row _ _ 1 _ _ _ X0.o).trans rfl
    have a2 : W0.cell? ⟨w.heap.size, 2, none⟩ = some (.bool g.index) := (cell_of_row _ _ 2 _ _ _ X0.o).trans rfl
    have a3 : W0.cell? ⟨w.heap.size, 3, none⟩ = some (.slice A2 g.pieces.length c2) := (cell_of_row _ _ 3 _ _ _ X0.o).trans rfl
    have a4 : W0.cell? ⟨w.heap.size, 4, none⟩ = some (.slice A3 g.shares.length c3) := (cell_of_row _ _ 4 _ _ _ X0.o).trans rfl
    have hlw := blk_lt X0.o
    have CL2 : As (∀ W : World, Below W0.heap.size W0 W → Calls Try.prog 70 #[.slice A4 list.length c4] W fun e w' => ∃ Av cv, e = .returned (.slice Av list.length cv) ∧ OwnK (fun k => k < w.heap.size) kHold 78 w' W.heap.size (.slice Av list.length cv) list ∧ Below W.heap.size W w' ∧
      w'.cell? ⟨w.heap.size, 0, none⟩ = some (.slice A1 g.needs.length c1) ∧ w'.cell? ⟨w.heap.size, 1, none⟩ = some (.int .i64 g.thr) ∧ w'.cell? ⟨w.heap.size, 2, none⟩ = some (.bool g.index) ∧ w'.cell? ⟨w.heap.size, 3, none⟩ = some (.slice A2 g.pieces.length c2) ∧ w'.cell? ⟨w.heap.size, 4, none⟩ = some (.slice A3 g.shares.length c3) ∧ w.heap.size < w'.heap.size) := ⟨fun W hW => (CL.o W ((HB0.o.trans (hW.mono (by omega))))).mono fun e w' ⟨Av, cv, he, ho, hb⟩ => by
        have hc : ∀ i, w'.cell? ⟨w.heap.size, i, none⟩ = W0.cell? ⟨w.heap.size, i, none⟩ := fun i => (hb.cell (p := ⟨w.heap.size, i, none⟩) (Nat.lt_of_lt_of_le hlw hW.size)).trans (hW.cell (p := ⟨w.heap.size, i, none⟩) hlw)
        exact ⟨Av, cv, he, ho, hb, (hc 0).trans a0, (hc 1).trans a1, (hc 2).trans a2, (hc 3).trans a3, (hc 4).trans a4, Nat.lt_of_lt_of_le hlw (Nat.le_trans hW.size hb.size)⟩⟩
    go_region_with (go_at_call 70; refine (CL2.o _ ?hbb).mono ?_; (case hbb => first | exact below_drewN (Below.refl _ W0) 1 | exact below_drewN ((Below.refl _ W0).alloc (Nat.le_refl _) _) 1); rintro e w1 ⟨Av, cv, rfl, hown, hb1, b0, b1, b2, b3, b4, bl⟩)
    all_goals (go_wp2_with fail; go_meet; first
      | (refine ⟨w1.heap.size + 1, w1.heap.size, Av, cv, rfl, ⟨?_⟩⟩; exact np1 (W0 := W0) hown hb1 _)
      | (rw [show w.heap.size + 1 = W0.heap.size from hs0.symm]; exact ⟨_, _, Av, cv, rfl, ⟨np2 (W0 := W0) (by simpa using hown) (by simpa using hb1) _⟩⟩))
  case rest =>
    obtain ⟨pb, mb, Av, cv, rfl, HNP⟩ := hcut
    have hszc : w.heap.size + 1 ≤ wc.heap.size := by have := HNP.o.below.size; omega
    have SORT := As.mk (sortHold_any wc W0.heap.size (.slice Av list.length cv) list _ HNP.o.own (by omega) HD.o)
    have d5 : wc.cell? ⟨pb, 5, none⟩ = some (.slice Av list.length cv) := (cell_of_row _ _ 5 _ _ _ HNP.o.cells).trans rfl
    have hpbl := blk_lt HNP.o.cells
    have hmbl := HNP.o.hmap.lt
    have hp1 := HNP.o.p1
    have hm1 := HNP.o.m1
    have hpm := HNP.o.ne
    have hnp := HNP.o.np
    have hnm := HNP.o.nm
    go_wp2_with (go_at_call 71; fail)
    refine SORT.o.mono ?_
    rintro e w2 ⟨rfl, ⟨Ah, ch, hsl, hrow⟩, hg2⟩
    have HRW := As.mk hrow
    have HC2 := As.mk ((hg2.block pb hpbl (fun e => HNP.o.np e.symm)).trans HNP.o.cells)
    have HM2 := As.mk (HNP.o.hmap.move (hg2.block mb hmbl (fun e => HNP.o.nm e.symm)))
    have hvl : ∀ k, (Value.slice Av list.length cv).ownBlock = some k → W0.heap.size ≤ k := fun k e => (HNP.o.own.lt k e).1
    have HB2 : As (Below W0.heap.size W0 w2) := ⟨⟨hg2.os.trans HNP.o.below.os, hg2.tape.trans HNP.o.below.tape, hg2.output.trans HNP.o.below.output, Nat.le_trans HNP.o.below.size hg2.size, fun k hk => (hg2.block k (Nat.lt_of_lt_of_le hk HNP.o.below.size) (fun e => by have := hvl k e.symm; omega)).trans (HNP.o.below.block k hk)⟩⟩
    have hsz2 := hg2.size
    have HSL := As.mk hsl
    clear hrow hg2 hvl HNP SORT d5 hsl CL
    have e0 : w2.cell? ⟨w.heap.size, 0, none⟩ = some (.slice A1 g.needs.length c1) := (HB2.o.cell (p := ⟨w.heap.size, 0, none⟩) (show w.heap.size < W0.heap.size by omega)).trans ((cell_of_row _ _ 0 _ _ _ X0.o).trans rfl)
    go_wp2
    go_loopw [22] (fun i' wr => ∃ k : Nat, k ≤ g.needs.length ∧ i' = .int .i64 k ∧ As (Go.Proofs.YtlinhckgdfhppaaK.MapAt wr mb Value.string eIdx (needTo g.needs k)) ∧ As (w2.grownBy wr (some mb))) (fun i' _ => g.needs.length - (intOf i').toNat)
    case atStart => exact ⟨0, Nat.zero_le _, rfl, HM2, ⟨⟨rfl, rfl, rfl, Nat.le_refl _, fun _ _ _ => rfl⟩⟩⟩
    case round =>
      obtain ⟨k, hk, rfl, HMK, HGK⟩ := hrel
      have hszk := HGK.o.size
      have HBR : As (Below w.heap.size w wr) := ⟨HB0.o.trans ⟨HGK.o.os.trans HB2.o.os, HGK.o.tape.trans HB2.o.tape, HGK.o.output.trans HB2.o.output, Nat.le_trans HB2.o.size hszk, fun j hj => (HGK.o.block j (by omega) (fun e => by injection e; omega)).trans (HB2.o.block j (by omega))⟩⟩
      have HCR := As.mk ((HGK.o.block pb (by omega) (fun e => by injection e; omega)).trans HC2.o)
      by_cases hlt : k < g.needs.length
      · obtain ⟨ad, e1, _, _, p0, p1⟩ := rowPiece (HG.o.n.below HBR.o) k hlt
        subst e1
        have HSN := As.mk (show needTo g.needs (k + 1) = upd (needTo g.needs k) (pg g.needs k).1 k from rfl)
        generalize needTo g.needs k = nfk at *
        generalize pg g.needs k = y at *
        have f6 : wr.cell? ⟨pb, 6, none⟩ = some (.map (some mb)) := (cell_of_row _ _ 6 _ _ _ HCR.o).trans rfl
        have hpr := blk_lt HCR.o
        have hmr := HMK.o.lt
        have LS := As.mk fun W hW => (HMK.o.move (w' := W) hW).store (string_key Try.underlying9) Try.underlying88 y.1 k
        go_wp2
        refine wp_region_drew_tail 7 (by kernel_rfl) (by kernel_rfl) ?_
        simp only [List.take_succ_cons, List.take_zero, List.drop_succ_cons, List.drop_zero]
        repeat (go_big_quiet_step (fail))
        refine wpQuiet_nil ?_
        rintro _ ⟨q, rfl⟩
        go_wp2_with (at_mapUpdate; refine wpList_store_map rfl _ _ _ 88 rfl mb (.string y.1) (eIdx k) rfl rfl rfl (LS.o _ (by (repeat (first | rfl | (refine (Below.heap_alloc _ _ _ (by (first | omega | (simp; done) | (simp; omega)))).trans ?_) | (refine (Below.heap_setCell _ _ _ _ (by (first | omega | (simp; done) | (simp; omega)))).trans ?_) | (refine (heap_drew _ _).trans ?_) | (refine (heap_setBlock_far _ _ _ _ (by (first | omega | (simp; done) | (simp; omega)))).trans ?_))))) ?_; intro o hmap)
        go_roundw
        case rel =>
          refine ⟨k + 1, by omega, by go_num, ⟨by rw [HSN.o]; exact hmap⟩, ⟨⟨HGK.o.os, HGK.o.tape, HGK.o.output, ?_, fun j hj hne => ?_⟩⟩⟩
          · exact Nat.le_trans HGK.o.size (by simp [Go.ChangeMaps.setBlock, World.drewN])
          · exact (heap_setBlock_far _ _ _ _ (fun e => hne (by rw [e]))).trans ((Below.heap_alloc wr _ j (by omega)).trans (HGK.o.block j hj hne))
        case measure => simp [intOf]; omega
      · have e : k = g.needs.length := by omega
        subst e
        have XR := As.mk ((HGK.o.block w.heap.size (by have := HB2.o.size; omega) (fun e => by injection e; omega)).trans ((HB2.o.block w.heap.size (by omega)).trans X0.o))
        obtain ⟨i16, q1, q2, q3, q4⟩ : ∃ i : TypeInfo, Try.prog.info? 110 = some i ∧ i.zero = some (.int .u16 0) ∧ i.size = 1 ∧ i.bytes = 2 := by
          obtain ⟨i, hi, hz⟩ := Option.map_eq_some_iff.1 info_u16
          simp only [Prod.mk.injEq] at hz
          exact ⟨i, hi, hz.1, hz.2.1, hz.2.2⟩
        obtain ⟨MC, hMC⟩ : ∃ MC, MC = madeCells (Value.int .u16 0).cells (g.needs.length * 1) := ⟨_, rfl⟩
        have hmk : ∀ W : World, (Instr.makeSlice 89 (.int .i64 (g.needs.length : Int)) (.int .i64 (g.needs.length : Int))).run Try.prog W = .ok (.slice (some ⟨W.heap.size, 0, none⟩) g.needs.length g.needs.length) (W.alloc (.cells MC 110)) := fun W => by
          have := run_make W 89 110 i16 (.int .u16 0) Try.underlying89 q1 q2 .i64 .i64 (g.needs.length : Int) (g.needs.length : Int) (by omega) (by omega) (by rw [q4]; omega) (by omega)
          rw [q3, Int.toNat_natCast] at this
          rw [hMC]
          exact this
        have HMC : As (MC.toList = (List.replicate g.needs.length (0 : BitVec 16)).map mval ∧ MC.size = g.needs.length) := ⟨by
          rw [hMC]
          refine ⟨?_, by simp [madeCells]⟩
          rw [made_scalar _ rfl]
          simp⟩
        clear hMC q1 q2 q3 q4
        have x0 : wr.cell? ⟨w.heap.size, 0, none⟩ = some (.slice A1 g.needs.length c1) := (cell_of_row _ _ 0 _ _ _ XR.o).trans rfl
        have x2 : wr.cell? ⟨w.heap.size, 2, none⟩ = some (.bool g.index) := (cell_of_row _ _ 2 _ _ _ XR.o).trans rfl
        have hws := blk_lt XR.o
        have hpr := blk_lt HCR.o
        have hfz : ∀ i, wr.frozen? ⟨pb, i, none⟩ = false := fun i => blk_frozen HCR.o
        have k7 : wr.cell? ⟨pb, 7, none⟩ = some (.slice none 0 0) := (cell_of_row _ _ 7 _ _ _ HCR.o).trans rfl
        have k8 : wr.cell? ⟨pb, 8, none⟩ = some (.int .u64 0) := (cell_of_row _ _ 8 _ _ _ HCR.o).trans rfl
        have k9 : wr.cell? ⟨pb, 9, none⟩ = some (.int .u64 0) := (cell_of_row _ _ 9 _ _ _ HCR.o).trans rfl
        have k10 : wr.cell? ⟨pb, 10, none⟩ = some (.int .u64 0) := (cell_of_row _ _ 10 _ _ _ HCR.o).trans rfl
        have k11 : wr.cell? ⟨pb, 11, none⟩ = some (.int .u64 0) := (cell_of_row _ _ 11 _ _ _ HCR.o).trans rfl
        have k12 : wr.cell? ⟨pb, 12, none⟩ = some (.bool false) := (cell_of_row _ _ 12 _ _ _ HCR.o).trans rfl
        go_upto_region 8 with (fail)
        go_cut [] (fun wx => ∃ B, As (wx.heap[pb]? = some (.cells (probCells g A1 c1 A2 c2 A3 c3 (.slice Av list.length cv) mb B g.needs.length g.needs.length zeroW (!g.index)) 96 (0, 0))) ∧
          As (wx.ownsRow wr.heap.size 110 1 (.slice B g.needs.length g.needs.length) g.needs.length ((List.replicate g.needs.length (0 : BitVec 16)).map mval)) ∧ As (wr.grownBy wx (some pb)))
        case first =>
          go_region_with (fail)
          all_goals (go_wp2_with fail; go_meet; refine ⟨some ⟨wr.heap.size, 0, none⟩, ⟨(np8 HCR.o _ _ _ _ _ _ _).1⟩, ⟨⟨by simp, .inr ⟨wr.heap.size, _, MC, rfl, Nat.le_refl _, (np8 HCR.o _ _ _ _ _ _ _).2.1, Nat.le_refl _, by unfold maxLen; omega, by rw [HMC.o.2, Nat.mul_one], by rw [HMC.o.1, Nat.mul_one, List.take_of_length_le (by simp)]⟩⟩⟩, ⟨(np8 HCR.o _ _ _ _ _ _ _).2.2⟩⟩)
        case rest =>
          obtain ⟨B, HCX, HOX, HGX⟩ := hcut
          have hszx := HGX.o.size
          have HMX : As (Go.Proofs.YtlinhckgdfhppaaK.MapAt wc mb Value.string eIdx (needTo g.needs g.needs.length)) := ⟨HMK.o.move (HGX.o.block mb HMK.o.lt (fun e => by injection e; omega))⟩
          have XX := As.mk ((HGX.o.block w.heap.size hws (fun e => by injection e; omega)).trans XR.o)
          have y3 : wc.cell? ⟨w.heap.size, 3, none⟩ = some (.slice A2 g.pieces.length c2) := (cell_of_row _ _ 3 _ _ _ XX.o).trans rfl
          have y4 : wc.cell? ⟨w.heap.size, 4, none⟩ = some (.slice A3 g.shares.length c3) := (cell_of_row _ _ 4 _ _ _ XX.o).trans rfl
          have HBX : As (Below w.heap.size w wc) := ⟨HBR.o.os ▸ HGX.o.os, HBR.o.tape ▸ HGX.o.tape, HBR.o.output ▸ HGX.o.output, Nat.le_trans HBR.o.size hszx, fun k hk => (HGX.o.block k (by omega) (fun e => by injection e; omega)).trans (HBR.o.block k hk)⟩
          have hgB : ∀ j, (Value.slice B g.needs.length g.needs.length).ownBlock = some j → wr.heap.size ≤ j := fun j e => (HOX.o.lt j e).1
          have GIVE := As.mk fun q => give_any pb mb pb 7 wr.heap.size (probCells g A1 c1 A2 c2 A3 c3 (.slice Av list.length cv) mb B g.needs.length g.needs.length zeroW (!g.index)) 96 B g.needs.length g.needs.length (List.replicate g.needs.length 0) zeroW (!g.index) (needTo g.needs g.needs.length) ⟨0, g.pieces, g.shares, false⟩ A2 c2 A3 c3 (wc.drewN q)
            ((cell_of_row _ _ 6 _ _ _ HCX.o).trans rfl) HMX.o (needTo_lt g.needs _) HCX.o rfl ⟨fun i hi => by rcases (show i = 0 ∨ i = 1 ∨ i = 2 ∨ i = 3 by omega) with rfl | rfl | rfl | rfl <;> rfl⟩ rfl HOX.o (by simp)
            (fun j e => by have := hgB j e; have := HMK.o.lt; refine ⟨?_, ?_, ?_⟩ <;> omega) ((HG.o.p.below (below_drewN HBX.o q)).mono fun j hj e => by have := hgB j e; have := HBR.o.size; omega) HP.o
            ((HG.o.s.below (below_drewN HBX.o q)).mono fun j hj => ⟨fun e => by have := hgB j e; have := HBR.o.size; omega, by omega⟩) HX.o
          go_wp2
          refine wp_region_drew_tail 9 (by kernel_rfl) (by kernel_rfl) ?_
          simp only [List.take_succ_cons, List.take_zero, List.drop_succ_cons, List.drop_zero]
          repeat (go_big_quiet_step (fail))
          refine wpQuiet_nil ?_
          rintro _ ⟨q, rfl⟩
          go_wp2_with (go_at_call 73; refine (GIVE.o q).mono ?_; rintro e w5 ⟨rfl, hown5, ⟨cs5, hb5, hsz5, hfar5, hw5, hi5⟩, ho1, ho2, ho3, hsi, hot⟩)
          go_ret
          have hcc : ∀ i, w5.cell? ⟨pb, i, none⟩ = cs5[i]? := fun i => cell_of_row _ _ i _ _ _ hb5
          have hsb : wr.heap.size ≤ wc.heap.size := hszx
          have HB5 : Below w.heap.size w w5 := ⟨ho1.trans HBX.o.os, ho2.trans HBX.o.tape, ho3.trans HBX.o.output, Nat.le_trans HBX.o.size hsi, fun k hk => (hot k (show k < wc.heap.size by omega) (by omega) (fun e => by have := hgB k e; omega)).trans (HBX.o.block k hk)⟩
          have hmr := HMK.o.lt
          refine ⟨pb, mb, Ah, ch, B, g.needs.length, rfl, ⟨?_, ?_, ?_, ?_, ?_, ?_, ?_, ?_, ?_, ?_, ?_⟩, HB5⟩
          · exact (hcc 0).trans (hfar5 0 (by omega))
          · exact (hcc 1).trans (hfar5 1 (by omega))
          · exact ((hcc 5).trans (hfar5 5 (by omega))).trans (congrArg some HSL.o)
          · exact (hcc 6).trans (hfar5 6 (by omega))
          · exact (hcc 7).trans (hfar5 7 (by omega))
          · exact fun i hi => (hcc (8 + i)).trans (hw5.at_ i hi)
          · rw [Bool.or_false] at hi5
            exact (hcc 12).trans hi5
          · exact (HG.o.n.below HB5).mono fun k hk => Nat.lt_of_lt_of_le hk HB5.size
          · exact HMX.o.move (hot mb (show mb < wc.heap.size by omega) (fun e => hpm e.symm) (fun e => by have := hgB mb e; omega))
          · refine (HRW.o.move fun k hk => ?_).mono fun k hk => ?_
            · have hkp : k ≠ pb := fun e => by
                subst e
                rcases hk.1 with h1 | h1
                · exact hnp h1
                · omega
              have hkm : k ≠ mb := fun e => by
                subst e
                rcases hk.1 with h1 | h1
                · exact hnm h1
                · omega
              have h2 := hk.2
              exact (hot k (show k < wc.heap.size by omega) hkp (fun e => by have := hgB k e; omega)).trans ((HGX.o.block k (by omega) (fun e => by injection e; omega)).trans (HGK.o.block k h2 (fun e => by injection e; omega)))
            · have h2 := hk.2
              have h3 : wc.heap.size ≤ w5.heap.size := hsi
              omega
          · exact (row_masks hown5).2.bound.mono fun k hk => hk.2
end Go.Proofs.Ytlinhckgdfhppaa
