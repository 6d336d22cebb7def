/- A part of the proof: what the functions do, and plain laws. -/
import Derived.Test.YtlinhckgdfhppaaC25
namespace Go.Proofs.Ytlinhckgdfhppaa
open Go Go.RowKit Go.Proofs.YtlinhckgdfhppaaK

/-- The stock with the first k holdings of the set s. -/
def withM (nf : ByteArray → Option Nat) (list : List Hold) (s : Nat) (ms : List (BitVec 16)) : Nat → List (BitVec 16)
  | 0 => ms
  | k + 1 => if s.testBit k = true then giveM nf (withM nf list s ms k) (hgt list k).pieces else withM nf list s ms k
def withW (list : List Hold) (s : Nat) (f : Nat → BitVec 64) : Nat → (Nat → BitVec 64)
  | 0 => f
  | k + 1 => if s.testBit k = true then addWs (withW list s f k) (hgt list k).shares else withW list s f k
def withI (list : List Hold) (s : Nat) (ix : Bool) : Nat → Bool
  | 0 => ix
  | k + 1 => if s.testBit k = true then withI list s ix k || (hgt list k).index else withI list s ix k
theorem withM_len (nf : ByteArray → Option Nat) (list : List Hold) (s : Nat) (ms : List (BitVec 16)) : ∀ k, (withM nf list s ms k).length = ms.length
  | 0 => rfl
  | k + 1 => by
    rw [withM]
    split
    · rw [giveM_len, withM_len nf list s ms k]
    · exact withM_len nf list s ms k
/-- A stock in a block of its own, its masks in a row of the call's own. -/
structure StockIn (W : World) (sb base : Nat) (B : Option Addr) (n c : Nat) (ms : List (BitVec 16)) (f : Nat → BitVec 64) (ix : Bool) : Prop where
  own : W.ownsRow base 110 1 (.slice B n c) n (ms.map mval)
  far : ∀ g, (Value.slice B n c).ownBlock = some g → sb < g
  cells : ∃ cs, W.heap[sb]? = some (.cells cs 94 (0, 0)) ∧ cs[0]? = some (.slice B n c) ∧ WordsAt cs 1 f ∧ cs[5]? = some (.bool ix) ∧ cs.size = 6
set_option maxRecDepth 100000 in
set_option maxHeartbeats 1000000 in
theorem with_any (pb mb : Nat) (nf : ByteArray → Option Nat) (A : Option Addr) (nl cl : Nat) (list : List Hold) (s : Nat) (B0 : Option Addr) (n c0 : Nat) (ms : List (BitVec 16)) (f : Nat → BitVec 64) (ix : Bool) (w : World)
    (h5 : w.cell? ⟨pb, 5, none⟩ = some (.slice A nl cl)) (h6 : w.cell? ⟨pb, 6, none⟩ = some (.map (some mb))) (h7 : w.cell? ⟨pb, 7, none⟩ = some (.slice B0 n c0))
    (hw : ∀ i, i < 4 → w.cell? ⟨pb, 8 + i, none⟩ = some (.int .u64 ((f i).toNat : Int))) (hi : w.cell? ⟨pb, 12, none⟩ = some (.bool ix))
    (hmap : MapAt w mb Value.string eIdx nf) (hnf : ∀ s i, nf s = some i → i < n) (hR : Row kHold w (fun k => k < w.heap.size) A nl list) (hM : Row kMask w (fun k => k < w.heap.size) B0 n ms)
    (hn : n ≤ 64) (hnl : nl ≤ 12) (hs : s < 18446744073709551616) (hp : ∀ h ∈ list, (∀ p ∈ h.pieces, 0 ≤ p.2 ∧ p.2 < 16) ∧ (∀ x ∈ h.shares, 1 ≤ x ∧ x ≤ 255)) :
    Calls Try.prog 43 #[.pointer (some ⟨pb, 0, none⟩), .int .u64 (s : Int)] w fun e w' => ∃ B c, e = .returned (.agg (stockCells B n c (withW list s f nl) (withI list s ix nl))) ∧
      w'.ownsRow w.heap.size 110 1 (.slice B n c) n ((withM nf list s ms nl).map mval) ∧ Below w.heap.size w w' := by
  have hpb := World.block_lt_of_cell? w _ h5
  have w0 := hw 0 (by omega)
  have w1 := hw 1 (by omega)
  have w2 := hw 2 (by omega)
  have w3 := hw 3 (by omega)
  have HRL := As.mk hR
  have HML := As.mk hM
  have HMAP := As.mk hmap
  have hmb := hmap.lt
  have hml : ms.length = n := hM.1
  have HNF := As.mk hnf
  have HP := As.mk hp
  have CL : As (∀ W : World, Below w.heap.size w W → Calls Try.prog 74 #[.slice B0 n c0] W fun e w' => ∃ B c, e = .returned (.slice B n c) ∧ w'.ownsRow w.heap.size 110 1 (.slice B n c) n (ms.map mval) ∧ (∀ g, (Value.slice B n c).ownBlock = some g → W.heap.size ≤ g) ∧ Below W.heap.size W w') := ⟨fun W hW => (clone16_any B0 n c0 _ ms W (hM.below hW) hn).mono fun e w' ⟨v, he, ho, hb⟩ => by
    obtain ⟨B, c, ev, _, _⟩ := ho.shape
    subst ev
    rw [hml] at he ho
    have hsc := OwnK.scalar (ho.lower hW.size)
    rw [hml] at hsc
    exact ⟨B, c, he, hsc, fun g e => (ho.lt g e).1, hb⟩⟩
  clear hR hM hmap hnf hp hw
  go_enter Try.func43, Try.ntmps43
  go_wp2_with (go_at_call 74; fail)
  obtain ⟨W1, hW1⟩ : ∃ W1 : World, W1 = w.alloc (.cells #[.slice none 0 0, .int .u64 0, .int .u64 0, .int .u64 0, .int .u64 0, .bool false] 94) := ⟨_, rfl⟩
  obtain ⟨W2, hW2⟩ : ∃ W2 : World, W2 = W1.alloc (.cells (stockCells B0 n c0 f ix) 94) := ⟨_, rfl⟩
  have HB1 : As (Below w.heap.size w W1) := ⟨by rw [hW1]; exact (Below.refl w.heap.size w).alloc (Nat.le_refl _) _⟩
  have X01 : As (W1.heap[w.heap.size]? = some (.cells #[.slice none 0 0, .int .u64 0, .int .u64 0, .int .u64 0, .int .u64 0, .bool false] 94 (0, 0))) := ⟨by rw [hW1]; exact heap_alloc_new w _⟩
  have hs1 : W1.heap.size = w.heap.size + 1 := by rw [hW1]; simp
  have HB2 : As (Below w.heap.size w W2) := ⟨by rw [hW2]; exact HB1.o.alloc (by omega) _⟩
  have X02 : As (W2.heap[w.heap.size]? = some (.cells #[.slice none 0 0, .int .u64 0, .int .u64 0, .int .u64 0, .int .u64 0, .bool false] 94 (0, 0))) := ⟨by rw [hW2]; exact (Below.heap_alloc _ _ _ (by omega)).trans X01.o⟩
  have X12 : As (W2.heap[w.heap.size + 1]? = some (.cells (stockCells B0 n c0 f ix) 94 (0, 0))) := ⟨by rw [hW2, ← hs1]; exact heap_alloc_new W1 _⟩
  have hs2 : W2.heap.size = w.heap.size + 2 := by rw [hW2]; simp; omega
  rw [← hW1]
  rw [← hW2]
  clear hW1 hW2 HB1 X01 hs1
  refine (CL.o W2 HB2.o).mono ?_
  rintro e w4 ⟨B, c, rfl, hown, hgl, hb4⟩
  have hs4 : w.heap.size + 2 ≤ w4.heap.size := by have := hb4.size; omega
  have X04 := As.mk ((hb4.block w.heap.size (by omega)).trans X02.o)
  have X14 := As.mk ((hb4.block (w.heap.size + 1) (by omega)).trans X12.o)
  have HB4 := As.mk (HB2.o.trans (hb4.mono (by omega)))
  have e5 := (HB4.o.cell (p := ⟨pb, 5, none⟩) hpb).trans h5
  have s0 : w4.cell? ⟨w.heap.size + 1, 0, none⟩ = some (.slice B0 n c0) := (cell_of_row _ _ 0 _ _ _ X14.o).trans rfl
  have f0 : w4.frozen? ⟨w.heap.size + 1, 0, none⟩ = false := blk_frozen X14.o
  go_wp2
  have hgB : ∀ g, (Value.slice B n c).ownBlock = some g → w.heap.size + 1 < g := fun g e => by have := hgl g e; omega
  have hg4 : w4.grownBy (w4.setCell ⟨w.heap.size + 1, 0, none⟩ (.slice B n c)) (some (w.heap.size + 1)) := grownBy_set w4 ⟨w.heap.size + 1, 0, none⟩ _
  have hneB : (Value.slice B n c).ownBlock = none ∨ (Value.slice B n c).ownBlock ≠ some (w.heap.size + 1) := .inr fun e => by have := hgB _ e; omega
  have ST0 : As (StockIn (w4.setCell ⟨w.heap.size + 1, 0, none⟩ (.slice B n c)) (w.heap.size + 1) w.heap.size B n c ms f ix) :=
    ⟨⟨hown.kept hg4 hneB, hgB, _, blk_set X14.o _, rfl, ⟨fun i hi => by rcases (show i = 0 ∨ i = 1 ∨ i = 2 ∨ i = 3 by omega) with rfl | rfl | rfl | rfl <;> rfl⟩, rfl, rfl⟩⟩
  have XR0 : As ((w4.setCell ⟨w.heap.size + 1, 0, none⟩ (.slice B n c)).heap[w.heap.size]? = some (.cells #[.slice none 0 0, .int .u64 0, .int .u64 0, .int .u64 0, .int .u64 0, .bool false] 94 (0, 0))) := ⟨(blk_far (by simp) _).trans X04.o⟩
  have BB0 : As (Below w.heap.size w (w4.setCell ⟨w.heap.size + 1, 0, none⟩ (.slice B n c))) := ⟨HB4.o.setCell (by simp) _⟩
  have HGB := As.mk hgB
  clear hown hgl hb4 X04 X14 hg4 hneB X02 X12 s0 f0 e5 CL HML hgB
  go_loopw [21] (fun i' wr => ∃ k : Nat, k ≤ nl ∧ i' = .int .i64 k ∧ As (StockIn wr (w.heap.size + 1) w.heap.size B n c (withM nf list s ms k) (withW list s f k) (withI list s ix k)) ∧ As (wr.heap[w.heap.size]? = some (.cells #[.slice none 0 0, .int .u64 0, .int .u64 0, .int .u64 0, .int .u64 0, .bool false] 94 (0, 0))) ∧ As (Below w.heap.size w wr)) (fun i' _ => nl - (intOf i').toNat)
  case atStart => exact ⟨0, Nat.zero_le _, rfl, ST0, XR0, BB0⟩
  case round =>
    obtain ⟨k, hk, rfl, HST, HXR, HB⟩ := hrel
    by_cases hlt : k < nl
    · have hszr := HB.o.size
      obtain ⟨cs, hcs, k0, kw, k5, k6⟩ := HST.o.cells
      obtain ⟨ad, P, cP, S, cS, e1, _, hla, p0, p1, p2, p3, hcP, R1, hcS, R2⟩ := rowHold (HRL.o.below HB.o) k hlt
      subst e1
      have hll : k < list.length := by rw [HRL.o.1]; exact hlt
      have HPV := As.mk (HP.o (hgt list k) (by rw [hgt_eq _ _ hll]; exact List.getElem_mem hll))
      have SM := As.mk (show withM nf list s ms (k + 1) = if s.testBit k = true then giveM nf (withM nf list s ms k) (hgt list k).pieces else withM nf list s ms k from rfl)
      have SW := As.mk (show withW list s f (k + 1) = if s.testBit k = true then addWs (withW list s f k) (hgt list k).shares else withW list s f k from rfl)
      have SI := As.mk (show withI list s ix (k + 1) = if s.testBit k = true then (withI list s ix k || (hgt list k).index) else withI list s ix k from rfl)
      have hWL : (withM nf list s ms k).length = n := (withM_len nf list s ms k).trans hml
      have hki : (k : Int) ≤ 64 := by omega
      have hk0 : (0 : Int) ≤ (k : Int) := by omega
      have hbit := bit_u64 s k hs
      generalize withM nf list s ms k = mk at *
      generalize withW list s f k = fk at *
      generalize withI list s ix k = ik at *
      have HRP := As.mk R1
      have HRS := As.mk R2
      have HCS := As.mk hcs
      clear R1 R2 hcs
      generalize hgt list k = y at *
      have hgr : ∀ g, (Value.slice B n c).ownBlock = some g → g < wr.heap.size := fun g e => (HST.o.own.lt g e).2
      obtain ⟨W, hW⟩ : ∃ W : World, W = wr.alloc (.cells #[.int .i64 y.dev, .slice P y.pieces.length cP, .slice S y.shares.length cS, .bool y.index] 78) := ⟨_, rfl⟩
      have HW := As.mk hW
      have HBW : As (Below wr.heap.size wr W) := ⟨by rw [hW]; exact (Below.refl _ _).alloc (Nat.le_refl _) _⟩
      by_cases ht : s.testBit k = true
      · rw [if_pos ht] at hbit SM SW SI
        have GIVE := As.mk (give_any pb mb (w.heap.size + 1) 0 w.heap.size cs 94 B n c mk fk ik nf y P cP S cS W
          ((HBW.o.cell (p := ⟨pb, 6, none⟩) (Nat.lt_of_lt_of_le hpb hszr)).trans ((HB.o.cell (p := ⟨pb, 6, none⟩) hpb).trans h6)) ((HMAP.o.below HB.o hmb).below HBW.o (Nat.lt_of_lt_of_le hmb hszr)) HNF.o
          ((HBW.o.block _ (blk_lt HCS.o)).trans HCS.o) k0 kw k5 (by rw [hW]; exact HST.o.own.alloc _) hWL (fun g e => by have h1 := HGB.o g e; have h2 : pb < w.heap.size := hpb; refine ⟨?_, ?_, ?_⟩ <;> omega)
          ((HRP.o.below HBW.o).mono fun j hj e => by have := HGB.o j e; omega) HPV.o.1 ((HRS.o.below HBW.o).mono fun j hj => ⟨fun e => by have := HGB.o j e; omega, by omega⟩) HPV.o.2)
        clear ht hW
        go_wp2_with (go_at_call 73; fail)
        rw [← HW.o]
        refine GIVE.o.mono ?_
        rintro e w5 ⟨rfl, hown5, ⟨cs5, hb5, hsz5, hfar5, hw5, hi5⟩, ho1, ho2, ho3, hsi, hot⟩
        go_wp2
        go_roundw
        case rel =>
          have hsW : wr.heap.size ≤ W.heap.size := HBW.o.size
          have hsbl := blk_lt HCS.o
          have hot2 : ∀ j, j < w.heap.size + 1 → w5.heap[j]? = wr.heap[j]? := fun j hj => (hot j (by omega) (by omega) (fun e => by have := HGB.o j e; omega)).trans (HBW.o.block j (by omega))
          refine ⟨k + 1, by omega, by go_num, ⟨?_⟩, ⟨?_⟩, ⟨?_⟩⟩
          · rw [SM.o, SW.o, SI.o]
            exact ⟨hown5, HST.o.far, cs5, hb5, (hfar5 0 (.inl (by omega))).trans k0, hw5, hi5, hsz5.trans k6⟩
          · exact (hot2 _ (by omega)).trans HXR.o
          · exact ⟨ho1.trans (HBW.o.os.trans HB.o.os), ho2.trans (HBW.o.tape.trans HB.o.tape), ho3.trans (HBW.o.output.trans HB.o.output), by omega, fun j hj => (hot2 j (by omega)).trans (HB.o.block j hj)⟩
        case measure => simp [intOf]; omega
      · rw [if_neg ht] at hbit SM SW SI
        go_wp2
        go_roundw
        case rel =>
          refine ⟨k + 1, by omega, by go_num, ⟨?_⟩, ⟨?_⟩, ⟨?_⟩⟩
          · rw [SM.o, SW.o, SI.o, ← HW.o]
            exact ⟨by rw [hW]; exact HST.o.own.alloc _, HST.o.far, cs, (HBW.o.block _ (blk_lt HCS.o)).trans HCS.o, k0, kw, k5, k6⟩
          · rw [← HW.o]; exact (HBW.o.block _ (blk_lt HXR.o)).trans HXR.o
          · rw [← HW.o]; exact bthen HB.o HBW.o (Nat.le_refl _)
        case measure => simp [intOf]; omega
    · have e : k = nl := by omega
      subst e
      obtain ⟨cs, hcs, k0, kw, k5, k6⟩ := HST.o.cells
      have g0 : wr.cell? ⟨w.heap.size + 1, 0, none⟩ = some (.slice B n c) := (cell_of_row _ _ _ _ _ _ hcs).trans k0
      have g1 := (cell_of_row _ _ 1 _ _ _ hcs).trans (kw.at_ 0 (by omega))
      have g2 := (cell_of_row _ _ 2 _ _ _ hcs).trans (kw.at_ 1 (by omega))
      have g3 := (cell_of_row _ _ 3 _ _ _ hcs).trans (kw.at_ 2 (by omega))
      have g4 := (cell_of_row _ _ 4 _ _ _ hcs).trans (kw.at_ 3 (by omega))
      have g5 := (cell_of_row _ _ 5 _ _ _ hcs).trans k5
      have r0 : wr.cell? ⟨w.heap.size, 0, none⟩ = some (.slice none 0 0) := (cell_of_row _ _ 0 _ _ _ HXR.o).trans rfl
      have r1 : wr.cell? ⟨w.heap.size, 1, none⟩ = some (.int .u64 0) := (cell_of_row _ _ 1 _ _ _ HXR.o).trans rfl
      have r2 : wr.cell? ⟨w.heap.size, 2, none⟩ = some (.int .u64 0) := (cell_of_row _ _ 2 _ _ _ HXR.o).trans rfl
      have r3 : wr.cell? ⟨w.heap.size, 3, none⟩ = some (.int .u64 0) := (cell_of_row _ _ 3 _ _ _ HXR.o).trans rfl
      have r4 : wr.cell? ⟨w.heap.size, 4, none⟩ = some (.int .u64 0) := (cell_of_row _ _ 4 _ _ _ HXR.o).trans rfl
      have r5 : wr.cell? ⟨w.heap.size, 5, none⟩ = some (.bool false) := (cell_of_row _ _ 5 _ _ _ HXR.o).trans rfl
      have fz : ∀ i, wr.frozen? ⟨w.heap.size, i, none⟩ = false := fun i => blk_frozen HXR.o
      go_wp2
      have keep : ∀ (W : World) (i : Nat) (u : Value), W.ownsRow w.heap.size 110 1 (.slice B n c) n ((withM nf list s ms k).map mval) → (W.setCell ⟨w.heap.size, i, none⟩ u).ownsRow w.heap.size 110 1 (.slice B n c) n ((withM nf list s ms k).map mval) := fun W i u h =>
        h.kept (grownBy_set W ⟨w.heap.size, i, none⟩ u) (.inr fun e => by have := HST.o.far w.heap.size e; omega)
      have keepB : ∀ (W : World) (i : Nat) (u : Value), Below w.heap.size w W → Below w.heap.size w (W.setCell ⟨w.heap.size, i, none⟩ u) := fun W i u h => h.setCell (p := ⟨w.heap.size, i, none⟩) (Nat.le_refl _) u
      refine bodyPost_ret (v := .agg (stockCells B n c (withW list s f k) (withI list s ix k))) ?_ rfl ?_
      · simp [results, Try.results43, go_sem, r0, r1, r2, r3, r4, r5]
      · refine ⟨B, c, rfl, ?_, ?_⟩
        · iterate 6 refine keep _ _ _ ?_
          exact HST.o.own
        · iterate 6 refine keepB _ _ _ ?_
          exact HB.o
end Go.Proofs.Ytlinhckgdfhppaa
