/- A part of the proof: what the functions do, and plain laws. -/
import Derived.Test.YtlinhckgdfhppaaC41
namespace Go.Proofs.Ytlinhckgdfhppaa
open Go Go.RowKit Go.Proofs.YtlinhckgdfhppaaK
open Go.ChangeMaps (setBlock)

theorem setF_old {xs : List Int} {d : Int} (h : d ∈ xs) : setF (xs ++ [d]) = setF xs := by
  funext y
  by_cases e : y ∈ xs
  · simp [setF, e]
  · have : y ≠ d := fun e2 => e (e2 ▸ h)
    simp [setF, e, this]
theorem FS.reseen {W3 wr : World} {stb sm base2 : Nat} {B : Option Addr} {n c : Nat} {f : Nat → BitVec 64} {ix : Bool} {seen seen' : List Int} {ms : List (BitVec 16)} {out : List Fetch} {v : Value}
    (h : FS W3 stb sm base2 B n c f ix seen ms out v wr) (hs : setF seen' = setF seen) : FS W3 stb sm base2 B n c f ix seen' ms out v wr :=
  ⟨h.own, h.ob, h.st, by rw [hs]; exact h.mp, h.out, h.bel, h.s1, h.s2, h.s3, h.s4⟩
theorem findDev_at {list : List Hold} {d : Int} (h : ¬ findDev list d < 0) : ∃ j, j < list.length ∧ findDev list d = (j : Int) := by
  unfold findDev at *
  by_cases hm : d ∈ list.map (·.dev)
  · rw [if_pos hm]
    exact ⟨_, by have := List.idxOf_lt_length_of_mem hm; simpa using this, rfl⟩
  · rw [if_neg hm] at h
    exact absurd (by decide) h
def fetAcc (needs : List Need) (nf : ByteArray → Option Nat) (d : Int) (acc : List (BitVec 16) × List Fetch) (ps : List Piece) (m : Nat) : List (BitVec 16) × List Fetch := (ps.take m).foldl (fetStep needs nf d) acc
theorem fetAcc_succ (needs : List Need) (nf : ByteArray → Option Nat) (d : Int) (acc : List (BitVec 16) × List Fetch) (ps : List Piece) (m : Nat) (h : m < ps.length) : fetAcc needs nf d acc ps (m + 1) = fetStep needs nf d (fetAcc needs nf d acc ps m) (pg ps m) :=
  foldl_take_succ _ _ ps m (pg ps m) h (pg_eq ps m h).symm
theorem info_fetch : (Try.prog.info? 55).map (fun i => (i.zero, i.size, i.bytes)) = some (some (.agg #[.int .i64 0, .string ByteArray.empty, .int .i64 0]), 3, 32) := by kernel_rfl
section
variable (g : Goal) (A1 : Option Addr) (c1 : Nat) (A2 : Option Addr) (c2 : Nat) (A3 : Option Addr) (c3 : Nat) (A4 : Option Addr) (c4 : Nat) (list : List Hold) (A5 : Option Addr) (nd c5 : Nat) (devs : List Int) (w : World)
set_option maxRecDepth 100000 in
set_option maxHeartbeats 2000000 in
theorem fetches_any (hg : GoalIn w (fun k => k < w.heap.size) g A1 c1 A2 c2 A3 c3) (hl : Row kHold w (fun k => k < w.heap.size) A4 list.length list) (hd : Row (Kn.int .i64) w (fun k => k < w.heap.size) A5 nd devs) (hnd : nd ≤ 1000) (hpl : ∀ h ∈ list, h.pieces.length ≤ 1000) :
    Calls Try.prog 19 #[.agg (goalCells g A1 c1 A2 c2 A3 c3), .slice A4 list.length c4, .slice A5 nd c5] w fun e w' => ∃ A c, e = .returned (.tuple #[.slice A (fetchesP g list devs).length c, .int .i64 (checkOf g list)]) ∧ (fetchesP g list devs).length ≤ c ∧ Row kFetch w' (fun k => w.heap.size ≤ k ∧ k < w'.heap.size) A (fetchesP g list devs).length (fetchesP g list devs) ∧ Below w.heap.size w w' := by
  have HG := As.mk hg
  have HL := As.mk hl
  have HD := As.mk hd
  have hndm := hd.2.1
  have CHK : As (∀ W : World, Below w.heap.size w W → Calls Try.prog 31 #[.agg (goalCells g A1 c1 A2 c2 A3 c3), .slice A4 list.length c4] W fun e w' => e = .returned (.int .i64 (checkOf g list)) ∧ Below W.heap.size W w') := ⟨fun W hW => check_any g A1 c1 A2 c2 A3 c3 A4 list.length c4 list W _ (HG.o.below hW) (HL.o.below hW)⟩
  have HB0 : As (Below w.heap.size w (w.alloc (.cells (goalCells g A1 c1 A2 c2 A3 c3) 26))) := ⟨(Below.refl _ _).alloc (Nat.le_refl _) _⟩
  have BOX : As (∀ W : World, Below (w.alloc (.cells (goalCells g A1 c1 A2 c2 A3 c3) 26)).heap.size (w.alloc (.cells (goalCells g A1 c1 A2 c2 A3 c3) 26)) W → ∀ i, W.cell? ⟨w.heap.size, i, none⟩ = (goalCells g A1 c1 A2 c2 A3 c3)[i]?) := ⟨fun W hW i => (hW.cell (p := ⟨w.heap.size, i, none⟩) (by simp)).trans (cell_of_row _ _ i _ _ _ (heap_alloc_new w _))⟩
  clear hg hl hd
  by_cases hv : Valid g list
  · rw [checkOf_yes hv] at CHK ⊢
    have HR : As (fetchesP g list devs = (fetTo g.needs (nfOf g) list (ms0 g) devs devs.length).2) := ⟨if_pos hv⟩
    have NEW : As (∀ W : World, Below w.heap.size w W → Calls Try.prog 42 #[.agg (goalCells g A1 c1 A2 c2 A3 c3), .slice A4 list.length c4] W fun e w' => ∃ pb, e = .returned (.pointer (some ⟨pb, 0, none⟩)) ∧ PIn w' pb g list ∧ Below W.heap.size W w') := ⟨fun W hW => newProblemQ g A1 c1 A2 c2 A3 c3 A4 c4 list W ⟨(HG.o.n.below hW).mono fun k hk => Nat.lt_of_lt_of_le hk hW.size, HG.o.cn, (HG.o.p.below hW).mono fun k hk => Nat.lt_of_lt_of_le hk hW.size, HG.o.cp, (HG.o.s.below hW).mono fun k hk => Nat.lt_of_lt_of_le hk hW.size, HG.o.cs⟩ ((HL.o.below hW).mono fun k hk => Nat.lt_of_lt_of_le hk hW.size) hv⟩
    have HV := As.mk hv
    have WITH : As (∀ (W : World) (pb : Nat), PIn W pb g list → Calls Try.prog 43 #[.pointer (some ⟨pb, 0, none⟩), .int .u64 0] W fun e w' => ∃ B c, e = .returned (.agg (stockCells B g.needs.length c (fw0 g) (!g.index))) ∧
      w'.ownsRow W.heap.size 110 1 (.slice B g.needs.length c) g.needs.length ((ms0 g).map mval) ∧ Below W.heap.size W w') := ⟨fun W pb ⟨mb, B1, d1, A, cl, B0, c0, h⟩ => by
        have hk := HV.o.ok
        have := with_any pb mb (nfOf g) A list.length cl (sortH list) 0 B0 g.needs.length c0 (ms0 g) (fw0 g) (!g.index) W h.h5 h.h6 h.h7 h.hw h.hi h.hmap hk.hnf h.hR h.hM hk.hn hk.hnl (by decide) hk.hp
        rw [withM_zero, withW_zero, withI_zero] at this
        exact this⟩
    have hmm := @run_makeMap Try.prog
    clear hv
    go_enter Try.func19, Try.ntmps19
    go_wp2
    go_step3
    go_wp2_with (first
      | (go_at_call 31; refine (CHK.o _ HB0.o).mono ?_; rintro e w1 ⟨rfl, hb1⟩; have B0 := BOX.o w1 hb1; have b0 : w1.cell? ⟨w.heap.size, 0, none⟩ = some (.slice A1 g.needs.length c1) := B0 0; have b1 : w1.cell? ⟨w.heap.size, 1, none⟩ = some (.int .i64 g.thr) := B0 1; have b2 : w1.cell? ⟨w.heap.size, 2, none⟩ = some (.bool g.index) := B0 2; have b3 : w1.cell? ⟨w.heap.size, 3, none⟩ = some (.slice A2 g.pieces.length c2) := B0 3; have b4 : w1.cell? ⟨w.heap.size, 4, none⟩ = some (.slice A3 g.shares.length c3) := B0 4)
      | (go_at_call 42; refine (NEW.o _ (bthen HB0.o hb1 (by simp))).mono ?_; rintro e w2 ⟨pb, rfl, hp2, hb2⟩)
      | (go_at_call 43; refine (WITH.o _ _ hp2).mono ?_; rintro e w3 ⟨B, c, rfl, hown3, hb3⟩))
    have hs1 := hb1.size
    have hs2 := hb2.size
    have hs3 := hb3.size
    simp at hs1
    have HW2 : As (Below w.heap.size w w2) := ⟨bthen (bthen HB0.o hb1 (by simp)) hb2 (by omega)⟩
    have HX2 : As (∀ i, w2.cell? ⟨w.heap.size, i, none⟩ = (goalCells g A1 c1 A2 c2 A3 c3)[i]?) := ⟨fun i => (hb2.cell (p := ⟨w.heap.size, i, none⟩) (by show w.heap.size < w1.heap.size; omega)).trans (B0 i)⟩
    have HP := As.mk hp2
    obtain ⟨W5, hW5⟩ : ∃ W5 : World, W5 = (w3.alloc (.cells (stockCells B g.needs.length c (fw0 g) (!g.index)) 94)).alloc (.map #[] 0) := ⟨_, rfl⟩
    have FS0 : As (FS w2 w3.heap.size (w3.heap.size + 1) (w3.heap.size + 2) B g.needs.length c (fw0 g) (!g.index) [] (ms0 g) [] (.slice none 0 0) W5) := ⟨by
      have hs4 : (w3.alloc (.cells (stockCells B g.needs.length c (fw0 g) (!g.index)) 94)).heap.size = w3.heap.size + 1 := by simp
      rw [hW5]
      refine ⟨(hown3.alloc _).alloc _, fun k e => (hown3.lt k e).2, (Below.heap_alloc _ _ _ (by omega)).trans (heap_alloc_new w3 _), ?_, Own.nil _ _ _ _, ((hb3.alloc (by omega) _).alloc (by omega) _), hs3, by omega, by omega, by simp⟩
      rw [← hs4, show setF ([] : List Int) = fun _ => none by funext x; simp [setF]]
      exact Go.Proofs.YtlinhckgdfhppaaK.MapAt.made _ _ _⟩
    rw [← hW5]
    clear hW5 hown3 hb1 hb2 hb3 B0 b0 b1 b2 b3 b4 hp2 CHK NEW WITH BOX
    go_step3
    go_wp2
    go_loopw [11, 36] (fun v i' wr => ∃ k : Nat, k ≤ nd ∧ i' = .int .i64 k ∧ As (FS w2 w3.heap.size (w3.heap.size + 1) (w3.heap.size + 2) B g.needs.length c (fw0 g) (!g.index) (devs.take k) (fetTo g.needs (nfOf g) list (ms0 g) devs k).1 (fetTo g.needs (nfOf g) list (ms0 g) devs k).2 v wr) ∧ As ((fetTo g.needs (nfOf g) list (ms0 g) devs k).1.length = g.needs.length ∧ (fetTo g.needs (nfOf g) list (ms0 g) devs k).2.length ≤ 1000 * k)) (fun _ i' _ => nd - (intOf i').toNat)
    case atStart => exact ⟨0, Nat.zero_le _, rfl, by rw [List.take_zero]; exact FS0, ⟨by rw [fetTo]; exact ⟨by simp [giveM_len], by simp⟩⟩⟩
    case round =>
      obtain ⟨k, hk, rfl, HF, HLN⟩ := hrel
      by_cases hlt : k < nd
      · have HBw : As (Below w.heap.size w wr) := ⟨HW2.o.trans (HF.o.bel.mono HW2.o.size)⟩
        obtain ⟨ad, rfl, _, _, p0⟩ := (HD.o.below HBw.o).int_at k hlt
        have hkl : k < devs.length := by rw [HD.o.1]; exact hlt
        have HTK := As.mk (take_ig devs k hkl)
        have HT := As.mk (show fetTo g.needs (nfOf g) list (ms0 g) devs (k + 1) = if ig devs k ∈ devs.take k then fetTo g.needs (nfOf g) list (ms0 g) devs k else fetDev g.needs (nfOf g) list (fetTo g.needs (nfOf g) list (ms0 g) devs k) (ig devs k) from rfl)
        have hsm := HF.o.mp.lt
        have LK := As.mk fun W hW => (HF.o.mp.move (w' := W) hW).look (int_key Try.underlying3) Try.underlying104 (zero_unit W) (ig devs k) true
        have LS := As.mk fun W hW => (HF.o.mp.move (w' := W) hW).store (int_key Try.underlying3) Try.underlying104 (ig devs k) ()
        rw [setF_upd] at LS
        generalize ig devs k = d at *
        generalize fetTo g.needs (nfOf g) list (ms0 g) devs k = acc at *
        obtain ⟨ms, out⟩ := acc
        simp only at HF HLN
        by_cases hx : d ∈ devs.take k
        · have LKN : As (∀ W : World, W.heap[w3.heap.size + 1]? = wr.heap[w3.heap.size + 1]? → (Instr.lookup 104 (.map (some (w3.heap.size + 1))) (.int .i64 d) true).run Try.prog W = .ok (.tuple #[.agg #[], .bool true]) W) := ⟨fun W hW => by
            have := LK.o W hW
            rw [setF_yes hx] at this
            exact this⟩
          have HS2 := As.mk (setF_old hx)
          rw [if_pos hx] at HT
          clear LK LS hx
          go_wp2_with (at_lookup; refine wpList_lookup_run rfl _ _ 104 true rfl (.map (some (w3.heap.size + 1))) (.int .i64 d) _ rfl rfl (LKN.o _ (by (repeat (first | rfl | (refine (Below.heap_alloc _ _ _ (by (first | omega | (simp; done) | (simp; omega)))).trans ?_) | (refine (Below.heap_setCell _ _ _ _ (by (first | omega | (simp; done) | (simp; omega)))).trans ?_) | (refine (heap_drew _ _).trans ?_) | (refine (heap_setBlock_far _ _ _ _ (by (first | omega | (simp; done) | (simp; omega)))).trans ?_))))) ?_)
          go_roundw
          case rel =>
            refine ⟨k + 1, by omega, by go_num, ?_, ⟨by rw [HT.o]; exact ⟨HLN.o.1, Nat.le_trans HLN.o.2 (by omega)⟩⟩⟩
            rw [HTK.o, HT.o]
            exact ⟨(HF.o.below (((Below.refl _ _).alloc (Nat.le_refl _) _).alloc (by simp) _)).reseen HS2.o⟩
          case measure => simp [intOf]; omega
        · have LKN : As (∀ W : World, W.heap[w3.heap.size + 1]? = wr.heap[w3.heap.size + 1]? → (Instr.lookup 104 (.map (some (w3.heap.size + 1))) (.int .i64 d) true).run Try.prog W = .ok (.tuple #[.agg #[], .bool false]) W) := ⟨fun W hW => by
            have := LK.o W hW
            rw [setF_no hx] at this
            exact this⟩
          rw [if_neg hx] at HT
          clear LK hx
          go_wp2_with (first
            | (at_lookup; refine wpList_lookup_run rfl _ _ 104 true rfl (.map (some (w3.heap.size + 1))) (.int .i64 d) _ rfl rfl (LKN.o _ (by (repeat (first | rfl | (refine (Below.heap_alloc _ _ _ (by (first | omega | (simp; done) | (simp; omega)))).trans ?_) | (refine (Below.heap_setCell _ _ _ _ (by (first | omega | (simp; done) | (simp; omega)))).trans ?_) | (refine (heap_drew _ _).trans ?_) | (refine (heap_setBlock_far _ _ _ _ (by (first | omega | (simp; done) | (simp; omega)))).trans ?_))))) ?_)
            | (at_mapUpdate; refine wpList_store_map rfl _ _ _ 104 rfl (w3.heap.size + 1) (.int .i64 d) (eUnit ()) rfl rfl rfl (LS.o _ (by (repeat (first | rfl | (refine (Below.heap_alloc _ _ _ (by (first | omega | (simp; done) | (simp; omega)))).trans ?_) | (refine (Below.heap_setCell _ _ _ _ (by (first | omega | (simp; done) | (simp; omega)))).trans ?_) | (refine (heap_drew _ _).trans ?_) | (refine (heap_setBlock_far _ _ _ _ (by (first | omega | (simp; done) | (simp; omega)))).trans ?_))))) ?_; intro o hmap)
            | (go_at_call 44; fail))
          obtain ⟨W6, hW6⟩ : ∃ W6 : World, W6 = setBlock ((wr.alloc (.cells #[.int .i64 d] 3)).alloc (.cells #[] 105)) (w3.heap.size + 1) o := ⟨_, rfl⟩
          have hsb := HF.o.s4
          have HF6 : As (FS w2 w3.heap.size (w3.heap.size + 1) (w3.heap.size + 2) B g.needs.length c (fw0 g) (!g.index) (devs.take k ++ [d]) ms out u11 W6) := ⟨by rw [hW6]; exact HF.o.mark (((Below.refl _ _).alloc (Nat.le_refl _) _).alloc (by simp) _) o _ hmap⟩
          have d6 : W6.cell? ⟨wr.heap.size, 0, none⟩ = some (.int .i64 d) := by
            rw [hW6]
            exact (World.cell?_of_block (heap_setBlock_far _ _ _ _ (by show wr.heap.size ≠ _; omega))).trans ((World.cell?_of_block (Below.heap_alloc _ _ _ (by simp))).trans ((cell_of_row _ _ 0 _ _ _ (heap_alloc_new wr _)).trans rfl))
          have hv6 : ∀ b, u11.ownBlock = some b → b < wr.heap.size := fun b e => (HF.o.out.lt b e).2
          rw [← hW6]
          clear hW6 hmap
          have HBw6 : As (Below w.heap.size w W6) := ⟨HW2.o.trans (HF6.o.bel.mono HW2.o.size)⟩
          have IDX := As.mk (idxF_any A4 list.length c4 _ list d wr.heap.size W6 (HL.o.below HBw6.o) d6)
          refine IDX.o.mono ?_
          rintro e w7 ⟨rfl, hb7⟩
          have HF7 := As.mk (HF6.o.below hb7)
          have HV6 := As.mk hv6
          have HBw7 : As (Below w.heap.size w w7) := ⟨HW2.o.trans (HF7.o.bel.mono HW2.o.size)⟩
          have hl6 : wr.heap.size < W6.heap.size := World.block_lt_of_cell? W6 _ d6
          have d7 : w7.cell? ⟨wr.heap.size, 0, none⟩ = some (.int .i64 d) := (hb7.cell (p := ⟨wr.heap.size, 0, none⟩) hl6).trans d6
          have HFD := As.mk (show fetDev g.needs (nfOf g) list (ms, out) d = if findDev list d < 0 then (ms, out) else (hgt list (findDev list d).toNat).pieces.foldl (fetStep g.needs (nfOf g) d) (ms, out) from rfl)
          have HFA := As.mk fun h => findDev_at (list := list) (d := d) h
          generalize findDev list d = kk at *
          clear IDX hb7 HF6 HBw6 LKN LS d6 HF hv6
          by_cases hneg : kk < 0
          · have d0 : decide (kk < 0) = true := decide_eq_true hneg
            rw [if_pos hneg] at HFD
            clear hneg HFA
            go_wp2
            go_roundw
            case rel =>
              refine ⟨k + 1, by omega, by go_num, ?_, ⟨by rw [HT.o, HFD.o]; exact ⟨HLN.o.1, Nat.le_trans HLN.o.2 (by omega)⟩⟩⟩
              rw [HTK.o, HT.o, HFD.o]
              exact HF7
            case measure => simp [intOf]; omega
          · obtain ⟨j, hj, ej⟩ := HFA.o hneg
            rw [if_neg hneg] at HFD
            clear HFA hneg
            subst ej
            rw [Int.toNat_natCast] at HFD
            have dj : decide ((j : Int) < 0) = false := decide_eq_false (by omega)
            obtain ⟨ad2, P, cP, S, cS, eA, _, _, pd0, pd1, pd2, pd3, hcP, hR1, _⟩ := rowHold (HL.o.below HBw7.o) j hj
            subst eA
            have hps := hpl (hgt list j) (by rw [hgt_eq _ _ hj]; exact List.getElem_mem _)
            have hj0 : (0 : Int) ≤ (j : Int) := by omega
            have hj1 : (j : Int) < (list.length : Int) := by omega
            have hnpm := hR1.2.1
            have HPP := As.mk ((HL.o.below HBw7.o))
            have HVP : As (∀ p ∈ (hgt list j).pieces, 0 ≤ p.2 ∧ p.2 < 16) := ⟨(HV.o.2.2.2.2.2.2.2.1 (hgt list j) (by rw [hgt_eq _ _ hj]; exact List.getElem_mem _)).2.2.1.1⟩
            have HR1 := As.mk (show Row kPiece w7 (fun b => b < w.heap.size) P (hgt list j).pieces.length (hgt list j).pieces from hR1)
            clear hR1 HPP
            generalize hgt list j = y at *
            obtain ⟨mb, B1, d1, Ah, chh, B0, d0', hprob⟩ := HP.o
            have h6 := hprob.h6
            have HMP := As.mk hprob.hmap
            have HNF := As.mk HV.o.ok.hnf
            have hpb2 := World.block_lt_of_cell? w2 _ h6
            have hmb2 := HMP.o.lt
            clear hprob
            have hsm7 := HF7.o.s4
            generalize wr.heap.size = db at *
            go_wp2
            go_loopw [11, 61] (fun v i' wr => ∃ m : Nat, m ≤ y.pieces.length ∧ i' = .int .i64 m ∧ As (FS w2 w3.heap.size (w3.heap.size + 1) (w3.heap.size + 2) B g.needs.length c (fw0 g) (!g.index) (devs.take k ++ [d]) (fetAcc g.needs (nfOf g) d (ms, out) y.pieces m).1 (fetAcc g.needs (nfOf g) d (ms, out) y.pieces m).2 v wr) ∧
              As ((fetAcc g.needs (nfOf g) d (ms, out) y.pieces m).1.length = g.needs.length ∧ (fetAcc g.needs (nfOf g) d (ms, out) y.pieces m).2.length ≤ 1000 * k + m) ∧ As (wr.cell? ⟨db, 0, none⟩ = some (.int .i64 d)) ∧ As (∀ b, v.ownBlock = some b → b ≠ db)) (fun _ i' _ => y.pieces.length - (intOf i').toNat)
            case atStart => exact ⟨0, Nat.zero_le _, rfl, HF7, HLN, ⟨d7⟩, ⟨fun b e => by have := HV6.o b e; omega⟩⟩
            case round =>
              obtain ⟨m, hm, rfl, HFI, HLI, HDC, HVN⟩ := hrel
              have HBI : As (Below w.heap.size w wr) := ⟨HW2.o.trans (HFI.o.bel.mono HW2.o.size)⟩
              by_cases hml : m < y.pieces.length
              · obtain ⟨ad3, e3, _, _, q0, q1⟩ := rowPiece (HR1.o.move (w' := wr) fun b hb => (HBI.o.block b hb).trans (HBw7.o.block b hb).symm) m hml
                subst e3
                have HST := As.mk (fetAcc_succ g.needs (nfOf g) d (ms, out) y.pieces m hml)
                have hpv := HVP.o (pg y.pieces m) (by rw [pg_eq _ _ hml]; exact List.getElem_mem hml)
                have hszi := HFI.o.bel.size
                have hsi4 := HFI.o.s4
                have c6 : wr.cell? ⟨pb, 6, none⟩ = some (.map (some mb)) := (HFI.o.bel.cell (p := ⟨pb, 6, none⟩) hpb2).trans h6
                have HMI := As.mk (HMP.o.below HFI.o.bel hmb2)
                have hmi := HMI.o.lt
                have hpbi : pb < wr.heap.size := Nat.lt_of_lt_of_le hpb2 hszi
                have hdbl : db < wr.heap.size := World.block_lt_of_cell? wr _ HDC.o
                generalize fetAcc g.needs (nfOf g) d (ms, out) y.pieces m = acc at *
                obtain ⟨mk, ok⟩ := acc
                simp only at HFI HLI HST
                generalize pg y.pieces m = z at *
                obtain ⟨zs, zi⟩ := z
                simp only at q0 q1 hpv
                obtain ⟨kk, rfl⟩ := Int.eq_ofNat_of_zero_le hpv.1
                have hkk : kk < 16 := by omega
                have hm1 : (m : Int) < (y.pieces.length : Int) := by omega
                have LK := As.mk fun q => (HMI.o.move (w' := (wr.alloc (.cells #[.string zs, .int .i64 (kk : Int)] 52)).drewN q) (Below.heap_alloc wr _ mb hmi)).look (string_key Try.underlying9) Try.underlying88 (zero_int _) zs true
                cases hnf : nfOf g zs with
                | none =>
                  have HST2 : As (fetAcc g.needs (nfOf g) d (ms, out) y.pieces (m + 1) = (mk, ok)) := ⟨by rw [HST.o, fetStep]; simp only [hnf]⟩
                  have LK2 : ∀ q, (Instr.lookup 88 (.map (some mb)) (.string zs) true).run Try.prog ((wr.alloc (.cells #[.string zs, .int .i64 (kk : Int)] 52)).drewN q) = .ok (.tuple #[.int .i64 0, .bool false]) ((wr.alloc (.cells #[.string zs, .int .i64 (kk : Int)] 52)).drewN q) := fun q => by
                    have := LK.o q
                    rw [hnf] at this
                    exact this
                  clear hnf LK HST
                  go_wp2
                  go_quiet (fail)
                  go_wp2
                  go_quiet (fail)
                  go_wp2
                  go_roundw
                  case rel =>
                    refine ⟨m + 1, by omega, by go_num, ?_, ⟨by rw [HST2.o]; exact ⟨HLI.o.1, Nat.le_trans HLI.o.2 (by omega)⟩⟩, ?_, HVN⟩
                    · rw [HST2.o]
                      exact ⟨HFI.o.below (below_drewN ((Below.refl _ _).alloc (Nat.le_refl _) _) _)⟩
                    · exact ⟨((below_drewN ((Below.refl wr.heap.size wr).alloc (Nat.le_refl _) _) _).cell (p := ⟨db, 0, none⟩) hdbl).trans HDC.o⟩
                  case measure => simp [intOf]; omega
                | some i =>
                  have hin := HNF.o _ _ hnf
                  have LK2 : ∀ q, (Instr.lookup 88 (.map (some mb)) (.string zs) true).run Try.prog ((wr.alloc (.cells #[.string zs, .int .i64 (kk : Int)] 52)).drewN q) = .ok (.tuple #[.int .i64 (i : Int), .bool true]) ((wr.alloc (.cells #[.string zs, .int .i64 (kk : Int)] 52)).drewN q) := fun q => by
                    have := LK.o q
                    rw [hnf] at this
                    exact this
                  have HST2 : As (fetAcc g.needs (nfOf g) d (ms, out) y.pieces (m + 1) = if (maskAt mk i).getLsbD kk = true ∨ (pg g.needs i).2 ≤ (maskCnt (maskAt mk i) : Int) then (mk, ok) else (mk.set i (maskAt mk i ||| BitVec.twoPow 16 kk), ok ++ [(d, (zs, (kk : Int)))])) := ⟨by rw [HST.o, fetStep]; simp only [hnf, Int.toNat_natCast]⟩
                  clear hnf LK HST
                  obtain ⟨gb, hBg⟩ : ∃ gb, B = some ⟨gb, 0, none⟩ := by
                    rcases HFI.o.own.2 with ⟨_, hn0⟩ | ⟨gb, cap, cur, hv, _⟩
                    · omega
                    · injection hv with hv
                      exact ⟨gb, hv⟩
                  have hmk : mk.length = g.needs.length := HLI.o.1
                  have hgb := HFI.o.ob gb (by rw [hBg]; rfl)
                  have hgr : gb < wr.heap.size := (HFI.o.own.lt gb (by rw [hBg]; rfl)).2
                  have hstl := blk_lt HFI.o.st
                  have t0 : wr.cell? ⟨w3.heap.size, 0, none⟩ = some (.slice B g.needs.length c) := (cell_of_row _ _ 0 _ _ _ HFI.o.st).trans rfl
                  have cg : wr.cell? ⟨gb, i, none⟩ = some (.int .u16 ((maskAt mk i).toNat : Int)) := by
                    have := HFI.o.own
                    rw [hBg] at this
                    refine (this.cellAt i (by omega)).trans ?_
                    rw [List.getElem?_map, List.getElem?_eq_getElem (by omega)]
                    simp [maskAt, List.getD_eq_getElem?_getD, List.getElem?_eq_getElem (show i < mk.length by omega)]
                  have fg : wr.frozen? ⟨gb, i, none⟩ = false := by
                    have := HFI.o.own
                    rw [hBg] at this
                    exact this.frozenAt i
                  have hal : (⟨gb, 0, none⟩ : Addr).add i = ⟨gb, i, none⟩ := add_lit0 _ _
                  have g0 : wr.cell? ⟨w.heap.size, 0, none⟩ = some (.slice A1 g.needs.length c1) := (HFI.o.bel.cell (p := ⟨w.heap.size, 0, none⟩) (show w.heap.size < w2.heap.size by omega)).trans (HX2.o 0)
                  have hwr : w.heap.size < wr.heap.size := by omega
                  obtain ⟨ad1, eA1, _, hl1, _, n1⟩ := rowPiece (HG.o.n.below HBI.o) i hin
                  subst eA1
                  have hi0 : (0 : Int) ≤ (i : Int) := by omega
                  have hi1 : (i : Int) < (g.needs.length : Int) := by omega
                  have hk0 : (0 : Int) ≤ (kk : Int) := by omega
                  have hk16 : (kk : Int) ≤ 16 := by omega
                  have hbit := bit_u16 (maskAt mk i) kk
                  have ONES := As.mk fun W => ones16_any (maskAt mk i).toNat (maskAt mk i).isLt W
                  change As (∀ W, Calls Try.prog 46 #[.int .u16 ((maskAt mk i).toNat : Int)] W fun e w' => e = .returned (.int .i64 ((maskCnt (maskAt mk i) : Nat) : Int)) ∧ ∃ q, w' = W.drewN q) at ONES
                  subst hBg
                  by_cases hA : (maskAt mk i).getLsbD kk = true
                  · rw [if_pos hA] at hbit
                    rw [if_pos (.inl hA)] at HST2
                    clear hA ONES
                    generalize (maskAt mk i).toNat = mi at *
                    go_wp2
                    go_quiet (fail)
                    go_wp2
                    go_quiet (fail)
                    go_wp2
                    go_roundw
                    case rel =>
                      refine ⟨m + 1, by omega, by go_num, ?_, ⟨by rw [HST2.o]; exact ⟨HLI.o.1, Nat.le_trans HLI.o.2 (by omega)⟩⟩, ?_, HVN⟩
                      · rw [HST2.o]
                        exact ⟨HFI.o.below (below_drewN ((Below.refl _ _).alloc (Nat.le_refl _) _) _)⟩
                      · exact ⟨((below_drewN ((Below.refl wr.heap.size wr).alloc (Nat.le_refl _) _) _).cell (p := ⟨db, 0, none⟩) hdbl).trans HDC.o⟩
                    case measure => simp [intOf]; omega
                  · rw [if_neg hA] at hbit
                    have sh := shl_u16 (kk : Int) hk0 (by omega)
                    rw [Int.toNat_natCast] at sh
                    have hwr2 := wrap_u16 (BitVec.twoPow 16 kk)
                    have hor := or_u16 (maskAt mk i) (BitVec.twoPow 16 kk)
                    have HA := As.mk hA
                    clear hA
                    generalize maskAt mk i ||| BitVec.twoPow 16 kk = uu at *
                    generalize BitVec.twoPow 16 kk = TT at *
                    generalize maskCnt (maskAt mk i) = ct at *
                    generalize hmi : (maskAt mk i).toNat = mi at *
                    clear hmi
                    generalize (pg g.needs i).2 = dt at *
                    go_wp2
                    go_quiet (fail)
                    obtain ⟨W1, hW1⟩ : ∃ W1 : World, W1 = (wr.alloc (.cells #[.string zs, .int .i64 (kk : Int)] 52)).drewN nq := ⟨_, rfl⟩
                    rw [← hW1]
                    have hb1 : Below wr.heap.size wr W1 := by rw [hW1]; exact below_drewN ((Below.refl _ _).alloc (Nat.le_refl _) _) _
                    have HP1 : As (W1.heap[wr.heap.size]? = some (.cells #[.string zs, .int .i64 (kk : Int)] 52 (0, 0))) := ⟨by rw [hW1]; exact heap_alloc_new wr _⟩
                    have HF1 := As.mk (HFI.o.below hb1)
                    have HB1 := As.mk hb1
                    have v0 : W1.cell? ⟨w3.heap.size, 0, none⟩ = some (.slice (some ⟨gb, 0, none⟩) g.needs.length c) := (hb1.cell (p := ⟨w3.heap.size, 0, none⟩) hstl).trans t0
                    have v1 : W1.cell? ⟨gb, i, none⟩ = some (.int .u16 (mi : Int)) := (hb1.cell (p := ⟨gb, i, none⟩) hgr).trans cg
                    have v2 : W1.frozen? ⟨gb, i, none⟩ = false := (World.frozen?_of_block (hb1.block gb hgr)).trans fg
                    have v3 : W1.cell? ⟨wr.heap.size, 1, none⟩ = some (.int .i64 (kk : Int)) := (cell_of_row _ _ 1 _ _ _ HP1.o).trans rfl
                    have v4 : W1.cell? ⟨w.heap.size, 0, none⟩ = some (.slice (some ad1) g.needs.length c1) := (hb1.cell (p := ⟨w.heap.size, 0, none⟩) hwr).trans g0
                    have v5 : W1.cell? ⟨(ad1.add (i * 2)).block, (ad1.add (i * 2)).off + 1, none⟩ = some (.int .i64 dt) := (hb1.cell (p := ⟨(ad1.add (i * 2)).block, (ad1.add (i * 2)).off + 1, none⟩) (by rw [block_add]; exact hl1)).trans n1
                    clear hW1 hb1 t0 cg fg q0 q1 n1 g0 LK2 c6
                    by_cases hC : dt ≤ (ct : Int)
                    · have dC : decide (dt ≤ (ct : Int)) = true := decide_eq_true hC
                      rw [if_pos (.inr hC)] at HST2
                      go_wp2
                      refine wp_region_quiet_lit (by kernel_rfl) (by kernel_rfl) ?_; (repeat (go_big_quiet_step ((go_at_call 46; exact Calls.quiet_of (ONES.o _))))); refine wpQuiet_nil ?_; intro _ hw'; obtain ⟨nq, hw''⟩ := hw'; subst hw''
                      go_wp2
                      go_roundw
                      case rel =>
                        refine ⟨m + 1, by omega, by go_num, ?_, ⟨by rw [HST2.o]; exact ⟨HLI.o.1, Nat.le_trans HLI.o.2 (by omega)⟩⟩, ?_, HVN⟩
                        · rw [HST2.o]
                          exact ⟨HFI.o.below (below_drewN HB1.o _)⟩
                        · exact ⟨((below_drewN HB1.o _).cell (p := ⟨db, 0, none⟩) hdbl).trans HDC.o⟩
                      case measure => simp [intOf]; omega
                    · have dC : decide (dt ≤ (ct : Int)) = false := decide_eq_false hC
                      rw [if_neg (fun h => h.elim HA.o hC)] at HST2
                      go_wp2
                      refine wp_region_quiet_lit (by kernel_rfl) (by kernel_rfl) ?_; (repeat (go_big_quiet_step ((go_at_call 46; exact Calls.quiet_of (ONES.o _))))); refine wpQuiet_nil ?_; intro _ hw'; obtain ⟨nq, hw''⟩ := hw'; subst hw''
                      go_wp2
                      refine wp_region_drew_tail 10 (by kernel_rfl) (by kernel_rfl) ?_
                      simp only [List.take_succ_cons, List.take_zero, List.drop_succ_cons, List.drop_zero]
                      repeat (go_big_quiet_step (fail))
                      refine wpQuiet_nil ?_
                      rintro _ ⟨q, rfl⟩
                      go_upto_region 22 with (fail)
                      obtain ⟨W4, hW4⟩ : ∃ W4 : World, W4 = (W1.drewN (nq + q)).setCell ⟨gb, i, none⟩ (.int .u16 (uu.toNat : Int)) := ⟨_, rfl⟩
                      rw [← hW4]
                      have HF4 : As (FS w2 w3.heap.size (w3.heap.size + 1) (w3.heap.size + 2) (some ⟨gb, 0, none⟩) g.needs.length c (fw0 g) (!g.index) (devs.take k ++ [d]) (mk.set i uu) ok u11 W4) := ⟨by rw [hW4]; exact HF1.o.put (below_drewN (Below.refl _ _) _) gb i rfl uu⟩
                      have hb4 : ∀ b, b < wr.heap.size + 1 → b ≠ gb → W4.heap[b]? = W1.heap[b]? := fun b hb hne => by rw [hW4]; exact blk_far (w := W1.drewN (nq + q)) hne _
                      have y0 : W4.cell? ⟨db, 0, none⟩ = some (.int .i64 d) := (World.cell?_of_block (hb4 db (by omega) (by omega))).trans ((HB1.o.cell (p := ⟨db, 0, none⟩) hdbl).trans HDC.o)
                      have HP4 := As.mk ((hb4 wr.heap.size (by omega) (by omega)).trans HP1.o)
                      have y1 : W4.cell? ⟨wr.heap.size, 0, none⟩ = some (.string zs) := (cell_of_row _ _ 0 _ _ _ HP4.o).trans rfl
                      have y2 : W4.cell? ⟨wr.heap.size, 1, none⟩ = some (.int .i64 (kk : Int)) := (cell_of_row _ _ 1 _ _ _ HP4.o).trans rfl
                      have hsz4 := HF4.o.s4
                      have hdb4 : db < W4.heap.size := World.block_lt_of_cell? W4 _ y0
                      clear hW4 v0 v1 v2 v3 v4 v5 hb4
                      go_wp2_with (at_builtin; refine app_one kFetch (w3.heap.size + 2) rfl (.tmp 114) (.tmp 118) 45 (.agg #[.int .i64 0, .string ByteArray.empty, .int .i64 0]) 32 rfl Try.underlying45 info_fetch rfl (by decide) u11 ok (d, (zs, (kk : Int))) [.int .i64 d, .string zs, .int .i64 (kk : Int)] rfl (by show Value.slice _ _ _ = _; simp) HF4.o.out (kFetch_mk _ _ (d, (zs, (kk : Int)))) (by omega) (by have := HLI.o.2; omega) (by have := HLI.o.2; omega) ?_; intro x9 w9 HO9 hg9 hat9)
                      go_roundw
                      case rel =>
                        refine ⟨m + 1, by omega, by go_num, ?_, ⟨by rw [HST2.o]; exact ⟨by rw [← hmk]; simp, by have := HLI.o.2; simp; omega⟩⟩, ⟨?_⟩, ⟨fun b hb => ?_⟩⟩
                        · rw [HST2.o]
                          exact ⟨HF4.o.grow HO9 hg9⟩
                        · exact (World.cell?_of_block (hg9.block db hdb4 (fun e => HVN.o db e.symm rfl))).trans y0
                        · rcases hat9 with h9 | ⟨b9, h9, h10⟩
                          · exact HVN.o b (h9 ▸ hb)
                          · rw [h9] at hb
                            injection hb with hb
                            omega
                      case measure => simp [intOf]; omega
              · have e : m = y.pieces.length := by omega
                subst e
                have HE : As (fetTo g.needs (nfOf g) list (ms0 g) devs (k + 1) = fetAcc g.needs (nfOf g) d (ms, out) y.pieces y.pieces.length) := ⟨by rw [HT.o, HFD.o, fetAcc, List.take_length]⟩
                go_wp2
                go_roundw
                case rel =>
                  refine ⟨k + 1, by omega, by go_num, ?_, ⟨by rw [HE.o]; exact ⟨HLI.o.1, Nat.le_trans HLI.o.2 (by omega)⟩⟩⟩
                  rw [HTK.o, HE.o]
                  exact HFI
                case measure => simp [intOf]; omega
      · have e : k = nd := by omega
        subst e
        obtain ⟨Ao, co, rfl, hco, hro⟩ := own_row flat_fetch HF.o.out
        have HRO := As.mk hro
        have hbel := HF.o.bel
        have hsz2 := HW2.o.size
        have s1 := HF.o.s1
        have e2 : k = devs.length := HD.o.1.symm
        have HRQ : As (fetchesP g list devs = (fetTo g.needs (nfOf g) list (ms0 g) devs k).2) := ⟨by rw [HR.o, e2]⟩
        clear hro HF e2
        go_wp2
        rw [Exit.noGoto_ret]
        go_ret2
        rw [HRQ.o]
        refine ⟨_, _, rfl, hco, HRO.o.bound.mono fun b hb => ⟨?_, hb.2⟩, HW2.o.trans (hbel.mono hsz2)⟩
        have := hb.1.1
        omega
  · rw [checkOf_no hv] at CHK ⊢
    have HR : As (fetchesP g list devs = []) := ⟨if_neg hv⟩
    rw [HR.o]
    clear hv HR
    go_enter Try.func19, Try.ntmps19
    go_wp2
    go_step3
    go_wp2_with (go_at_call 31; refine (CHK.o _ HB0.o).mono ?_; rintro e w1 ⟨rfl, hb1⟩)
    rw [Exit.noGoto_ret]
    go_ret2
    exact ⟨_, _, rfl, Nat.le_refl _, Row.nil _ _ _ _, bthen HB0.o hb1 (by simp)⟩
end
end Go.Proofs.Ytlinhckgdfhppaa
