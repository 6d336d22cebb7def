import Derived.Test.YtlinhckgdfhppaaM10
set_option linter.unusedSimpArgs false
set_option linter.unusedVariables false
namespace Go.Proofs.Ytlinhckgdfhppaa
open Go Go.RowKit Go.Proofs.YtlinhckgdfhppaaK

/-! Lacking. -/
/-- What the needs lack with the devices' holdings. -/
theorem lackList_eq {g : Goal} {list : List Hold} (hv : Valid g list) (devs : List Int) : lackList g.needs (withM (nfOf g) (sortH list) (setTo (sortH list) devs list.length) (ms0 g) list.length) = lackNeeds g list devs := by
  have hm : ∀ j, j < list.length → ((setTo (sortH list) devs list.length).testBit j = true ↔ (hgt (sortH list) j).dev ∈ devs) := fun j hj => by rw [setTo_bit]; simp [hj]
  obtain ⟨v1, v2, v3, v4, v5, v6, v7, v8⟩ := hv
  have hl := sortH_len list
  have hL : ∀ h ∈ sortH list, h ∈ list := fun h hh => (sortH_perm list).mem_iff.1 hh
  have nfi := needTo_iff g.needs v7.2 g.needs.length (Nat.le_refl _)
  refine List.ext_getElem (by simp [lackList, lackNeeds]) fun i h1 h2 => ?_
  have hi : i < g.needs.length := by simpa [lackList] using h1
  have hms : i < (ms0 g).length := by rw [giveM_len]; simpa using hi
  simp only [lackList, lackNeeds, List.getElem_map, List.getElem_range]
  unfold lackAt lackNeed
  rw [pg_eq g.needs i hi]
  congr 1
  refine cntTo_eq g list devs _ _ 16 fun b hb => ?_
  have e1 := withM_bit (nfOf g) (sortH list) (setTo (sortH list) devs list.length) i b (ms0 g) hms (fun h hh p hp => (v8.1 h (hL h hh)).2.2.1.1 p hp) list.length (by omega)
  have e2 := giveM_bit (nfOf g) i b g.pieces (List.replicate g.needs.length 0) (by simpa using hi) v4.1
  have e3 : (maskAt (List.replicate g.needs.length (0 : BitVec 16)) i).getLsbD b = false := by
    simp [maskAt, List.getD_eq_getElem?_getD, List.getElem?_replicate, hi]
  have hpi : ∀ p : Piece, (nfOf g p.1 = some i ∧ (b : Int) = p.2) ↔ p = (g.needs[i].1, (b : Int)) := fun p => by
    rw [nfi p.1 i, pg_eq g.needs i hi]
    constructor
    · rintro ⟨⟨_, h2⟩, h3⟩
      exact Prod.ext h2.symm h3.symm
    · rintro rfl
      exact ⟨⟨hi, rfl⟩, rfl⟩
  show (maskAt (withM (nfOf g) (sortH list) (setTo (sortH list) devs list.length) (ms0 g) list.length) i).getLsbD b = true ↔ _
  rw [e1, e2, e3]
  unfold there
  rw [some_hold]
  simp only [hpi, exists_eq_right, Bool.false_eq_true, false_or]
  constructor
  · rintro (h | ⟨j, h1, h2, h3⟩)
    · exact .inl h
    · exact .inr ⟨j, h1, (hm j h1).1 h2, h3⟩
  · rintro (h | ⟨j, h1, h2, h3⟩)
    · exact .inl h
    · exact .inr ⟨j, h1, (hm j h1).2 h2, h3⟩
/-- The needs that lack, of the first k. -/
def lkTo (needs : List Need) (ls : List Int) : Nat → List Need
  | 0 => []
  | k + 1 => if 0 < ig ls k then lkTo needs ls k ++ [((pg needs k).1, ig ls k)] else lkTo needs ls k
theorem lkTo_len (needs : List Need) (ls : List Int) : ∀ k, (lkTo needs ls k).length ≤ k
  | 0 => Nat.le_refl _
  | k + 1 => by
    have := lkTo_len needs ls k
    rw [lkTo]
    split
    · simp; omega
    · omega
/-- What Lacking answers first. -/
def lackingP (g : Goal) (list : List Hold) (devs : List Int) : List Need := if Valid g list then lkTo g.needs (lackNeeds g list devs) g.needs.length else []
theorem info_need69 : (Try.prog.info? 69).map (fun i => (i.zero, i.size, i.bytes)) = some (some (.agg #[.string ByteArray.empty, .int .i64 0]), 2, 24) := by kernel_rfl
section
variable (g : Goal) (A1 : Option Addr) (c1 : Nat) (A2 : Option Addr) (c2 : Nat) (A3 : Option Addr) (c3 : Nat) (A4 : Option Addr) (c4 : Nat) (list : List Hold) (A5 : Option Addr) (nd c5 : Nat) (devs : List Int) (w : World)
set_option maxRecDepth 100000 in
set_option maxHeartbeats 2000000 in
theorem lackingG_any (hg : GoalIn w (fun k => k < w.heap.size) g A1 c1 A2 c2 A3 c3) (hl : Row kHold w (fun k => k < w.heap.size) A4 list.length list) (hd : Row (Kn.int .i64) w (fun k => k < w.heap.size) A5 nd devs) :
    Calls Try.prog 29 #[.agg (goalCells g A1 c1 A2 c2 A3 c3), .slice A4 list.length c4, .slice A5 nd c5] w fun e w' => ∃ A c n b, e = .returned (.tuple #[.slice A (lackingP g list devs).length c, .int .i64 n, .bool b, .int .i64 (checkOf g list)]) ∧ Row kPiece w' (fun k => k < w'.heap.size) A (lackingP g list devs).length (lackingP g list devs) ∧ Below w.heap.size w w' := by
  have HG := As.mk hg
  have HL := As.mk hl
  have HD := As.mk hd
  have CHK : As (∀ W : World, Below w.heap.size w W → Calls Try.prog 31 #[.agg (goalCells g A1 c1 A2 c2 A3 c3), .slice A4 list.length c4] W fun e w' => e = .returned (.int .i64 (checkOf g list)) ∧ Below W.heap.size W w') := ⟨fun W hW => check_any g A1 c1 A2 c2 A3 c3 A4 list.length c4 list W _ (HG.o.below hW) (HL.o.below hW)⟩
  have HB0 : As (Below w.heap.size w (w.alloc (.cells (goalCells g A1 c1 A2 c2 A3 c3) 26))) := ⟨(Below.refl _ _).alloc (Nat.le_refl _) _⟩
  have BOX : As (∀ W : World, Below (w.alloc (.cells (goalCells g A1 c1 A2 c2 A3 c3) 26)).heap.size (w.alloc (.cells (goalCells g A1 c1 A2 c2 A3 c3) 26)) W → ∀ i, W.cell? ⟨w.heap.size, i, none⟩ = (goalCells g A1 c1 A2 c2 A3 c3)[i]?) := ⟨fun W hW i => (hW.cell (p := ⟨w.heap.size, i, none⟩) (by simp)).trans (cell_of_row _ _ i _ _ _ (heap_alloc_new w _))⟩
  clear hg hl hd
  by_cases hv : Valid g list
  · rw [checkOf_yes hv] at CHK ⊢
    have HR : As (lackingP g list devs = lkTo g.needs (lackNeeds g list devs) g.needs.length) := ⟨if_pos hv⟩
    have NEW : As (∀ W : World, Below w.heap.size w W → Calls Try.prog 42 #[.agg (goalCells g A1 c1 A2 c2 A3 c3), .slice A4 list.length c4] W fun e w' => ∃ pb, e = .returned (.pointer (some ⟨pb, 0, none⟩)) ∧ PIn w' pb g list ∧ Below W.heap.size W w') := ⟨fun W hW => newProblemQ g A1 c1 A2 c2 A3 c3 A4 c4 list W ⟨(HG.o.n.below hW).mono fun k hk => Nat.lt_of_lt_of_le hk hW.size, HG.o.cn, (HG.o.p.below hW).mono fun k hk => Nat.lt_of_lt_of_le hk hW.size, HG.o.cp, (HG.o.s.below hW).mono fun k hk => Nat.lt_of_lt_of_le hk hW.size, HG.o.cs⟩ ((HL.o.below hW).mono fun k hk => Nat.lt_of_lt_of_le hk hW.size) hv⟩
    have SET : As (∀ (W : World) (pb : Nat), PIn W pb g list → Below w.heap.size w W → Calls Try.prog 55 #[.pointer (some ⟨pb, 0, none⟩), .slice A5 nd c5] W fun e w' => e = .returned (.int .u64 (setTo (sortH list) devs list.length : Nat)) ∧ Below W.heap.size W w') := ⟨fun W pb h hW => toSetQ h hv A5 nd c5 devs _ (HD.o.below hW)⟩
    have h12 := pow12 hv.ok.hnl
    have hlt := setTo_lt (sortH list) devs list.length
    have hne := hv.ok.hn
    have hll : (lackNeeds g list devs).length = g.needs.length := by simp [lackNeeds]
    have WITH : As (∀ (W : World) (pb : Nat), PIn W pb g list → Calls Try.prog 43 #[.pointer (some ⟨pb, 0, none⟩), .int .u64 (setTo (sortH list) devs list.length : Nat)] W fun e w' => ∃ B c, e = .returned (.agg (stockCells B g.needs.length c (withW (sortH list) (setTo (sortH list) devs list.length) (fw0 g) list.length) (withI (sortH list) (setTo (sortH list) devs list.length) (!g.index) list.length))) ∧
      Row kMask w' (fun _ => True) B g.needs.length (withM (nfOf g) (sortH list) (setTo (sortH list) devs list.length) (ms0 g) list.length) ∧ Below W.heap.size W w') := ⟨fun W pb ⟨mb, B1, d1, A, cl, B0, c0, h⟩ => withP h hv.ok _ (by omega)⟩
    have LCK : As (∀ (W : World) (pb : Nat) (B : Option Addr) (c : Nat) (f : Nat → BitVec 64) (ix : Bool), PIn W pb g list → Row kMask W (fun _ => True) B g.needs.length (withM (nfOf g) (sortH list) (setTo (sortH list) devs list.length) (ms0 g) list.length) → Calls Try.prog 57 #[.pointer (some ⟨pb, 0, none⟩), .agg (stockCells B g.needs.length c f ix)] W fun e w' => ∃ A c n, e = .returned (.tuple #[.slice A g.needs.length c, .int .i64 n]) ∧ Row (Kn.int .i64) w' (fun k => k < w'.heap.size) A g.needs.length (lackNeeds g list devs) ∧ Below W.heap.size W w') := ⟨fun W pb B c f ix ⟨mb, B1, d1, A, cl, B0, c0, h⟩ hm =>
      (lacking_any pb g.needs g.thr B1 d1 B c _ f ix (fun _ => True) W h.h0 h.h1 (h.hN.mono fun _ _ => trivial) hm hv.ok.hd hv.ok.ht hv.ok.hn).mono fun e w' ⟨v, he, ho, hb⟩ => by
        rw [lackList_eq hv] at ho
        obtain ⟨A, c', rfl, _, hr⟩ := ho.shape
        rw [hll] at he hr
        exact ⟨A, c', _, he, hr.mono fun k hk => hk, hb⟩⟩
    rw [HR.o]
    clear h12 hlt hv HR
    generalize setTo (sortH list) devs list.length = s at *
    generalize withM (nfOf g) (sortH list) s (ms0 g) list.length = ms at *
    generalize withW (sortH list) s (fw0 g) list.length = f at *
    generalize withI (sortH list) s (!g.index) list.length = ix at *
    generalize lackNeeds g list devs = ls at *
    go_enter Try.func29, Try.ntmps29
    go_upto_region 6 with (first
      | (go_at_call 31; refine (CHK.o _ HB0.o).mono ?_; rintro e w1 ⟨rfl, hb1⟩; have B0 := BOX.o w1 hb1; have b0 : w1.cell? ⟨w.heap.size, 0, none⟩ = some (.slice A1 g.needs.length c1) := B0 0; have b1 : w1.cell? ⟨w.heap.size, 1, none⟩ = some (.int .i64 g.thr) := B0 1; have b2 : w1.cell? ⟨w.heap.size, 2, none⟩ = some (.bool g.index) := B0 2; have b3 : w1.cell? ⟨w.heap.size, 3, none⟩ = some (.slice A2 g.pieces.length c2) := B0 3; have b4 : w1.cell? ⟨w.heap.size, 4, none⟩ = some (.slice A3 g.shares.length c3) := B0 4; have z1 := bthen HB0.o hb1 (Nat.le_refl _))
      | (go_at_call 42; refine (NEW.o _ z1).mono ?_; rintro e w2 ⟨pb, rfl, hp2, hb2⟩; have z2 := bthen z1 hb2 (Nat.le_refl _))
      | (go_at_call 55; refine (SET.o _ _ hp2 z2).mono ?_; rintro e w3 ⟨rfl, hb3⟩; have z3 := bthen z2 hb3 (Nat.le_refl _))
      | (go_at_call 43; refine (WITH.o _ _ (hp2.below hb3)).mono ?_; rintro e w4 ⟨B, c, rfl, hm4, hb4⟩; have z4 := bthen z3 hb4 (Nat.le_refl _)))
    have HP4 := As.mk ((hp2.below hb3).below hb4)
    have HZ4 := As.mk z4
    have HM4 := As.mk hm4
    have hs1 := hb1.size
    have hs12 := hb2.size
    have hs23 := hb3.size
    have hs34 := hb4.size
    simp at hs1
    have q0 : w4.cell? ⟨w.heap.size, 0, none⟩ = some (.slice A1 g.needs.length c1) := (hb4.cell (p := ⟨w.heap.size, 0, none⟩) (by show w.heap.size < _; omega)).trans ((hb3.cell (p := ⟨w.heap.size, 0, none⟩) (by show w.heap.size < _; omega)).trans ((hb2.cell (p := ⟨w.heap.size, 0, none⟩) (by show w.heap.size < _; omega)).trans b0))
    obtain ⟨W5, hW5⟩ : ∃ W5 : World, W5 = w4.alloc (.cells (stockCells B g.needs.length c f ix) 94) := ⟨_, rfl⟩
    have HB5 : As (Below w4.heap.size w4 W5) := ⟨by rw [hW5]; exact (Below.refl _ _).alloc (Nat.le_refl _) _⟩
    have HX5 : As (W5.heap[w4.heap.size]? = some (.cells (stockCells B g.needs.length c f ix) 94 (0, 0))) := ⟨by rw [hW5]; exact heap_alloc_new w4 _⟩
    rw [← hW5]
    have HM5 := As.mk (HM4.o.below HB5.o)
    have HP5 := As.mk (HP4.o.below HB5.o)
    have hlx := blk_lt HX5.o
    have x0 : W5.cell? ⟨w4.heap.size, 0, none⟩ = some (.slice B g.needs.length c) := (cell_of_row _ _ 0 _ _ _ HX5.o).trans rfl
    have x1 : W5.cell? ⟨w4.heap.size, 1, none⟩ = some (.int .u64 ((f 0).toNat : Int)) := (cell_of_row _ _ 1 _ _ _ HX5.o).trans rfl
    have x2 : W5.cell? ⟨w4.heap.size, 2, none⟩ = some (.int .u64 ((f 1).toNat : Int)) := (cell_of_row _ _ 2 _ _ _ HX5.o).trans rfl
    have x3 : W5.cell? ⟨w4.heap.size, 3, none⟩ = some (.int .u64 ((f 2).toNat : Int)) := (cell_of_row _ _ 3 _ _ _ HX5.o).trans rfl
    have x4 : W5.cell? ⟨w4.heap.size, 4, none⟩ = some (.int .u64 ((f 3).toNat : Int)) := (cell_of_row _ _ 4 _ _ _ HX5.o).trans rfl
    have x5 : W5.cell? ⟨w4.heap.size, 5, none⟩ = some (.bool ix) := (cell_of_row _ _ 5 _ _ _ HX5.o).trans rfl
    clear hW5 b0 b1 b2 b3 b4 B0 z1 z2 z3 z4 hb1 hb2 hb3 hb4 hp2 hm4 CHK NEW SET WITH BOX HB0
    go_upto_region 8 with (go_at_call 57; refine (LCK.o _ _ _ _ _ _ HP5.o HM5.o).mono ?_; rintro e w6 ⟨Al, cl, nl, rfl, hr6, hb6⟩)
    have HL6 := As.mk hr6
    have x5' : w6.cell? ⟨w4.heap.size, 5, none⟩ = some (.bool ix) := (hb6.cell (p := ⟨w4.heap.size, 5, none⟩) hlx).trans x5
    have HX6 := As.mk x5'
    have hs45 := HB5.o.size
    have hs56 := hb6.size
    have HQ6 : As (w6.cell? ⟨w.heap.size, 0, none⟩ = some (.slice A1 g.needs.length c1)) := ⟨(hb6.cell (p := ⟨w.heap.size, 0, none⟩) (by show w.heap.size < _; omega)).trans ((HB5.o.cell (p := ⟨w.heap.size, 0, none⟩) (by show w.heap.size < _; omega)).trans q0)⟩
    have HZ6 : As (Below w.heap.size w w6) := ⟨bthen (bthen HZ4.o HB5.o (Nat.le_refl _)) hb6 (Nat.le_refl _)⟩
    clear x0 x1 x2 x3 x4 x5 x5' hb6 hr6 q0 HP4 HZ4 HM4 HP5 HM5 HX5 HB5 LCK
    have hlw6 : w.heap.size < w6.heap.size := by omega
    have hlx6 : w4.heap.size < w6.heap.size := by omega
    go_wp2
    go_loopw [15, 40] (fun v i' wr => ∃ k : Nat, k ≤ g.needs.length ∧ i' = .int .i64 k ∧ As (Own kPiece 69 wr w6.heap.size v (lkTo g.needs ls k)) ∧ As (Below w6.heap.size w6 wr)) (fun _ i' _ => g.needs.length - (intOf i').toNat)
    case atStart => exact ⟨0, Nat.zero_le _, rfl, ⟨Own.nil _ _ _ _⟩, ⟨Below.refl _ _⟩⟩
    case round =>
      obtain ⟨k, hk, rfl, HO, HB⟩ := hrel
      have hbs := HB.o.size
      by_cases hlt : k < g.needs.length
      · have HU : As (Below w.heap.size w wr) := ⟨bthen HZ6.o HB.o (Nat.le_refl _)⟩
        obtain ⟨ad, rfl, _, _, p0⟩ := (HL6.o.below HB.o).int_at k hlt
        obtain ⟨an, rfl, _, _, n0, n1⟩ := rowPiece (HG.o.n.below HU.o) k hlt
        have y0 : wr.cell? ⟨w.heap.size, 0, none⟩ = some (.slice (some an) g.needs.length c1) := (HB.o.cell (p := ⟨w.heap.size, 0, none⟩) hlw6).trans HQ6.o
        have HS := As.mk (show lkTo g.needs ls (k + 1) = if 0 < ig ls k then lkTo g.needs ls k ++ [((pg g.needs k).1, ig ls k)] else lkTo g.needs ls k from rfl)
        have hlen := lkTo_len g.needs ls k
        generalize pg g.needs k = y at *
        obtain ⟨ys, yi⟩ := y
        simp only at n0 n1 HS
        generalize ig ls k = q at *
        generalize lkTo g.needs ls k = acc at *
        obtain ⟨Ao, co, rfl, _, _⟩ := HO.o.shape
        by_cases hq : 0 < q
        · have dq : decide (0 < q) = true := decide_eq_true hq
          have HS2 := As.mk (HS.o.trans (if_pos hq))
          clear hq HS
          go_wp2_with (at_builtin; refine app_one kPiece w6.heap.size rfl (.tmp 47) (.tmp 56) 22 (.agg #[.string ByteArray.empty, .int .i64 0]) 24 rfl Try.underlying22 info_need69 rfl (by decide) (.slice Ao acc.length co) acc (ys, q) [.string ys, .int .i64 q] rfl (by show Value.slice _ _ _ = _; simp) HO.o (kPiece_mk _ _ (ys, q)) hbs (by omega) (by omega) ?_; intro v1 w7 HO7 hg7 hat7)
          go_roundw
          case rel =>
            refine ⟨k + 1, by omega, by go_num, ⟨by rw [HS2.o]; exact HO7⟩, ⟨HB.o.trans (HO.o.base_le hg7 (Nat.le_refl _) hbs)⟩⟩
          case measure => simp [intOf]; omega
        · have dq : decide (0 < q) = false := decide_eq_false hq
          have HS2 := As.mk (HS.o.trans (if_neg hq))
          clear hq HS
          go_wp2
          go_roundw
          case rel => exact ⟨k + 1, by omega, by go_num, ⟨by rw [HS2.o]; exact HO.o⟩, HB⟩
          case measure => simp [intOf]; omega
      · have e : k = g.needs.length := by omega
        subst e
        have x5 : wr.cell? ⟨w4.heap.size, 5, none⟩ = some (.bool ix) := (HB.o.cell (p := ⟨w4.heap.size, 5, none⟩) hlx6).trans HX6.o
        obtain ⟨Ao, co, rfl, _, hro⟩ := HO.o.shape
        have HRO := As.mk hro
        clear hro
        go_upto_region 14 with (fail)
        go_quiet (fail)
        go_wp2
        refine bodyPost_ret (v := .tuple #[.slice Ao (lkTo g.needs ls g.needs.length).length co, .int .i64 nl, .bool (!ix), .int .i64 0]) ?_ rfl ?_
        · simp [results, Try.results29, go_sem]
        exact ⟨Ao, co, nl, !ix, rfl, (HRO.o.below (below_drewN (Below.refl _ _) _)).mono fun k hk => hk, below_drewN (bthen HZ6.o HB.o (Nat.le_refl _)) _⟩
  · have hs : lackingP g list devs = [] := if_neg hv
    rw [checkOf_no hv] at CHK ⊢
    rw [hs]
    clear hs hv
    go_enter Try.func29, Try.ntmps29
    go_wp2_with (go_at_call 31; refine (CHK.o _ HB0.o).mono ?_; rintro e w1 ⟨rfl, hb1⟩)
    refine bodyPost_ret (v := .tuple #[.slice none 0 0, .int .i64 0, .bool false, .int .i64 1]) ?_ rfl ?_
    · simp [results, Try.results29, go_sem]
    exact ⟨none, 0, 0, false, rfl, Row.nil _ _ _ _, bthen HB0.o hb1 (Nat.le_refl _)⟩
end
end Go.Proofs.Ytlinhckgdfhppaa
