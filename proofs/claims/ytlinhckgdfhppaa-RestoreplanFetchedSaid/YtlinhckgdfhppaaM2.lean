/- A part of the proof: what the functions do, and plain laws. -/
import Derived.Test.YtlinhckgdfhppaaM1
import Derived.Test.YtlinhckgdfhppaaK4
set_option linter.unusedSimpArgs false
set_option linter.unusedVariables false
namespace Go.Proofs.Ytlinhckgdfhppaa
open Go Go.RowKit Go.Proofs.YtlinhckgdfhppaaK
attribute [local go_sem high] eq_piece

set_option maxRecDepth 100000 in
set_option maxHeartbeats 400000 in
theorem ints_any (A1 A2 : Option Addr) (n1 c1 n2 c2 : Nat) (ok : Nat → Prop) (xs ys : List Int) (w : World) (h1 : Row (Kn.int .i64) w ok A1 n1 xs) (h2 : Row (Kn.int .i64) w ok A2 n2 ys) :
    Calls Try.prog 18 #[.slice A1 n1 c1, .slice A2 n2 c2] w fun e w' => e = .returned (.bool (decide (xs = ys))) ∧ Below w.heap.size w w' := by
  have hm1 := h1.2.1
  have hm2 := h2.2.1
  have HL1 := As.mk h1.1
  have HL2 := As.mk h2.1
  have H1 := As.mk h1
  have H2 := As.mk h2
  clear h1 h2
  by_cases hn : n1 = n2
  · subst hn
    go_enter Try.func18, Try.ntmps18
    go_wp2
    go_loopw [5] (fun i' wr => ∃ k : Nat, k ≤ n1 ∧ i' = .int .i64 k ∧ As (xs.take k = ys.take k) ∧ (Below w.heap.size w wr)) (fun i' _ => n1 - (intOf i').toNat)
    case atStart => exact ⟨0, Nat.zero_le _, rfl, ⟨by simp⟩, Below.refl _ _⟩
    case round =>
      obtain ⟨k, hk, rfl, he, hb⟩ := hrel
      by_cases hlt : k < n1
      · obtain ⟨a1, rfl, _, _, p1⟩ := (H1.o.below hb).int_at k hlt
        obtain ⟨a2, rfl, _, _, p2⟩ := (H2.o.below hb).int_at k hlt
        have g1 : k < xs.length := by rw [HL1.o]; exact hlt
        have g2 : k < ys.length := by rw [HL2.o]; exact hlt
        have HTX := As.mk (take_ig xs k g1)
        have HTY := As.mk (take_ig ys k g2)
        by_cases hx : ig xs k = ig ys k
        · have HN : As (xs.take (k + 1) = ys.take (k + 1)) := ⟨by rw [HTX.o, HTY.o, he.o, hx]⟩
          have hd : (ig xs k != ig ys k) = false := by rw [bne_eq_false_iff_eq]; exact hx
          clear hx g1 g2
          go_wp2
          go_quiet (fail)
          go_wp2
          go_roundw
          case rel => exact ⟨k + 1, by omega, by go_num, HN, below_drewN hb _⟩
          case measure => simp [intOf]; omega
        · have HN : As (xs ≠ ys) := ⟨fun e => hx (by rw [e])⟩
          have hd : (ig xs k != ig ys k) = true := by rw [bne_iff_ne]; exact hx
          clear hx g1 g2
          go_wp2
          go_quiet (fail)
          go_wp2
          go_ret
          exact ⟨by rw [decide_eq_false HN.o]; rfl, below_drewN hb _⟩
      · have HN : As (xs = ys) := ⟨by
          have e1 : xs.take k = xs := List.take_of_length_le (by rw [HL1.o]; omega)
          have e2 : ys.take k = ys := List.take_of_length_le (by rw [HL2.o]; omega)
          rw [← e1, ← e2]
          exact he.o⟩
        go_wp2
        go_ret
        exact ⟨by rw [decide_eq_true HN.o]; rfl, hb⟩
  · have HN : As (xs ≠ ys) := ⟨fun e => hn (by rw [← HL1.o, ← HL2.o, e])⟩
    have hd : ((n1 : Int) != (n2 : Int)) = true := by rw [bne_iff_ne]; omega
    go_enter Try.func18, Try.ntmps18
    go_wp2
    go_ret
    exact ⟨by rw [decide_eq_false HN.o]; rfl, Below.refl _ _⟩

theorem info_hold99 : (Try.prog.info? 99).map (fun i => (i.zero, i.size, i.bytes)) = some (some (.agg #[(.int .i64 0), (.slice none 0 0), (.slice none 0 0), (.bool false)]), 4, 64) := by kernel_rfl
theorem info_need98 : (Try.prog.info? 98).map (fun i => (i.zero, i.size, i.bytes)) = some (some (.agg #[(.string ⟨#[]⟩), (.int .i64 0)]), 2, 24) := by kernel_rfl

set_option maxRecDepth 100000 in
set_option maxHeartbeats 400000 in
theorem holdingsOf_any (A : Option Addr) (n c : Nat) (list : List Hold) (w : World) (h : Row kHold w (fun k => k < w.heap.size) A n list) (hsz : n * 64 ≤ 140737488355328) :
    Calls Try.prog 15 #[.slice A n c] w fun e w' => ∃ v, e = .returned v ∧ Own kHold 99 w' w.heap.size v list ∧ Below w.heap.size w w' := by
  have hm := h.2.1
  have HL := As.mk h.1
  have H := As.mk h
  clear h
  go_enter Try.func15, Try.ntmps15
  go_wp2
  go_loopw [3, 4] (fun v i' wr => ∃ k : Nat, k ≤ n ∧ i' = .int .i64 k ∧ Own kHold 99 wr w.heap.size v (list.take k) ∧ (Below w.heap.size w wr)) (fun _ i' _ => n - (intOf i').toNat)
  case atStart => exact ⟨0, by omega, rfl, Own.empty _ _ _ _ (Nat.le_refl _), (Below.refl _ _).alloc (Nat.le_refl _) _⟩
  case round =>
    obtain ⟨k, hk, rfl, ho, hb⟩ := hrel
    by_cases hlt : k < n
    · have hkl : k < list.length := by rw [HL.o]; exact hlt
      obtain ⟨ad, A1, c1, A2, c2, rfl, _, hlt', p0, p1, p2, p3, q1, q2, q3, q4⟩ := rowHold (H.o.below hb) k hlt
      have HT : As (list.take (k + 1) = list.take k ++ [hgt list k]) := ⟨by rw [List.take_succ_eq_append_getElem hkl, hgt_eq _ _ hkl]⟩
      have HKL : (list.take k).length ≤ k := List.length_take_le _ _
      have HO := As.mk ho
      have hok : ∀ j, j < w.heap.size → u3.ownBlock ≠ some j := fun j hj e => by have := (HO.o.lt j e).1; omega
      have HK := As.mk (kHold_mk (w := wr) (ok := fun j => True ∧ u3.ownBlock ≠ some j) (x := hgt list k) q1 (q2.mono fun j hj => ⟨trivial, hok j hj⟩) q3 (q4.mono fun j hj => ⟨trivial, hok j hj⟩))
      clear ho q2 q4 hok hkl
      generalize hgt list k = y at *
      go_wp2_with (at_builtin; refine app_one kHold w.heap.size rfl (.tmp 12) (.tmp 17) 40 (.agg #[(.int .i64 0), (.slice none 0 0), (.slice none 0 0), (.bool false)]) 64 rfl Try.underlying40 info_hold99 rfl (by decide) u3 _ y _ rfl rfl HO.o HK.o hb.size (by omega) (by omega) ?_; intro v1 w1 HO1 hg hat)
      have HB := As.mk (HO.o.base_le hg (Nat.le_refl _) hb.size)
      have HO2 : As (Own kHold 99 w1 w.heap.size v1 (list.take (k + 1))) := ⟨by rw [HT.o]; exact HO1⟩
      go_roundw
      case rel => exact ⟨k + 1, by omega, by go_num, HO2.o, hb.trans HB.o⟩
      case measure => simp [intOf]; omega
    · have e : list.take k = list := List.take_of_length_le (by rw [HL.o]; omega)
      rw [e] at ho
      clear e
      go_wp2
      go_ret
      exact ⟨_, rfl, ho, hb⟩
end Go.Proofs.Ytlinhckgdfhppaa
namespace Go.Proofs.Ytlinhckgdfhppaa
open Go Go.RowKit Go.Proofs.YtlinhckgdfhppaaK
attribute [local go_sem high] eq_piece

set_option maxRecDepth 100000 in
set_option maxHeartbeats 1000000 in
theorem goalOf_any (g : Goal) (A1 : Option Addr) (c1 : Nat) (A2 : Option Addr) (c2 : Nat) (A3 : Option Addr) (c3 : Nat) (w : World)
    (hg : GoalIn w (fun k => k < w.heap.size) g A1 c1 A2 c2 A3 c3) (hsz : g.needs.length * 24 ≤ 140737488355328) :
    Calls Try.prog 14 #[.agg (goalCells g A1 c1 A2 c2 A3 c3)] w fun e w' => ∃ v, e = .returned (.agg #[v, .int .i64 g.thr, .bool g.index, .slice A2 g.pieces.length c2, .slice A3 g.shares.length c3]) ∧ Own kPiece 98 w' w.heap.size v g.needs ∧ Below w.heap.size w w' := by
  have HG := As.mk hg
  have hm := hg.n.2.1
  clear hg
  go_enter Try.func14, Try.ntmps14
  go_wp2
  have HB0 : As (Below w.heap.size w (((w.alloc (Obj.cells (goalCells g A1 c1 A2 c2 A3 c3) 26)).alloc (Obj.cells #[Value.slice none 0 0, Value.int IntKind.i64 0, Value.bool false, Value.slice none 0 0, Value.slice none 0 0] 38)).alloc (Obj.cells #[Value.slice none 0 0, Value.int IntKind.i64 g.thr, Value.bool g.index, Value.slice A2 g.pieces.length c2, Value.slice A3 g.shares.length c3] 38))) :=
    ⟨(((Below.refl _ _).alloc (Nat.le_refl _) _).alloc (by simp) _).alloc (by simp; omega) _⟩
  go_loopw [4] (fun i' wr => ∃ k : Nat, k ≤ g.needs.length ∧ i' = .int .i64 k ∧ Below w.heap.size w wr ∧ w.heap.size + 3 ≤ wr.heap.size ∧ As (wr.heap[w.heap.size]? = some (.cells (goalCells g A1 c1 A2 c2 A3 c3) 26 (0, 0))) ∧
      As (wr.heap[w.heap.size + 1]? = some (.cells #[Value.slice none 0 0, Value.int IntKind.i64 0, Value.bool false, Value.slice none 0 0, Value.slice none 0 0] 38 (0, 0))) ∧
      ∃ v, As (wr.heap[w.heap.size + 1 + 1]? = some (.cells #[v, Value.int IntKind.i64 g.thr, Value.bool g.index, Value.slice A2 g.pieces.length c2, Value.slice A3 g.shares.length c3] 38 (0, 0))) ∧
        As (Own kPiece 98 wr (w.heap.size + 3) v (g.needs.take k))) (fun i' _ => g.needs.length - (intOf i').toNat)
  case atStart =>
    refine ⟨0, Nat.zero_le _, rfl, HB0.o, by simp, ⟨?_⟩, ⟨?_⟩, _, ⟨?_⟩, ⟨Own.nil _ _ _ _⟩⟩
    · rw [Below.heap_alloc _ _ _ (by simp; omega), Below.heap_alloc _ _ _ (by simp), heap_alloc_new]
    · rw [Below.heap_alloc _ _ _ (by simp)]
      have := heap_alloc_new (w.alloc (Obj.cells (goalCells g A1 c1 A2 c2 A3 c3) 26)) (Obj.cells #[Value.slice none 0 0, Value.int IntKind.i64 0, Value.bool false, Value.slice none 0 0, Value.slice none 0 0] 38)
      simpa using this
    · have := heap_alloc_new ((w.alloc (Obj.cells (goalCells g A1 c1 A2 c2 A3 c3) 26)).alloc (Obj.cells #[Value.slice none 0 0, Value.int IntKind.i64 0, Value.bool false, Value.slice none 0 0, Value.slice none 0 0] 38)) (Obj.cells #[Value.slice none 0 0, Value.int IntKind.i64 g.thr, Value.bool g.index, Value.slice A2 g.pieces.length c2, Value.slice A3 g.shares.length c3] 38)
      simpa using this
  case round =>
    obtain ⟨k, hk, rfl, hb, hsz3, X0, X1, v, X2, HO⟩ := hrel
    have bx0 : wr.cell? ⟨w.heap.size, 0, none⟩ = some (.slice A1 g.needs.length c1) := (cell_of_row _ _ 0 _ _ _ X0.o).trans rfl
    have by0 : wr.cell? ⟨w.heap.size + 1 + 1, 0, none⟩ = some v := (cell_of_row _ _ 0 _ _ _ X2.o).trans rfl
    by_cases hlt : k < g.needs.length
    · obtain ⟨ad, e1, _, hlt', p0, p1⟩ := rowPiece (HG.o.below hb).n k hlt
      subst e1
      have HT : As (g.needs.take (k + 1) = g.needs.take k ++ [pg g.needs k]) := ⟨by rw [List.take_succ_eq_append_getElem hlt, pg_eq _ _ hlt]⟩
      have HKL : (g.needs.take k).length ≤ k := List.length_take_le _ _
      have HB := As.mk hb
      clear hb
      generalize pg g.needs k = y at *
      have hl0 : w.heap.size < wr.heap.size := by omega
      have hl2 : w.heap.size + 1 + 1 < wr.heap.size := by omega
      have hl3 : w.heap.size + 3 ≤ wr.heap.size := by omega
      obtain ⟨A, c, ev, _, _⟩ := HO.o.shape
      have HOD : As (Own kPiece 98 wr.drew (w.heap.size + 3) v (g.needs.take k)) := ⟨HO.o.below (Below.refl _ _).drew⟩
      have HEV := As.mk ev
      have fz : wr.frozen? ⟨w.heap.size + 1 + 1, 0, none⟩ = false := by simp [World.frozen?, X2.o]
      clear ev
      go_wp2
      go_region_law (refine step_app_one kPiece (w.heap.size + 3) rfl (.tmp 22) (.tmp 28) 36 (.agg #[(.string ⟨#[]⟩), (.int .i64 0)]) 24 rfl Try.underlying36 info_need98 rfl (by decide) v _ y _ rfl rfl HOD.o (kPiece_mk _ _ y) hl3 (by omega) (by omega) ?_
                     intro v1 w1 HO1 hg1 hat1
                     obtain ⟨Aq, cq, ev1, _, _⟩ := HO1.shape
                     have hbx := hg1.block (w.heap.size + 1 + 1) hl2 (fun e => by have := (HO.o.lt _ e.symm).1; omega)
                     have cx := (World.cell?_of_block (a := ⟨w.heap.size + 1 + 1, 0, none⟩) hbx).trans by0
                     have fx : w1.frozen? ⟨w.heap.size + 1 + 1, 0, none⟩ = false := (World.frozen?_of_block (a := ⟨w.heap.size + 1 + 1, 0, none⟩) hbx).trans fz
                     clear hbx)
      all_goals
        have e1 := hg1.block w.heap.size hl0 (fun e => by have := (HO.o.lt _ e.symm).1; omega)
        have e2 := hg1.block (w.heap.size + 1) (Nat.lt_of_succ_lt hl2) (fun e => by have := (HO.o.lt _ e.symm).1; omega)
        have e3 := hg1.block (w.heap.size + 1 + 1) hl2 (fun e => by have := (HO.o.lt _ e.symm).1; omega)
        have Y0 := As.mk (e1.trans X0.o)
        have Y1 := As.mk (e2.trans X1.o)
        have Y2 := As.mk (e3.trans X2.o)
        have HB1 := As.mk (HOD.o.base_le hg1 (B := w.heap.size) (by omega) hl3)
        have HS1 := As.mk hg1.size
        have HO2 : As (Own kPiece 98 w1 (w.heap.size + 3) v1 (g.needs.take (k + 1))) := ⟨by rw [HT.o]; exact HO1⟩
        have HEV1 : As (v1 = .slice Aq (k + 1) cq) := ⟨by rw [ev1, List.length_append, List.length_take, Nat.min_eq_left hk]; rfl⟩
        have fp : Flat kPiece := flat_pair flat_str (flat_int _)
        have hl1 : (w.heap.size + 1 + 1) < w.heap.size + 3 := by omega
        clear e1 e2 e3 hg1 hat1 HO1 ev1 cx fx
        rw [show (List.take k g.needs ++ [y]) = g.needs.take (k + 1) from HT.o.symm] at *
        go_wp2
        go_roundw
        case rel =>
          refine ⟨k + 1, by omega, by go_num, ?_, ?_, ⟨?_⟩, ⟨?_⟩, v1, ⟨?_⟩, ⟨?_⟩⟩
          · exact ((HB.o.drew).trans HB1.o).setCell (by simp; omega) _
          · simp [World.setCell]; have := HS1.o; simp at this; omega
          · rw [blk_far (by simp; omega)]; exact Y0.o
          · rw [blk_far (by simp)]; exact Y1.o
          · rw [← HEV1.o]; exact blk_set Y2.o v1
          · exact HO2.o.set_flat fp hl1 _
        case measure => simp [intOf]; omega
    · have e : g.needs.take k = g.needs := List.take_of_length_le (by omega)
      rw [e] at HO
      clear e
      have HB := As.mk hb
      clear hb
      have by1 : wr.cell? ⟨w.heap.size + 1 + 1, 1, none⟩ = some (.int .i64 g.thr) := (cell_of_row _ _ 1 _ _ _ X2.o).trans rfl
      have by2 : wr.cell? ⟨w.heap.size + 1 + 1, 2, none⟩ = some (.bool g.index) := (cell_of_row _ _ 2 _ _ _ X2.o).trans rfl
      have by3 : wr.cell? ⟨w.heap.size + 1 + 1, 3, none⟩ = some (.slice A2 g.pieces.length c2) := (cell_of_row _ _ 3 _ _ _ X2.o).trans rfl
      have by4 : wr.cell? ⟨w.heap.size + 1 + 1, 4, none⟩ = some (.slice A3 g.shares.length c3) := (cell_of_row _ _ 4 _ _ _ X2.o).trans rfl
      have bz0 : wr.cell? ⟨w.heap.size + 1, 0, none⟩ = some (.slice none 0 0) := (cell_of_row _ _ 0 _ _ _ X1.o).trans rfl
      have bz1 : wr.cell? ⟨w.heap.size + 1, 1, none⟩ = some (.int .i64 0) := (cell_of_row _ _ 1 _ _ _ X1.o).trans rfl
      have bz2 : wr.cell? ⟨w.heap.size + 1, 2, none⟩ = some (.bool false) := (cell_of_row _ _ 2 _ _ _ X1.o).trans rfl
      have bz3 : wr.cell? ⟨w.heap.size + 1, 3, none⟩ = some (.slice none 0 0) := (cell_of_row _ _ 3 _ _ _ X1.o).trans rfl
      have bz4 : wr.cell? ⟨w.heap.size + 1, 4, none⟩ = some (.slice none 0 0) := (cell_of_row _ _ 4 _ _ _ X1.o).trans rfl
      have fz : ∀ i, wr.frozen? ⟨w.heap.size + 1, i, none⟩ = false := fun i => blk_frozen X1.o
      obtain ⟨A, c, ev, _, _⟩ := HO.o.shape
      have HEV := As.mk ev
      subst ev
      go_wp2
      have fw : ∀ i u, (wr.setCell ⟨w.heap.size + 1, i, none⟩ u).frozen? ⟨w.heap.size + 1, i, none⟩ = false := fun i u => by simp [World.setCell, World.frozen?, Array.getElem?_modify, X1.o]
      refine bodyPost_ret (v := .agg #[.slice A g.needs.length c, .int .i64 g.thr, .bool g.index, .slice A2 g.pieces.length c2, .slice A3 g.shares.length c3]) ?_ rfl ?_
      · simp [results, Try.results14, go_sem, bz0, bz1, bz2, bz3, bz4]
      · refine ⟨_, rfl, ?_, ?_⟩
        · refine OwnK.lower ?_ (Nat.le_add_right _ 3)
          iterate 5 refine OwnK.set_flat (flat_pair flat_str (flat_int _)) ?_ (Nat.add_lt_add_left (by decide) _) _
          exact HO.o
        · iterate 5 refine Below.setCell ?_ (Nat.le_succ _) _
          exact HB.o
/-- The inputs that the statements examine. -/
def Few (g : Goal) (list : List Hold) : Prop := (∀ h ∈ list, h.pieces.length ≤ 20 ∧ h.shares.length ≤ 20) ∧ g.needs.length ≤ 6 ∧ g.pieces.length ≤ 20 ∧ g.shares.length ≤ 20 ∧ (list.length ≤ 6 ∨ list.length = 13)
instance (g : Goal) (list : List Hold) : Decidable (Few g list) := by unfold Few; infer_instance

set_option maxRecDepth 100000 in
set_option maxHeartbeats 1000000 in
theorem few_any (g : Goal) (A1 : Option Addr) (c1 : Nat) (A2 : Option Addr) (c2 : Nat) (A3 : Option Addr) (c3 : Nat) (A4 : Option Addr) (n c4 : Nat) (list : List Hold) (w : World) (ok : Nat → Prop)
    (hg : GoalIn w ok g A1 c1 A2 c2 A3 c3) (hh : Row kHold w ok A4 n list) :
    Calls Try.prog 10 #[.agg (goalCells g A1 c1 A2 c2 A3 c3), .slice A4 n c4] w fun e w' => e = .returned (.bool (decide (Few g list))) ∧ Below w.heap.size w w' := by
  have hm1 := hg.n.2.1
  have hm2 := hg.p.2.1
  have hm3 := hg.s.2.1
  have hm4 := hh.2.1
  have HL := As.mk hh.1
  have HH := As.mk hh
  clear hg hh
  go_enter Try.func10, Try.ntmps10
  go_wp2
  have HB0 := As.mk ((Below.refl w.heap.size w).alloc (Nat.le_refl _) (.cells (goalCells g A1 c1 A2 c2 A3 c3) 26))
  go_loop [5] (fun i' => ∃ k : Nat, k ≤ n ∧ i' = .int .i64 k ∧ As (∀ h ∈ list.take k, h.pieces.length ≤ 20 ∧ h.shares.length ≤ 20)) (fun i' => n - (intOf i').toNat)
  case atStart => exact ⟨0, Nat.zero_le _, rfl, ⟨by simp⟩⟩
  case round =>
    obtain ⟨k, hk, rfl, he⟩ := hrel
    by_cases hlt : k < n
    · have hkl : k < list.length := by rw [HL.o]; exact hlt
      obtain ⟨ad, B1, d1, B2, d2, rfl, _, hlt', p0, p1, p2, p3, q1, q2, q3, q4⟩ := rowHold (HH.o.below HB0.o) k hlt
      have HT : As (list.take (k + 1) = list.take k ++ [hgt list k]) := ⟨by rw [List.take_succ_eq_append_getElem hkl, hgt_eq _ _ hkl]⟩
      have HM : As (hgt list k ∈ list) := ⟨by rw [hgt_eq _ _ hkl]; exact List.getElem_mem hkl⟩
      have hz1 := q2.2.1
      have hz2 := q4.2.1
      clear q2 q4 hkl
      generalize hgt list k = y at *
      by_cases h1 : 20 < y.pieces.length
      · have HN : As (¬ Few g list) := ⟨fun hc => by have := (hc.1 y HM.o).1; omega⟩
        have hd : decide ((20 : Int) < (y.pieces.length : Int)) = true := decide_eq_true (by omega)
        go_wp2
        go_ret
        exact ⟨by rw [decide_eq_false HN.o]; rfl, HB0.o⟩
      · have hd : decide ((20 : Int) < (y.pieces.length : Int)) = false := decide_eq_false (by omega)
        by_cases h2 : 20 < y.shares.length
        · have HN : As (¬ Few g list) := ⟨fun hc => by have := (hc.1 y HM.o).2; omega⟩
          have hd : decide ((20 : Int) < (y.shares.length : Int)) = true := decide_eq_true (by omega)
          go_wp2
          go_ret
          exact ⟨by rw [decide_eq_false HN.o]; rfl, HB0.o⟩
        · have hd : decide ((20 : Int) < (y.shares.length : Int)) = false := decide_eq_false (by omega)
          have HN : As (∀ h ∈ list.take (k + 1), h.pieces.length ≤ 20 ∧ h.shares.length ≤ 20) := ⟨by
            rw [HT.o]
            intro h hh
            rcases List.mem_append.1 hh with hh | hh
            · exact he.o h hh
            · rw [List.mem_singleton.1 hh]; omega⟩
          go_wp2
          go_round
          case rel => exact ⟨k + 1, by omega, by go_num, HN⟩
          case measure => simp [intOf]; omega
    · have e : list.take k = list := List.take_of_length_le (by rw [HL.o]; omega)
      rw [e] at he
      clear e
      by_cases h1 : g.needs.length ≤ 6
      · have hd1 : decide ((g.needs.length : Int) ≤ 6) = true := decide_eq_true (by omega)
        by_cases h2 : g.pieces.length ≤ 20
        · have hd2 : decide ((g.pieces.length : Int) ≤ 20) = true := decide_eq_true (by omega)
          by_cases h3 : g.shares.length ≤ 20
          · have hd3 : decide ((g.shares.length : Int) ≤ 20) = true := decide_eq_true (by omega)
            by_cases h4 : n ≤ 6
            · have HF : As (Few g list) := ⟨⟨he.o, h1, h2, h3, .inl (by rw [HL.o]; exact h4)⟩⟩
              have hd4 : decide ((n : Int) ≤ 6) = true := decide_eq_true (by omega)
              go_wp2
              go_ret
              exact ⟨by rw [decide_eq_true HF.o]; rfl, HB0.o⟩
            · have hd4 : decide ((n : Int) ≤ 6) = false := decide_eq_false (by omega)
              by_cases h5 : n = 13
              · have HF : As (Few g list) := ⟨⟨he.o, h1, h2, h3, .inr (by rw [HL.o]; exact h5)⟩⟩
                have hd5 : ((n : Int) == 13) = true := beq_iff_eq.2 (by omega)
                clear h5
                go_wp2
                go_ret
                exact ⟨by rw [decide_eq_true HF.o]; rfl, HB0.o⟩
              · have HF : As (¬ Few g list) := ⟨fun hc => by have := hc.2.2.2.2; rw [HL.o] at this; omega⟩
                have hd5 : ((n : Int) == 13) = false := beq_eq_false_iff_ne.2 (by omega)
                go_wp2
                go_ret
                exact ⟨by rw [decide_eq_false HF.o]; rfl, HB0.o⟩
          · have HF : As (¬ Few g list) := ⟨fun hc => h3 hc.2.2.2.1⟩
            have hd3 : decide ((g.shares.length : Int) ≤ 20) = false := decide_eq_false (by omega)
            go_wp2
            go_ret
            exact ⟨by rw [decide_eq_false HF.o]; rfl, HB0.o⟩
        · have HF : As (¬ Few g list) := ⟨fun hc => h2 hc.2.2.1⟩
          have hd2 : decide ((g.pieces.length : Int) ≤ 20) = false := decide_eq_false (by omega)
          go_wp2
          go_ret
          exact ⟨by rw [decide_eq_false HF.o]; rfl, HB0.o⟩
      · have HF : As (¬ Few g list) := ⟨fun hc => h1 hc.2.1⟩
        have hd1 : decide ((g.needs.length : Int) ≤ 6) = false := decide_eq_false (by omega)
        go_wp2
        go_ret
        exact ⟨by rw [decide_eq_false HF.o]; rfl, HB0.o⟩
end Go.Proofs.Ytlinhckgdfhppaa
namespace Go.Proofs.Ytlinhckgdfhppaa
open Go Go.RowKit Go.Proofs.YtlinhckgdfhppaaK
attribute [local go_sem high] eq_piece

/-- Different keys, and a property of each. -/
def okU {α β : Type} (p : α → Prop) (f : α → β) (xs : List α) : Prop := (∀ x ∈ xs, p x) ∧ (xs.map f).Nodup
theorem okU_snoc {α β : Type} {p : α → Prop} {f : α → β} {xs : List α} {k : Nat} {x : α} (hk : k < xs.length) (hx : xs[k] = x) : okU p f (xs.take (k + 1)) ↔ okU p f (xs.take k) ∧ p x ∧ f x ∉ (xs.take k).map f := by
  rw [List.take_succ_eq_append_getElem hk, hx]
  unfold okU
  rw [List.map_append, List.nodup_append]
  constructor
  · rintro ⟨h1, h2, _, h3⟩
    exact ⟨⟨fun p hp => h1 p (List.mem_append_left _ hp), h2⟩, h1 _ (List.mem_append_right _ (List.mem_singleton.2 rfl)), fun h => h3 _ h _ (List.mem_singleton.2 rfl) rfl⟩
  · rintro ⟨⟨h1, h2⟩, h3, h5⟩
    refine ⟨fun p hp => ?_, h2, by simp, fun a ha b hb => ?_⟩
    · rcases List.mem_append.1 hp with hp | hp
      · exact h1 p hp
      · rw [List.mem_singleton.1 hp]; exact h3
    · rw [List.mem_singleton.1 hb]
      exact fun e => h5 (e ▸ ha)
theorem okU_take {α β : Type} {p : α → Prop} {f : α → β} {xs : List α} (h : okU p f xs) (k : Nat) : okU p f (xs.take k) :=
  ⟨fun x hx => h.1 x (List.mem_of_mem_take hx), by rw [List.map_take]; exact h.2.sublist (List.take_sublist _ _)⟩
theorem okU_nil {α β : Type} {p : α → Prop} {f : α → β} : okU p f [] := ⟨by simp, by simp⟩

def okNeeds (xs : List Need) : Prop := okU (fun n : Need => 1 ≤ n.2 ∧ n.2 ≤ 8) (fun n : Need => n.1) xs
def okHolds (xs : List Hold) : Prop := okU (fun h : Hold => 0 ≤ h.dev ∧ h.dev < 12 ∧ okPieces h.pieces ∧ okShares h.shares) (fun h : Hold => h.dev) xs
instance (xs : List Need) : Decidable (okNeeds xs) := by unfold okNeeds okU; infer_instance
instance (xs : List Hold) : Decidable (okHolds xs) := by unfold okHolds okU; infer_instance
/-- A goal and holdings are valid. -/
def Valid (g : Goal) (list : List Hold) : Prop := g.needs.length ≤ 64 ∧ 0 ≤ g.thr ∧ g.thr ≤ 255 ∧ okPieces g.pieces ∧ okShares g.shares ∧ list.length ≤ 12 ∧ okNeeds g.needs ∧ okHolds list
instance (g : Goal) (list : List Hold) : Decidable (Valid g list) := by unfold Valid; infer_instance

theorem findDev_lt (xs : List Hold) (x : Int) : findDev xs x < 0 ↔ x ∉ xs.map (·.dev) := by
  rw [← findDev_iff]
  omega

set_option maxRecDepth 100000 in
set_option maxHeartbeats 4000000 in
theorem refCheck_any (g : Goal) (A1 : Option Addr) (c1 : Nat) (A2 : Option Addr) (c2 : Nat) (A3 : Option Addr) (c3 : Nat) (A4 : Option Addr) (n c4 : Nat) (list : List Hold) (w : World) (ok : Nat → Prop)
    (hg : GoalIn w ok g A1 c1 A2 c2 A3 c3) (hh : Row kHold w ok A4 n list) (hc4 : n ≤ c4) :
    Calls Try.prog 20 #[.agg (goalCells g A1 c1 A2 c2 A3 c3), .slice A4 n c4] w fun e w' => e = .returned (.bool (decide (Valid g list))) ∧ Below w.heap.size w w' := by
  have hm1 := hg.n.2.1
  have hm2 := hg.p.2.1
  have hm3 := hg.s.2.1
  have hm4 := hh.2.1
  have HL := As.mk hh.1
  have HH := As.mk hh
  have HG := As.mk hg
  clear hg hh
  obtain ⟨w0, hw0⟩ : ∃ w0 : World, w0 = w.alloc (.cells (goalCells g A1 c1 A2 c2 A3 c3) 38) := ⟨_, rfl⟩
  have HB0 : As (Below w.heap.size w w0) := ⟨by rw [hw0]; exact (Below.refl w.heap.size w).alloc (Nat.le_refl _) _⟩
  have HX : As (w0.heap[w.heap.size]? = some (.cells (goalCells g A1 c1 A2 c2 A3 c3) 38 (0, 0))) := ⟨by rw [hw0]; exact heap_alloc_new w _⟩
  have hlw : w.heap.size < w0.heap.size := blk_lt HX.o
  have bx0 : w0.cell? ⟨w.heap.size, 0, none⟩ = some (.slice A1 g.needs.length c1) := (cell_of_row _ _ 0 _ _ _ HX.o).trans rfl
  have bx1 : w0.cell? ⟨w.heap.size, 1, none⟩ = some (.int .i64 g.thr) := (cell_of_row _ _ 1 _ _ _ HX.o).trans rfl
  have bx3 : w0.cell? ⟨w.heap.size, 3, none⟩ = some (.slice A2 g.pieces.length c2) := (cell_of_row _ _ 3 _ _ _ HX.o).trans rfl
  have bx4 : w0.cell? ⟨w.heap.size, 4, none⟩ = some (.slice A3 g.shares.length c3) := (cell_of_row _ _ 4 _ _ _ HX.o).trans rfl
  have HW0 := As.mk hw0
  clear hw0
  go_enter Try.func20, Try.ntmps20
  go_upto_region 1 with (fail)
  rw [← HW0.o]
  by_cases v1 : g.needs.length ≤ 64
  · have hd1 : decide ((64 : Int) < (g.needs.length : Int)) = false := decide_eq_false (by omega)
    by_cases v2 : 0 ≤ g.thr
    · have hd2 : decide (g.thr < 0) = false := decide_eq_false (by omega)
      by_cases v3 : g.thr ≤ 255
      · have hd3 : decide (255 < g.thr) = false := decide_eq_false (by omega)
        by_cases v4 : okPieces g.pieces
        · have V4 := As.mk v4
          have PC : As (∀ W, Below w0.heap.size w0 W → Calls Try.prog 47 #[.slice A2 g.pieces.length c2] W fun e w' => e = .returned (.bool true) ∧ Below W.heap.size W w') := ⟨fun W hW => (pieces_any _ _ _ ok _ _ (((HG.o.below HB0.o).below hW).p) HG.o.cp).mono fun e w' ⟨h1, h2⟩ => ⟨by rw [h1, decide_eq_true v4], h2⟩⟩
          clear v4
          by_cases v5 : okShares g.shares
          · have V5 := As.mk v5
            have SC : As (∀ W, Below w0.heap.size w0 W → Calls Try.prog 48 #[.slice A3 g.shares.length c3] W fun e w' => e = .returned (.bool true) ∧ Below W.heap.size W w') := ⟨fun W hW => (shares_any _ _ _ ok _ _ (((HG.o.below HB0.o).below hW).s)).mono fun e w' ⟨h1, h2⟩ => ⟨by rw [h1, decide_eq_true v5], h2⟩⟩
            clear v5
            by_cases v6 : n ≤ 12
            · have hd6 : decide ((12 : Int) < (n : Int)) = false := decide_eq_false (by omega)
              go_wp2_with (first | (go_at_call 47; refine (PC.o _ (Below.refl _ _)).mono ?_; rintro e w1 ⟨rfl, hb1⟩; have cx0 := (hb1.cell (p := ⟨w.heap.size, 0, none⟩) hlw).trans bx0; have cx4 := (hb1.cell (p := ⟨w.heap.size, 4, none⟩) hlw).trans bx4; have hlw1 := Nat.lt_of_lt_of_le hlw hb1.size) | (go_at_call 48; refine (SC.o _ hb1).mono ?_; rintro e w2 ⟨rfl, hb2⟩))
              have dx0 := (hb2.cell (p := ⟨w.heap.size, 0, none⟩) hlw1).trans cx0
              have hlw2 := Nat.lt_of_lt_of_le hlw1 hb2.size
              have HB2 := As.mk (bthen (bthen HB0.o hb1 (Nat.le_refl _)) hb2 (Nat.le_refl _))
              have HW2 := As.mk (HG.o.below HB2.o)
              have HH2 := As.mk (HH.o.below HB2.o)
              clear hb1 hb2 cx0 cx4 hlw1 PC SC bx0 bx1 bx3 bx4 hd1 hd2 hd3 hd6
              go_loopw [5] (fun i' wr => ∃ k : Nat, k ≤ g.needs.length ∧ i' = .int .i64 k ∧ As (okNeeds (g.needs.take k)) ∧ Below w2.heap.size w2 wr) (fun i' _ => g.needs.length - (intOf i').toNat)
              case atStart => exact ⟨0, Nat.zero_le _, rfl, ⟨okU_nil⟩, Below.refl _ _⟩
              case round =>
                obtain ⟨k, hk, rfl, hne, hb⟩ := hrel
                have ex0 := (hb.cell (p := ⟨w.heap.size, 0, none⟩) hlw2).trans dx0
                by_cases hlt : k < g.needs.length
                · have HN2 := As.mk (HW2.o.below hb).n
                  obtain ⟨ad, e1, _, hlt', p0, p1⟩ := rowPiece HN2.o k hlt
                  subst e1
                  have HS := As.mk (okU_snoc (p := fun n : Need => 1 ≤ n.2 ∧ n.2 ≤ 8) (f := fun n : Need => n.1) hlt (pg_eq g.needs k hlt).symm)
                  have HB := As.mk hb
                  clear hb
                  by_cases u1 : 1 ≤ (pg g.needs k).2
                  · have hu1 : decide ((pg g.needs k).2 < 1) = false := decide_eq_false (by omega)
                    by_cases u2 : (pg g.needs k).2 ≤ 8
                    · have hu2 : decide (8 < (pg g.needs k).2) = false := decide_eq_false (by omega)
                      obtain ⟨wo, rfl⟩ : ∃ wo : World, wo = wr := ⟨_, rfl⟩
                      have hlwo : w.heap.size < wo.heap.size := Nat.lt_of_lt_of_le hlw2 HB.o.size
                      go_wp2
                      go_loopw [6] (fun i' wr => ∃ j : Nat, j ≤ k ∧ i' = .int .i64 j ∧ As ((pg g.needs k).1 ∉ (g.needs.take j).map (fun n : Need => n.1)) ∧ Below wo.heap.size wo wr) (fun i' _ => k - (intOf i').toNat)
                      case atStart => exact ⟨0, Nat.zero_le _, rfl, ⟨by simp⟩, Below.refl _ _⟩
                      case round =>
                        obtain ⟨j, hj, rfl, hnj, hb3⟩ := hrel
                        have fx0 := (hb3.cell (p := ⟨w.heap.size, 0, none⟩) hlwo).trans ex0
                        have p0' := (hb3.cell (by rw [block_add]; exact hlt')).trans p0
                        by_cases hjk : j < k
                        · obtain ⟨ad', e2, _, hlt2, r0, r1⟩ := rowPiece (HN2.o.below hb3) j (by omega)
                          injection e2 with e2
                          subst e2
                          have hjl : j < g.needs.length := by omega
                          have HT : As (∀ z, z ∈ (g.needs.take (j + 1)).map (fun n : Need => n.1) ↔ z ∈ (g.needs.take j).map (fun n : Need => n.1) ∨ z = (pg g.needs j).1) := ⟨fun z => by
                            rw [List.take_succ_eq_append_getElem hjl, ← pg_eq _ _ hjl, List.map_append, List.mem_append]
                            simp⟩
                          have HM : As ((pg g.needs j).1 ∈ (g.needs.take k).map (fun n : Need => n.1)) := ⟨List.mem_map.2 ⟨pg g.needs j, by rw [pg_eq _ _ hjl]; exact List.mem_take_iff_getElem.2 ⟨j, by omega, rfl⟩, rfl⟩⟩
                          have HTK := As.mk (fun (h : okNeeds g.needs) => okU_take h (k + 1))
                          generalize pg g.needs j = z at *
                          by_cases hz : (z.1.toList == (pg g.needs k).1.toList) = true
                          · have HZ := As.mk (toList_inj.1 (beq_iff_eq.1 hz))
                            have HN : As (¬ Valid g list) := ⟨fun hc => (HS.o.1 (HTK.o hc.2.2.2.2.2.2.1)).2.2 (HZ.o ▸ HM.o)⟩
                            go_wp2
                            go_quiet (fail)
                            go_wp2
                            go_ret
                            exact ⟨by rw [decide_eq_false HN.o]; rfl, below_drewN (bthen (bthen HB2.o HB.o (Nat.le_refl _)) hb3 (Nat.le_refl _)) _⟩
                          · have hz' := Bool.eq_false_iff.2 hz
                            have HN3 : As ((pg g.needs k).1 ∉ (g.needs.take (j + 1)).map (fun n : Need => n.1)) := ⟨fun hc => ((HT.o _).1 hc).elim hnj.o fun he => hz (beq_iff_eq.2 (toList_inj.2 he.symm))⟩
                            clear hz
                            go_wp2
                            go_quiet (fail)
                            go_wp2
                            go_roundw
                            case rel => exact ⟨j + 1, by omega, by go_num, HN3, below_drewN hb3 _⟩
                            case measure => simp [intOf]; omega
                        · have ejk : j = k := by omega
                          subst ejk
                          have HN3 : As (okNeeds (g.needs.take (j + 1))) := ⟨HS.o.2 ⟨hne.o, ⟨u1, u2⟩, hnj.o⟩⟩
                          go_wp2
                          go_roundw
                          case rel => exact ⟨j + 1, by omega, by go_num, HN3, bthen HB.o hb3 (Nat.le_refl _)⟩
                          case measure => simp [intOf]; omega
                    · have hu2 : decide (8 < (pg g.needs k).2) = true := decide_eq_true (by omega)
                      have HN : As (¬ Valid g list) := ⟨fun hc => u2 (HS.o.1 (okU_take hc.2.2.2.2.2.2.1 (k + 1))).2.1.2⟩
                      go_wp2
                      go_ret
                      exact ⟨by rw [decide_eq_false HN.o]; rfl, bthen HB2.o HB.o (Nat.le_refl _)⟩
                  · have hu1 : decide ((pg g.needs k).2 < 1) = true := decide_eq_true (by omega)
                    have HN : As (¬ Valid g list) := ⟨fun hc => u1 (HS.o.1 (okU_take hc.2.2.2.2.2.2.1 (k + 1))).2.1.1⟩
                    go_wp2
                    go_ret
                    exact ⟨by rw [decide_eq_false HN.o]; rfl, bthen HB2.o HB.o (Nat.le_refl _)⟩
                · have HNN : As (okNeeds g.needs) := ⟨by
                    have := hne.o
                    rwa [List.take_of_length_le (by omega)] at this⟩
                  have HB := As.mk hb
                  clear hb dx0
                  obtain ⟨wo, rfl⟩ : ∃ wo : World, wo = wr := ⟨_, rfl⟩
                  go_wp2
                  go_loopw [7] (fun i' wr => ∃ k : Nat, k ≤ n ∧ i' = .int .i64 k ∧ As (okHolds (list.take k)) ∧ Below wo.heap.size wo wr) (fun i' _ => n - (intOf i').toNat)
                  case atStart => exact ⟨0, Nat.zero_le _, rfl, ⟨okU_nil⟩, Below.refl _ _⟩
                  case round =>
                    obtain ⟨m, hm, rfl, hnm, hb⟩ := hrel
                    by_cases hlt : m < n
                    · have hml : m < list.length := by rw [HL.o]; exact hlt
                      have HBW := As.mk (bthen HB2.o HB.o (Nat.le_refl _))
                      have HH9 := As.mk ((HH.o.below HBW.o).below hb)
                      obtain ⟨ad4, B1, d1, B2, d2, e4, _, hl4, r0, r1, r2, r3, hd1, R1, hd2, R2⟩ := rowHold HH9.o m hlt
                      subst e4
                      have HS := As.mk (okU_snoc (p := fun h : Hold => 0 ≤ h.dev ∧ h.dev < 12 ∧ okPieces h.pieces ∧ okShares h.shares) (f := fun h : Hold => h.dev) hml (hgt_eq list m hml).symm)
                      have HTK := As.mk (fun (h : okHolds list) => okU_take h (m + 1))
                      have HR1 := As.mk R1
                      have HR2 := As.mk R2
                      have HFD := As.mk (findDev_iff (list.take m) (hgt list m).dev)
                      have HTT := As.mk (HH9.o.take m hm)
                      have FC : As (∀ p : BW wr, Calls Try.prog 49 #[.slice (some ad4) m c4, .int .i64 (hgt list m).dev] p.W fun e w' => e = .returned (.int .i64 (findDev (list.take m) (hgt list m).dev)) ∧ p.W = w') := ⟨fun p => find_any _ _ _ ok _ _ _ (HTT.o.below p.h)⟩
                      have PC : As (∀ p : BW wr, Calls Try.prog 47 #[.slice B1 (hgt list m).pieces.length d1] p.W fun e w' => e = .returned (.bool (decide (okPieces (hgt list m).pieces))) ∧ Below p.W.heap.size p.W w') := ⟨fun p => pieces_any _ _ _ ok _ _ (HR1.o.below p.h) hd1⟩
                      have SC : As (∀ p : BW wr, Calls Try.prog 48 #[.slice B2 (hgt list m).shares.length d2] p.W fun e w' => e = .returned (.bool (decide (okShares (hgt list m).shares))) ∧ Below p.W.heap.size p.W w') := ⟨fun p => shares_any _ _ _ ok _ _ (HR2.o.below p.h)⟩
                      have HBX := As.mk hb
                      have r0' := BW.cell r0
                      have r1' := BW.cell r1
                      have r2' := BW.cell r2
                      clear R1 R2 r0 r1 r2 r3 hb
                      generalize findDev (list.take m) (hgt list m).dev = F at *
                      generalize hgt list m = z at *
                      have hi0 : (0 : Int) ≤ (m : Int) := by omega
                      have hi1 : (m : Int) < (n : Int) := by omega
                      have hi2 : (m : Int) ≤ (c4 : Int) := by omega
                      by_cases t1 : 0 ≤ z.dev
                      · have ht1 : decide (z.dev < 0) = false := decide_eq_false (by omega)
                        by_cases t2 : z.dev < 12
                        · have ht2 : decide (12 ≤ z.dev) = false := decide_eq_false (by omega)
                          by_cases t3 : 0 ≤ F
                          · have ht3 : decide (0 ≤ F) = true := decide_eq_true t3
                            have HN : As (¬ Valid g list) := ⟨fun hc => (HS.o.1 (HTK.o hc.2.2.2.2.2.2.2)).2.2 (HFD.o.1 t3)⟩
                            go_wp2
                            refine wp_region_below (by kernel_rfl) (by kernel_rfl) ?_
                            repeat (go_big_quiet_step (((go_at_call 49; exact calls_same _ (FC.o _)))))
                            refine wpQuiet_nil ?_
                            intro _ hw'
                            obtain ⟨pw, hw''⟩ := hw'
                            subst hw''
                            go_wp2
                            go_ret
                            exact ⟨by rw [decide_eq_false HN.o]; rfl, bthen (bthen HBW.o HBX.o (Nat.le_refl _)) pw.h (Nat.le_refl _)⟩
                          · have ht3 : decide (0 ≤ F) = false := decide_eq_false t3
                            by_cases t4 : okPieces z.pieces
                            · have ht4 : decide (okPieces z.pieces) = true := decide_eq_true t4
                              by_cases t5 : okShares z.shares
                              · have HNX : As (okHolds (list.take (m + 1))) := ⟨HS.o.2 ⟨hnm.o, ⟨t1, t2, t4, t5⟩, fun h => t3 (HFD.o.2 h)⟩⟩
                                rw [ht4] at PC
                                rw [decide_eq_true t5] at SC
                                clear t4 t5 ht4
                                go_wp2
                                refine wp_region_below (by kernel_rfl) (by kernel_rfl) ?_
                                repeat (go_big_quiet_step ((first | (go_at_call 49; exact calls_same _ (FC.o _)) | (go_at_call 47; exact calls_below _ (PC.o _)) | (go_at_call 48; exact calls_below _ (SC.o _)))))
                                refine wpQuiet_nil ?_
                                intro _ hw'
                                obtain ⟨pw, hw''⟩ := hw'
                                subst hw''
                                go_wp2
                                go_roundw
                                case rel => exact ⟨m + 1, by omega, by go_num, HNX, bthen HBX.o pw.h (Nat.le_refl _)⟩
                                case measure => simp [intOf]; omega
                              · rw [ht4] at PC
                                rw [decide_eq_false t5] at SC
                                clear ht4
                                have HN : As (¬ Valid g list) := ⟨fun hc => t5 (HS.o.1 (HTK.o hc.2.2.2.2.2.2.2)).2.1.2.2.2⟩
                                go_wp2
                                refine wp_region_below (by kernel_rfl) (by kernel_rfl) ?_
                                repeat (go_big_quiet_step ((first | (go_at_call 49; exact calls_same _ (FC.o _)) | (go_at_call 47; exact calls_below _ (PC.o _)) | (go_at_call 48; exact calls_below _ (SC.o _)))))
                                refine wpQuiet_nil ?_
                                intro _ hw'
                                obtain ⟨pw, hw''⟩ := hw'
                                subst hw''
                                go_wp2
                                go_ret
                                exact ⟨by rw [decide_eq_false HN.o]; rfl, bthen (bthen HBW.o HBX.o (Nat.le_refl _)) pw.h (Nat.le_refl _)⟩
                            · rw [decide_eq_false t4] at PC
                              have HN : As (¬ Valid g list) := ⟨fun hc => t4 (HS.o.1 (HTK.o hc.2.2.2.2.2.2.2)).2.1.2.2.1⟩
                              go_wp2
                              refine wp_region_below (by kernel_rfl) (by kernel_rfl) ?_
                              repeat (go_big_quiet_step ((first | (go_at_call 49; exact calls_same _ (FC.o _)) | (go_at_call 47; exact calls_below _ (PC.o _)))))
                              refine wpQuiet_nil ?_
                              intro _ hw'
                              obtain ⟨pw, hw''⟩ := hw'
                              subst hw''
                              go_wp2
                              go_ret
                              exact ⟨by rw [decide_eq_false HN.o]; rfl, bthen (bthen HBW.o HBX.o (Nat.le_refl _)) pw.h (Nat.le_refl _)⟩
                        · have ht2 : decide (12 ≤ z.dev) = true := decide_eq_true (by omega)
                          have HN : As (¬ Valid g list) := ⟨fun hc => t2 (HS.o.1 (HTK.o hc.2.2.2.2.2.2.2)).2.1.2.1⟩
                          go_wp2
                          refine wp_region_below (by kernel_rfl) (by kernel_rfl) ?_
                          repeat (go_big_quiet_step ((fail)))
                          refine wpQuiet_nil ?_
                          intro _ hw'
                          obtain ⟨pw, hw''⟩ := hw'
                          subst hw''
                          go_wp2
                          go_ret
                          exact ⟨by rw [decide_eq_false HN.o]; rfl, bthen (bthen HBW.o HBX.o (Nat.le_refl _)) pw.h (Nat.le_refl _)⟩
                      · have ht1 : decide (z.dev < 0) = true := decide_eq_true (by omega)
                        have HN : As (¬ Valid g list) := ⟨fun hc => t1 (HS.o.1 (HTK.o hc.2.2.2.2.2.2.2)).2.1.1⟩
                        go_wp2
                        refine wp_region_below (by kernel_rfl) (by kernel_rfl) ?_
                        repeat (go_big_quiet_step ((fail)))
                        refine wpQuiet_nil ?_
                        intro _ hw'
                        obtain ⟨pw, hw''⟩ := hw'
                        subst hw''
                        go_wp2
                        go_ret
                        exact ⟨by rw [decide_eq_false HN.o]; rfl, bthen (bthen HBW.o HBX.o (Nat.le_refl _)) pw.h (Nat.le_refl _)⟩
                    · have HV : As (Valid g list) := ⟨⟨v1, v2, v3, V4.o, V5.o, by rw [HL.o]; exact v6, HNN.o, by
                        have := hnm.o
                        rwa [List.take_of_length_le (by rw [HL.o]; omega)] at this⟩⟩
                      go_wp2
                      go_ret
                      exact ⟨by rw [decide_eq_true HV.o]; rfl, bthen (bthen HB2.o HB.o (Nat.le_refl _)) hb (Nat.le_refl _)⟩
            · have hd6 : decide ((12 : Int) < (n : Int)) = true := decide_eq_true (by omega)
              have HN : As (¬ Valid g list) := ⟨fun hc => v6 (by rw [← HL.o]; exact hc.2.2.2.2.2.1)⟩
              go_wp2_with (first | (go_at_call 47; refine (PC.o _ (Below.refl _ _)).mono ?_; rintro e w1 ⟨rfl, hb1⟩; have cx4 := (hb1.cell (p := ⟨w.heap.size, 4, none⟩) hlw).trans bx4) | (go_at_call 48; refine (SC.o _ hb1).mono ?_; rintro e w2 ⟨rfl, hb2⟩))
              go_ret
              exact ⟨by rw [decide_eq_false HN.o]; rfl, bthen (bthen HB0.o hb1 (Nat.le_refl _)) hb2 (Nat.le_refl _)⟩
          · have SC : As (∀ W, Below w0.heap.size w0 W → Calls Try.prog 48 #[.slice A3 g.shares.length c3] W fun e w' => e = .returned (.bool false) ∧ Below W.heap.size W w') := ⟨fun W hW => (shares_any _ _ _ ok _ _ (((HG.o.below HB0.o).below hW).s)).mono fun e w' ⟨h1, h2⟩ => ⟨by rw [h1, decide_eq_false v5], h2⟩⟩
            have HN : As (¬ Valid g list) := ⟨fun hc => v5 hc.2.2.2.2.1⟩
            go_wp2_with (first | (go_at_call 47; refine (PC.o _ (Below.refl _ _)).mono ?_; rintro e w1 ⟨rfl, hb1⟩; have cx4 := (hb1.cell (p := ⟨w.heap.size, 4, none⟩) hlw).trans bx4) | (go_at_call 48; refine (SC.o _ hb1).mono ?_; rintro e w2 ⟨rfl, hb2⟩))
            go_ret
            exact ⟨by rw [decide_eq_false HN.o]; rfl, bthen (bthen HB0.o hb1 (Nat.le_refl _)) hb2 (Nat.le_refl _)⟩
        · have PC : As (∀ W, Below w0.heap.size w0 W → Calls Try.prog 47 #[.slice A2 g.pieces.length c2] W fun e w' => e = .returned (.bool false) ∧ Below W.heap.size W w') := ⟨fun W hW => (pieces_any _ _ _ ok _ _ (((HG.o.below HB0.o).below hW).p) HG.o.cp).mono fun e w' ⟨h1, h2⟩ => ⟨by rw [h1, decide_eq_false v4], h2⟩⟩
          have HN : As (¬ Valid g list) := ⟨fun hc => v4 hc.2.2.2.1⟩
          go_wp2_with (go_at_call 47; refine (PC.o _ (Below.refl _ _)).mono ?_; rintro e w1 ⟨rfl, hb1⟩)
          go_ret
          exact ⟨by rw [decide_eq_false HN.o]; rfl, bthen HB0.o hb1 (Nat.le_refl _)⟩
      · have hd3 : decide (255 < g.thr) = true := decide_eq_true (by omega)
        have HN : As (¬ Valid g list) := ⟨fun hc => v3 hc.2.2.1⟩
        go_wp2
        go_ret
        exact ⟨by rw [decide_eq_false HN.o]; rfl, HB0.o⟩
    · have hd2 : decide (g.thr < 0) = true := decide_eq_true (by omega)
      have HN : As (¬ Valid g list) := ⟨fun hc => v2 hc.2.1⟩
      go_wp2
      go_ret
      exact ⟨by rw [decide_eq_false HN.o]; rfl, HB0.o⟩
  · have hd1 : decide ((64 : Int) < (g.needs.length : Int)) = true := decide_eq_true (by omega)
    have HN : As (¬ Valid g list) := ⟨fun hc => v1 hc.1⟩
    go_wp2
    go_ret
    exact ⟨by rw [decide_eq_false HN.o]; rfl, HB0.o⟩
end Go.Proofs.Ytlinhckgdfhppaa
namespace Go.Proofs.Ytlinhckgdfhppaa
open Go Go.RowKit Go.Proofs.YtlinhckgdfhppaaK
attribute [local go_sem high] eq_piece

/-- What the sums of the specification rest on: numbers that don't run over. -/
structure Modest (g : Goal) : Prop where
  needs : ∀ n ∈ g.needs, 0 ≤ n.2 ∧ n.2 ≤ 1000
  thr : 0 ≤ g.thr ∧ g.thr ≤ 1000
  len : g.needs.length ≤ 64
theorem lackNeed_bd {g : Goal} {list : List Hold} {devs : List Int} (h : Modest g) {n : Need} (hn : n ∈ g.needs) : 0 ≤ lackNeed g list devs n ∧ lackNeed g list devs n ≤ 1000 :=
  ⟨subN_nn _ _, Int.le_trans (subN_le _ _ (h.needs n hn).1) (h.needs n hn).2⟩
theorem lackShares_bd {g : Goal} {list : List Hold} {devs : List Int} (h : Modest g) : 0 ≤ lackShares g list devs ∧ lackShares g list devs ≤ 1000 :=
  ⟨subN_nn _ _, Int.le_trans (subN_le _ _ h.thr.1) h.thr.2⟩
theorem lackIdx_bd (g : Goal) (list : List Hold) (devs : List Int) : 0 ≤ lackIdx g list devs ∧ lackIdx g list devs ≤ 1 := by
  unfold lackIdx
  split <;> omega
theorem sum_take_succ (xs : List Int) (k : Nat) (h : k < xs.length) : (xs.take (k + 1)).sum = (xs.take k).sum + ig xs k := by
  rw [take_ig xs k h]
  simp
theorem sum_bd (xs : List Int) (h : ∀ x ∈ xs, 0 ≤ x ∧ x ≤ 1000) : 0 ≤ xs.sum ∧ xs.sum ≤ 1000 * xs.length := by
  induction xs with
  | nil => simp
  | cons x xs ih =>
    have h1 := h x List.mem_cons_self
    have h2 := ih fun y hy => h y (List.mem_cons_of_mem _ hy)
    simp only [List.sum_cons, List.length_cons]
    omega
theorem lackNeeds_bd {g : Goal} {list : List Hold} {devs : List Int} (h : Modest g) : ∀ x ∈ lackNeeds g list devs, 0 ≤ x ∧ x ≤ 1000 := by
  intro x hx
  obtain ⟨n, hn, rfl⟩ := List.mem_map.1 hx
  exact lackNeed_bd h hn
theorem lackNeeds_len (g : Goal) (list : List Hold) (devs : List Int) : (lackNeeds g list devs).length = g.needs.length := by simp [lackNeeds]
theorem lackSum_bd {g : Goal} {list : List Hold} {devs : List Int} (h : Modest g) : 0 ≤ lackSum g list devs ∧ lackSum g list devs ≤ 66000 := by
  have h1 := sum_bd _ (lackNeeds_bd (list := list) (devs := devs) h)
  have h2 := lackShares_bd (list := list) (devs := devs) h
  have h3 := lackIdx_bd g list devs
  have h4 := h.len
  rw [lackNeeds_len] at h1
  unfold lackSum
  omega

set_option maxRecDepth 100000 in
set_option maxHeartbeats 1000000 in
theorem sum_any (g : Goal) (A1 : Option Addr) (c1 : Nat) (A2 : Option Addr) (c2 : Nat) (A3 : Option Addr) (c3 : Nat) (A4 : Option Addr) (nl c4 : Nat) (list : List Hold) (A5 : Option Addr) (nd c5 : Nat) (devs : List Int) (ok : Nat → Prop) (w : World)
    (hg : GoalIn w ok g A1 c1 A2 c2 A3 c3) (hh : Row kHold w ok A4 nl list) (hd : Row (Kn.int .i64) w ok A5 nd devs) (hM : Modest g) :
    Calls Try.prog 27 #[.agg (goalCells g A1 c1 A2 c2 A3 c3), .slice A4 nl c4, .slice A5 nd c5] w fun e w' => e = .returned (.int .i64 (lackSum g list devs)) ∧ Below w.heap.size w w' := by
  have hlen := hM.len
  have CON : As (∀ W, Below w.heap.size w W → Calls Try.prog 50 #[.agg (goalCells g A1 c1 A2 c2 A3 c3), .slice A4 nl c4, .slice A5 nd c5] W fun e w' => ∃ A c, e = .returned (.tuple #[.slice A g.needs.length c, .int .i64 (lackShares g list devs), .int .i64 (lackIdx g list devs)]) ∧ Row (Kn.int .i64) w' (fun k => k < w'.heap.size) A g.needs.length (lackNeeds g list devs) ∧ Below W.heap.size W w') :=
    ⟨fun W hW => (lacks_any g A1 c1 A2 c2 A3 c3 A4 nl c4 list A5 nd c5 devs ok W (hg.below hW) (hh.below hW) (hd.below hW) hM.needs hM.thr (by omega)).mono fun e w' ⟨v, he, ho, hb⟩ => by
      obtain ⟨A, c, rfl, _, hr⟩ := ho.shape
      rw [lackNeeds_len] at hr he
      exact ⟨A, c, he, hr, hb⟩⟩
  have HS := As.mk (lackShares_bd (list := list) (devs := devs) hM)
  have HI := As.mk (lackIdx_bd g list devs)
  have HNB := As.mk (lackNeeds_bd (list := list) (devs := devs) hM)
  have HNL := As.mk (lackNeeds_len g list devs)
  have HF : As (lackSum g list devs = (lackNeeds g list devs).sum + lackShares g list devs + lackIdx g list devs) := ⟨rfl⟩
  clear hg hh hd hM
  generalize lackShares g list devs = ls at *
  generalize lackIdx g list devs = li at *
  generalize lackNeeds g list devs = ln at *
  generalize lackSum g list devs = sm at *
  go_enter Try.func27, Try.ntmps27
  go_wp2_with (go_at_call 50; refine (CON.o _ ((Below.refl _ _).alloc (Nat.le_refl _) _)).mono ?_; rintro e w1 ⟨A, c, rfl, hr, hb1⟩)
  have HR := As.mk hr
  have HB := As.mk (((Below.refl w.heap.size w).alloc (Nat.le_refl _) _).trans (hb1.mono (by simp)))
  have HSM : As (∀ k, k ≤ g.needs.length → 0 ≤ (ln.take k).sum ∧ (ln.take k).sum ≤ 64000) := ⟨fun k hk => by
    have := sum_bd (ln.take k) (fun x hx => HNB.o x (List.mem_of_mem_take hx))
    have h2 : (ln.take k).length ≤ 64 := by rw [List.length_take, HNL.o]; omega
    omega⟩
  have hls := HS.o
  have hli := HI.o
  clear hr hb1
  go_loop [8, 10] (fun s' i' => ∃ k : Nat, k ≤ g.needs.length ∧ i' = .int .i64 k ∧ s' = .int .i64 (ls + (ln.take k).sum)) (fun _ i' => g.needs.length - (intOf i').toNat)
  case atStart => exact ⟨0, Nat.zero_le _, rfl, by simp⟩
  case round =>
    obtain ⟨k, hk, rfl, rfl⟩ := hrel
    by_cases hlt : k < g.needs.length
    · obtain ⟨ad, e1, _, _, hc⟩ := HR.o.int_at k hlt
      subst e1
      have hk1 := HSM.o k hk
      have hk2 := HSM.o (k + 1) hlt
      have HT := As.mk (sum_take_succ ln k (by rw [HNL.o]; exact hlt))
      have hT := HT.o
      rw [hT] at hk2
      clear hT
      generalize ig ln k = x at *
      generalize hs0 : (ln.take k).sum = s0 at *
      clear hs0
      go_wp2
      go_round
      case rel => exact ⟨k + 1, by omega, by go_num, by rw [HT.o]; go_num⟩
      case measure => simp [intOf]; omega
    · have hk1 := HSM.o k hk
      have HT : As ((ln.take k).sum = ln.sum) := ⟨by rw [List.take_of_length_le (by rw [HNL.o]; omega)]⟩
      generalize (ln.take k).sum = s0 at *
      go_wp2
      go_ret
      exact ⟨by rw [HF.o, ← HT.o, Int.add_comm s0 ls]; rfl, HB.o⟩

/-- The sum of the costs of devices among the first m holdings. -/
def costTo (list : List Hold) (devs costs : List Int) : Nat → Int
  | 0 => 0
  | m + 1 => costTo list devs costs m + if (hgt list m).dev ∈ devs then ig costs m else 0
def cost (list : List Hold) (devs costs : List Int) : Int := costTo list devs costs list.length
theorem costTo_bd {list : List Hold} {devs costs : List Int} (hc : ∀ x ∈ costs, 0 ≤ x ∧ x ≤ 1099511627776) : ∀ m, m ≤ costs.length → 0 ≤ costTo list devs costs m ∧ costTo list devs costs m ≤ 1099511627776 * m
  | 0, _ => by simp [costTo]
  | m + 1, h => by
    have h1 := costTo_bd (list := list) (devs := devs) hc m (by omega)
    have h2 := hc _ (ig_mem costs m (by omega))
    rw [costTo]
    split <;> omega

set_option maxRecDepth 100000 in
set_option maxHeartbeats 1000000 in
theorem cost_any (A4 : Option Addr) (nl c4 : Nat) (list : List Hold) (A5 : Option Addr) (nd c5 : Nat) (devs : List Int) (A6 : Option Addr) (nc c6 : Nat) (costs : List Int) (ok : Nat → Prop) (w : World)
    (hh : Row kHold w ok A4 nl list) (hd : Row (Kn.int .i64) w ok A5 nd devs) (hc : Row (Kn.int .i64) w ok A6 nc costs) (hn : nc = nl) (hsm : nl ≤ 12) (hcb : ∀ x ∈ costs, 0 ≤ x ∧ x ≤ 1099511627776) :
    Calls Try.prog 24 #[.slice A4 nl c4, .slice A5 nd c5, .slice A6 nc c6] w fun e w' => e = .returned (.int .i64 (cost list devs costs)) ∧ w = w' := by
  subst hn
  have HL := As.mk hh.1
  have HLC := As.mk hc.1
  have HH := As.mk hh
  have HD := As.mk hd
  have HC := As.mk hc
  have HBD := As.mk (costTo_bd (list := list) (devs := devs) hcb)
  have hm5 := hd.2.1
  have HCB := As.mk hcb
  clear hh hd hc hcb
  go_enter Try.func24, Try.ntmps24
  go_wp2
  go_loop [7, 8] (fun s' i' => ∃ k : Nat, k ≤ nc ∧ i' = .int .i64 k ∧ s' = .int .i64 (costTo list devs costs k)) (fun _ i' => nc - (intOf i').toNat)
  case atStart => exact ⟨0, Nat.zero_le _, rfl, rfl⟩
  case round =>
    obtain ⟨k, hk, rfl, rfl⟩ := hrel
    by_cases hlt : k < nc
    · obtain ⟨ad4, B1, d1, B2, d2, e4, _, hl4, r0, r1, r2, r3, hd1, R1, hd2, R2⟩ := rowHold HH.o k hlt
      obtain ⟨ad6, e6, _, _, q0⟩ := HC.o.int_at k hlt
      subst e4 e6
      have b1 := HBD.o k (by rw [HLC.o]; exact hk)
      have b2 := HCB.o _ (ig_mem costs k (by rw [HLC.o]; exact hlt))
      have HT : As (costTo list devs costs (k + 1) = costTo list devs costs k + if (hgt list k).dev ∈ devs then ig costs k else 0) := ⟨rfl⟩
      clear R1 R2
      generalize hgt list k = z at *
      generalize ig costs k = x at *
      generalize costTo list devs costs k = s0 at *
      by_cases hC : z.dev ∈ devs
      · have HCC := As.mk (decide_eq_true hC)
        have HT2 : As (costTo list devs costs (k + 1) = s0 + x) := ⟨by rw [HT.o, if_pos hC]⟩
        clear hC
        go_wp2_with (go_at_call 33; refine (contains_q A5 nd c5 ok devs z.dev _ HD.o _ HCC.o).mono ?_; rintro e w3 ⟨rfl, rfl⟩)
        go_round
        case rel => exact ⟨k + 1, by omega, by go_num, by rw [HT2.o]⟩
        case measure => simp [intOf]; omega
      · have HCC := As.mk (decide_eq_false hC)
        have HT2 : As (costTo list devs costs (k + 1) = s0) := ⟨by rw [HT.o, if_neg hC, Int.add_zero]⟩
        clear hC
        go_wp2_with (go_at_call 33; refine (contains_q A5 nd c5 ok devs z.dev _ HD.o _ HCC.o).mono ?_; rintro e w3 ⟨rfl, rfl⟩)
        go_round
        case rel => exact ⟨k + 1, by omega, by go_num, by rw [HT2.o]⟩
        case measure => simp [intOf]; omega
    · have HT : As (costTo list devs costs k = cost list devs costs) := ⟨by unfold cost; rw [HL.o, show k = nc by omega]⟩
      generalize costTo list devs costs k = s0 at *
      go_wp2
      go_ret
      exact ⟨by rw [← HT.o]; rfl, rfl⟩

end Go.Proofs.Ytlinhckgdfhppaa
namespace Go.Proofs.Ytlinhckgdfhppaa
open Go Go.RowKit Go.Proofs.YtlinhckgdfhppaaK
attribute [local go_sem high] eq_piece

/-- Where a flat row of the call's own lies. -/
theorem own_row {α : Type} {ok : Nat → Prop} {d : Kn α} {e : TypeId} {w : World} {base : Nat} {v : Value} {xs : List α} (hf : Flat d) (h : OwnK ok d e w base v xs) : ∃ A c, v = .slice A xs.length c ∧ xs.length ≤ c ∧ Row d w (fun k => base ≤ k ∧ v.ownBlock = some k) A xs.length xs := by
  obtain ⟨A, c, rfl, hc, hr⟩ := h.shape
  refine ⟨A, c, rfl, hc, hr.1, hr.2.1, fun hn => ?_⟩
  obtain ⟨ad, rfl, ho, hlt, hcell⟩ := hr.2.2 hn
  refine ⟨ad, rfl, ⟨(h.lt ad.block rfl).1, rfl⟩, hlt, fun j x hx => ?_⟩
  obtain ⟨cs, hk, hu⟩ := hcell j x hx
  exact ⟨cs, hf hk, hu⟩
abbrev kInts : Kn (List Int) := Kn.slice (Kn.int .i64)
theorem info_ints : (Try.prog.info? 24).map (fun i => (i.zero, i.size, i.bytes)) = some (some (.slice none 0 0), 1, 24) := by kernel_rfl

/-- All sets of n of the devices, in order. -/
def setsOf : List Int → Nat → List (List Int)
  | _, 0 => [[]]
  | [], _ + 1 => []
  | d :: ds, n + 1 => (setsOf ds n).map (d :: ·) ++ setsOf ds (n + 1)
theorem setsOf_len : ∀ (ds : List Int) (n : Nat), (setsOf ds n).length ≤ 2 ^ ds.length
  | _, 0 => by simp [setsOf]; exact Nat.one_le_two_pow
  | [], _ + 1 => by simp [setsOf]
  | d :: ds, n + 1 => by
    have h1 := setsOf_len ds n
    have h2 := setsOf_len ds (n + 1)
    simp only [setsOf, List.length_append, List.length_map, List.length_cons, Nat.pow_succ]
    omega
theorem setsOf_mem_len : ∀ (ds : List Int) (n : Nat), ∀ s ∈ setsOf ds n, s.length = n
  | _, 0 => by simp [setsOf]
  | [], _ + 1 => by simp [setsOf]
  | d :: ds, n + 1 => by
    intro s hs
    rw [setsOf] at hs
    rcases List.mem_append.1 hs with hs | hs
    · obtain ⟨r, hr, rfl⟩ := List.mem_map.1 hs
      simp [setsOf_mem_len ds n r hr]
    · exact setsOf_mem_len ds (n + 1) s hs
/-- The sets that begin with one of the first m devices. -/
def setsTo (ds : List Int) (n : Nat) : Nat → List (List Int)
  | 0 => []
  | m + 1 => setsTo ds n m ++ (setsOf (ds.drop (m + 1)) n).map (ig ds m :: ·)
theorem setsTo_all (n : Nat) : ∀ (ds : List Int), setsTo ds n ds.length = setsOf ds (n + 1) := by
  intro ds
  induction ds with
  | nil => simp [setsTo, setsOf]
  | cons d ds ih =>
    rw [setsOf, ← ih]
    have key : ∀ m, m ≤ ds.length → setsTo (d :: ds) n (m + 1) = (setsOf ds n).map (d :: ·) ++ setsTo ds n m := by
      intro m
      induction m with
      | zero => intro _; simp [setsTo, ig]
      | succ m ihm =>
        intro hm
        rw [setsTo, ihm (by omega), setsTo, List.append_assoc]
        rfl
    exact key ds.length (Nat.le_refl _)
theorem setsTo_len (ds : List Int) (n : Nat) : ∀ m, m ≤ ds.length → (setsTo ds n m).length ≤ m * 2 ^ ds.length
  | 0, _ => by simp [setsTo]
  | m + 1, h => by
    have h1 := setsTo_len ds n m (by omega)
    have h2 := setsOf_len (ds.drop (m + 1)) n
    have h3 : 2 ^ (ds.drop (m + 1)).length ≤ 2 ^ ds.length := Nat.pow_le_pow_right (by omega) (by rw [List.length_drop]; omega)
    rw [setsTo, List.length_append, List.length_map, Nat.add_mul]
    omega

set_option maxRecDepth 100000 in
set_option maxHeartbeats 2000000 in
theorem sets_any : ∀ (n : Nat) (A : Option Addr) (nd c : Nat) (ds : List Int) (w : World), Row (Kn.int .i64) w (fun k => k < w.heap.size) A nd ds → nd ≤ c → nd ≤ 12 → n ≤ 1000 →
    Calls Try.prog 69 #[.slice A nd c, .int .i64 n] w fun e w' => ∃ v, e = .returned v ∧ OwnK (fun k => w.heap.size ≤ k) kInts 24 w' w.heap.size v (setsOf ds n) ∧ Below w.heap.size w w' := by
  intro n
  induction n with
  | zero =>
    intro A nd c ds w h hc hnd hn
    have e0 : As (setsOf ds 0 = [[]]) := ⟨by cases ds <;> rfl⟩
    have hd : (((0 : Nat) : Int) == 0) = true := rfl
    clear h
    go_enter Try.func69, Try.ntmps69
    go_wp2
    go_ret
    refine ⟨_, rfl, ?_, ((Below.refl _ _).alloc (Nat.le_refl _) _).alloc (by simp) _⟩
    rw [e0.o]
    have hbA : Below w.heap.size w (w.alloc (.cells #[] 3)) := (Below.refl _ _).alloc (Nat.le_refl _) _
    refine ⟨[.slice (some ⟨w.heap.size, 0, none⟩) 0 0], ?_, Elems.single ⟨_, _, rfl, Nat.le_refl _, Row.nil _ _ _ _⟩⟩
    have := World.ownsRow_lit (base := w.heap.size) (e := 24) (size := 1) (w.alloc (.cells #[] 3)) #[.slice (some ⟨w.heap.size, 0, none⟩) 0 0] 1 (by simp) (by simp [maxLen]) (by simp)
    simp at this
    exact this
  | succ n ih =>
    intro A nd c ds w h hc hnd hn
    rw [show ((n + 1 : Nat) : Int) = (n : Int) + 1 from rfl]
    have IH := As.mk ih
    have H := As.mk h
    have hm := h.2.1
    have HL := As.mk h.1
    have hd : (((n : Int) + 1) == 0) = false := beq_eq_false_iff_ne.2 (by omega)
    clear ih h
    go_enter Try.func69, Try.ntmps69
    go_wp2
    have HP : As (∀ m, m ≤ nd → (setsTo ds n m).length ≤ m * 4096) := ⟨fun m hm => by
      have h1 := setsTo_len ds n m (by rw [HL.o]; exact hm)
      have h2 : 2 ^ ds.length ≤ 2 ^ 12 := Nat.pow_le_pow_right (by omega) (by rw [HL.o]; exact hnd)
      exact Nat.le_trans h1 (Nat.mul_le_mul_left _ (by simpa using h2))⟩
    go_loopw [5, 6] (fun v i' wr => ∃ k : Nat, k ≤ nd ∧ i' = .int .i64 k ∧ OwnK (fun j => w.heap.size ≤ j) kInts 24 wr w.heap.size v (setsTo ds n k) ∧ Below w.heap.size w wr) (fun _ i' _ => nd - (intOf i').toNat)
    case atStart => exact ⟨0, Nat.zero_le _, rfl, OwnK.empty _ _ _ _ _ (Nat.le_refl _), (Below.refl _ _).alloc (Nat.le_refl _) _⟩
    case round =>
      obtain ⟨k, hk, rfl, ho, hb⟩ := hrel
      by_cases hlt : k < nd
      · obtain ⟨A', hcut0, hrow⟩ := cut_from (P := Try.prog) (Kn.int .i64) 24 3 .i64 Try.underlying24 info_int A nd c (k + 1) (by omega) hc
        have hcut : ∀ W : World, (Instr.slice 24 (.slice A nd c) (some (.int .i64 ((k : Int) + 1))) none none).run Try.prog W = .ok (.slice A' (nd - (k + 1)) (c - (k + 1))) W := hcut0
        have HB := As.mk hb
        have HO := As.mk ho
        have HR := As.mk ((hrow _ _ _ H.o).below hb)
        have hn1 : (n : Int) + 1 - 1 = (n : Int) := by omega
        have hk1 : k + 1 ≤ nd := hlt
        clear hcut0 hrow ho hb
        obtain ⟨wo, rfl⟩ : ∃ wo : World, wo = wr := ⟨_, rfl⟩
        have REC : As (Calls Try.prog 69 #[.slice A' (nd - (k + 1)) (c - (k + 1)), .int .i64 n] wo fun e w' => ∃ A2 c2, e = .returned (.slice A2 (setsOf (ds.drop (k + 1)) n).length c2) ∧ Row kInts w' (fun j => wo.heap.size ≤ j ∧ j < w'.heap.size) A2 (setsOf (ds.drop (k + 1)) n).length (setsOf (ds.drop (k + 1)) n) ∧ Below wo.heap.size wo w') :=
          ⟨(IH.o A' (nd - (k + 1)) (c - (k + 1)) (ds.drop (k + 1)) wo (HR.o.mono fun j hj => Nat.lt_of_lt_of_le hj HB.o.size) (by omega) (by omega) (by omega)).mono fun e w' ⟨v, he, ho, hb⟩ => by
            obtain ⟨A2, c2, rfl, _, hr⟩ := ho.reads
            exact ⟨A2, c2, he, hr.mono fun j hj => ⟨hj.1.elim id id, hj.2⟩, hb⟩⟩
        have HPK := As.mk (HP.o (k + 1) hlt)
        have HST : As (setsTo ds n (k + 1) = setsTo ds n k ++ (setsOf (ds.drop (k + 1)) n).map (ig ds k :: ·)) := ⟨rfl⟩
        have HML := As.mk (setsOf_mem_len (ds.drop (k + 1)) n)
        clear hn1
        generalize setsOf (ds.drop (k + 1)) n = R at *
        have hn1 : (n : Int) + 1 - 1 = (n : Int) := by omega
        go_wp2_with (go_at_call 69; refine REC.o.mono ?_; rintro e w1 ⟨A2, c2, rfl, hr1, hb1⟩)
        have HR1 := As.mk hr1
        have HB1 := As.mk hb1
        have hmR := hr1.2.1
        clear hr1 hb1 hn1
        go_loopw [5, 8] (fun v i' wr => ∃ j : Nat, j ≤ R.length ∧ i' = .int .i64 j ∧ OwnK (fun j => w.heap.size ≤ j) kInts 24 wr w.heap.size v (setsTo ds n k ++ (R.take j).map (ig ds k :: ·)) ∧ Below w.heap.size w wr ∧ w1.heap.size ≤ wr.heap.size ∧
          As (∀ b, wo.heap.size ≤ b → b < w1.heap.size → wr.heap[b]? = w1.heap[b]?) ∧ As (∀ b, v.ownBlock = some b → b < wo.heap.size ∨ w1.heap.size ≤ b)) (fun _ i' _ => R.length - (intOf i').toNat)
        case atStart => exact ⟨0, Nat.zero_le _, rfl, by simpa using HO.o.below HB1.o, bthen HB.o HB1.o (Nat.le_refl _), Nat.le_refl _, ⟨fun _ _ _ => rfl⟩, ⟨fun b hb => .inl (HO.o.lt b hb).2⟩⟩
        case round =>
          obtain ⟨j, hj, rfl, ho, hb, hsz1, hkeep, hown⟩ := hrel
          by_cases hjl : j < R.length
          · have hrow : Row kInts wr (fun j => wo.heap.size ≤ j ∧ j < w1.heap.size) A2 R.length R := HR1.o.move fun b hb => hkeep.o b hb.1 hb.2
            obtain ⟨ad2, cs, rfl, _, hl2, hK, hcell⟩ := hrow.at_ [] j hjl
            obtain ⟨Aj, cj, rfl, hcj, rj⟩ := hK
            have rc : wr.cell? (ad2.add j) = some (.slice Aj (R.getD j []).length cj) := by simpa [kInts, Kn.slice] using hcell 0 _ rfl
            obtain ⟨ad, rfl, _, hl0, p0⟩ := (H.o.below hb).int_at k hlt
            have HT : As (setsTo ds n k ++ (R.take (j + 1)).map (ig ds k :: ·) = (setsTo ds n k ++ (R.take j).map (ig ds k :: ·)) ++ [ig ds k :: R.getD j []]) := ⟨by
              rw [List.take_succ_eq_append_getElem hjl, List.map_append, List.append_assoc, List.getD_eq_getElem?_getD, List.getElem?_eq_getElem hjl]
              rfl⟩
            have HLN : As ((setsTo ds n k ++ (R.take j).map (ig ds k :: ·)).length + 1 ≤ 49152) := ⟨by
              have h1 := HPK.o
              rw [HST.o, List.length_append, List.length_map] at h1
              rw [List.length_append, List.length_map, List.length_take]
              have h2 : (k + 1) * 4096 ≤ 12 * 4096 := Nat.mul_le_mul_right _ (by omega)
              omega⟩
            have HRL : As ((R.getD j []).length = n) := ⟨HML.o _ (by rw [List.getD_eq_getElem?_getD, List.getElem?_eq_getElem hjl]; exact List.getElem_mem hjl)⟩
            have HOJ := As.mk ho
            have HBJ := As.mk hb
            have HRJ := As.mk rj
            have hrl : (R.getD j []).length ≤ 1000 := by rw [HRL.o]; omega
            clear ho hb hrow hcell rj
            generalize setsTo ds n k ++ (R.take j).map (ig ds k :: ·) = acc at *
            generalize R.getD j [] = y at *
            generalize ig ds k = x at *
            have HL1 := As.mk (own_lit1 (fun _ => True) .i64 3 wr wr.heap.size x (Nat.le_refl _))
            have HL2 : As (Own (Kn.int .i64) 3 (wr.alloc (.cells #[.int .i64 x] 3)).drew wr.heap.size (.slice (some ⟨wr.heap.size, 0, none⟩) 1 1) [x]) := ⟨HL1.o.below (Below.refl _ _).drew⟩
            have hbA : Below wr.heap.size wr (wr.alloc (.cells #[.int .i64 x] 3)).drew := ((Below.refl _ _).alloc (Nat.le_refl _) _).drew
            have HRJ2 : As (Row (Kn.int .i64) (wr.alloc (.cells #[.int .i64 x] 3)).drew (fun b => True ∧ Value.ownBlock (.slice (some ⟨wr.heap.size, 0, none⟩) 1 1) ≠ some b) Aj y.length y) := ⟨(HRJ.o.below hbA).mono fun b hb => ⟨trivial, fun e => by simp [Value.ownBlock] at e; omega⟩⟩
            have HBA := As.mk hbA
            have rcA : (wr.alloc (.cells #[.int .i64 x] 3)).cell? (ad2.add j) = some (.slice Aj y.length cj) := (((Below.refl wr.heap.size wr).alloc (Nat.le_refl _) _).cell (by rw [block_add]; exact hl2)).trans rc
            have hi1 : (k : Int) < (nd : Int) := by omega
            have hi2 : (j : Int) < (R.length : Int) := by omega
            clear hbA
            go_wp2
            go_region_law (first
              | (refine step_app_row (Kn.int .i64) wr.heap.size rfl (.tmp 38) (.tmp 42) 24 (.int .i64 0) 8 rfl Try.underlying24 info_int rfl (by decide) (.slice (some ⟨wr.heap.size, 0, none⟩) 1 1) [x] y Aj y.length cj rfl rfl HL2.o HRJ2.o (by simp) (by simp; omega) (by simp; omega) ?_
                 intro v3 w3 HO3 hg3 hat3
                 have HB3 := As.mk (HBA.o.trans (HL2.o.base_le hg3 (Nat.le_refl _) (by simp)))
                 obtain ⟨A3, c3, ev3, hc3, HR3⟩ := own_row (flat_int _) HO3
                 have HK3 : As (kInts.K w3 (fun b => w.heap.size ≤ b ∧ u5.ownBlock ≠ some b) ([x] ++ y) [.slice A3 ([x] ++ y).length c3]) := ⟨⟨A3, c3, rfl, hc3, HR3.mono fun b hb => ⟨Nat.le_trans HBJ.o.size hb.1, fun e => by have := (HOJ.o.lt b e).2; omega⟩⟩⟩
                 have HOJ3 := As.mk (HOJ.o.below HB3.o)
                 have hs3 := Nat.le_trans HBJ.o.size HB3.o.size
                 clear HR3)
              | (refine step_app_one kInts w.heap.size rfl (.tmp 33) (.tmp 44) 33 (.slice none 0 0) 24 rfl Try.underlying33 info_ints rfl (by decide) u5 acc ([x] ++ y) _ rfl rfl HOJ3.o HK3.o hs3 (by have := HLN.o; omega) (by have := HLN.o; omega) ?_
                 intro v4 w4 HO4 hg4 hat4))
            all_goals
              have HB4 := As.mk (HOJ3.o.base_le hg4 (Nat.le_refl _) hs3)
              have HO5 : As (OwnK (fun j => w.heap.size ≤ j) kInts 24 w4 w.heap.size v4 (setsTo ds n k ++ (R.take (j + 1)).map (x :: ·))) := ⟨by rw [HT.o]; exact HO4⟩
              have HK5 : As (∀ b, wo.heap.size ≤ b → b < w1.heap.size → w4.heap[b]? = w1.heap[b]?) := ⟨fun b h1 h2 =>
                ((hg4.block b (Nat.lt_of_lt_of_le (Nat.lt_of_lt_of_le h2 hsz1) HB3.o.size) (fun e => by have := hown.o b e.symm; omega)).trans (HB3.o.block b (Nat.lt_of_lt_of_le h2 hsz1))).trans (hkeep.o b h1 h2)⟩
              have HS5 : As (w1.heap.size ≤ w4.heap.size) := ⟨Nat.le_trans hsz1 (Nat.le_trans HB3.o.size hg4.size)⟩
              have HN5 : As (∀ b, v4.ownBlock = some b → b < wo.heap.size ∨ w1.heap.size ≤ b) := ⟨fun b hb => by
                rcases hat4 with h | ⟨q, h, h'⟩
                · exact hown.o b (h ▸ hb)
                · rw [h] at hb
                  injection hb with hb
                  have := Nat.le_trans hsz1 HB3.o.size
                  omega⟩
              have HBF := As.mk ((HBJ.o.trans (HB3.o.mono HBJ.o.size)).trans HB4.o)
              clear hg4 hat4 HO4 ev3 hg3 hat3 rcA p0 rc
              go_wp2
              go_roundw
              case rel => exact ⟨j + 1, by omega, by go_num, HO5.o, HBF.o, HS5.o, HK5, HN5⟩
              case measure => simp [intOf]; omega
          · have HO5 : As (OwnK (fun j => w.heap.size ≤ j) kInts 24 wr w.heap.size u5 (setsTo ds n (k + 1))) := ⟨by
              rw [HST.o]
              rwa [List.take_of_length_le (by omega)] at ho⟩
            clear ho
            go_wp2
            go_roundw
            case rel => exact ⟨k + 1, by omega, by go_num, HO5.o, hb⟩
            case measure => simp [intOf]; omega
      · have e : k = nd := by omega
        subst e
        have HO5 : As (OwnK (fun j => w.heap.size ≤ j) kInts 24 wr w.heap.size u5 (setsOf ds (n + 1))) := ⟨by rw [← setsTo_all, HL.o]; exact ho⟩
        clear ho
        go_wp2
        go_ret
        exact ⟨_, rfl, HO5.o, hb⟩

/-- The sets of fewer than m of the devices, in order. -/
def allTo (ds : List Int) : Nat → List (List Int)
  | 0 => []
  | m + 1 => allTo ds m ++ setsOf ds m
def allOf (ds : List Int) : List (List Int) := allTo ds (ds.length + 1)
theorem allTo_len (ds : List Int) : ∀ m, (allTo ds m).length ≤ m * 2 ^ ds.length
  | 0 => by simp [allTo]
  | m + 1 => by
    have h1 := allTo_len ds m
    have h2 := setsOf_len ds m
    rw [allTo, List.length_append, Nat.add_mul]
    omega

set_option maxRecDepth 100000 in
set_option maxHeartbeats 1000000 in
theorem all_any (A : Option Addr) (nd c : Nat) (ds : List Int) (w : World) (h : Row (Kn.int .i64) w (fun k => k < w.heap.size) A nd ds) (hc : nd ≤ c) (hnd : nd ≤ 12) :
    Calls Try.prog 41 #[.slice A nd c] w fun e w' => ∃ v, e = .returned v ∧ OwnK (fun k => w.heap.size ≤ k) kInts 24 w' w.heap.size v (allOf ds) ∧ Below w.heap.size w w' := by
  have H := As.mk h
  have hm := h.2.1
  have HL := As.mk h.1
  have HP : As (∀ m, m ≤ 13 → (allTo ds m).length ≤ 53248) := ⟨fun m hm => by
    have h1 := allTo_len ds m
    have h2 : 2 ^ ds.length ≤ 2 ^ 12 := Nat.pow_le_pow_right (by omega) (by rw [HL.o]; exact hnd)
    have h3 : m * 2 ^ ds.length ≤ 13 * 2 ^ 12 := Nat.mul_le_mul hm h2
    omega⟩
  clear h
  go_enter Try.func41, Try.ntmps41
  go_wp2
  go_loopw [3, 4] (fun v i' wr => ∃ k : Nat, k ≤ nd + 1 ∧ i' = .int .i64 k ∧ OwnK (fun j => w.heap.size ≤ j) kInts 24 wr w.heap.size v (allTo ds k) ∧ Below w.heap.size w wr) (fun _ i' _ => nd + 1 - (intOf i').toNat)
  case atStart => exact ⟨0, Nat.zero_le _, rfl, OwnK.empty _ _ _ _ _ (Nat.le_refl _), (Below.refl _ _).alloc (Nat.le_refl _) _⟩
  case round =>
    obtain ⟨k, hk, rfl, ho, hb⟩ := hrel
    by_cases hlt : k ≤ nd
    · have HB := As.mk hb
      have HO := As.mk ho
      have REC : As (Calls Try.prog 69 #[.slice A nd c, .int .i64 k] wr fun e w' => ∃ A2 c2, e = .returned (.slice A2 (setsOf ds k).length c2) ∧ Row kInts w' (fun j => wr.heap.size ≤ j ∧ j < w'.heap.size) A2 (setsOf ds k).length (setsOf ds k) ∧ Below wr.heap.size wr w') :=
        ⟨(sets_any k A nd c ds wr ((H.o.below hb).mono fun j hj => Nat.lt_of_lt_of_le hj hb.size) hc hnd (by omega)).mono fun e w' ⟨v, he, ho, hb⟩ => by
          obtain ⟨A2, c2, rfl, _, hr⟩ := ho.reads
          exact ⟨A2, c2, he, hr.mono fun j hj => ⟨hj.1.elim id id, hj.2⟩, hb⟩⟩
      have HST : As (allTo ds (k + 1) = allTo ds k ++ setsOf ds k) := ⟨rfl⟩
      have HL2 : As ((allTo ds k).length + (setsOf ds k).length ≤ 53248) := ⟨by have := HP.o (k + 1) (by omega); rwa [HST.o, List.length_append] at this⟩
      clear ho hb
      generalize setsOf ds k = R at *
      generalize allTo ds k = acc at *
      go_wp2_with (first
        | (go_at_call 69; refine REC.o.mono ?_; rintro e w1 ⟨A2, c2, rfl, hr1, hb1⟩)
        | (at_builtin; refine app_row kInts w.heap.size rfl (.tmp 12) (.tmp 15) 33 (.slice none 0 0) 24 rfl Try.underlying33 info_ints rfl (by decide) u3 acc R A2 R.length c2 rfl rfl (HO.o.below hb1)
             (hr1.mono fun b hb => ⟨Nat.le_trans HB.o.size hb.1, fun e => by have := (HO.o.lt b e).2; omega⟩) (Nat.le_trans HB.o.size hb1.size) (by have := HL2.o; omega) (by have := HL2.o; omega) ?_
           intro v4 w4 HO4 hg4 hat4))
      have HB4 := As.mk ((HO.o.below hb1).base_le hg4 (Nat.le_refl _) (Nat.le_trans HB.o.size hb1.size))
      have HO5 : As (OwnK (fun j => w.heap.size ≤ j) kInts 24 w4 w.heap.size v4 (allTo ds (k + 1))) := ⟨by rw [HST.o]; exact HO4⟩
      have HBF := As.mk ((bthen HB.o hb1 (Nat.le_refl _)).trans HB4.o)
      clear hg4 hat4 HO4
      go_roundw
      case rel => exact ⟨k + 1, by omega, by go_num, HO5.o, HBF.o⟩
      case measure => simp [intOf]; omega
    · have e : k = nd + 1 := by omega
      subst e
      have HO5 : As (OwnK (fun j => w.heap.size ≤ j) kInts 24 wr w.heap.size u3 (allOf ds)) := ⟨by unfold allOf; rw [HL.o]; exact ho⟩
      clear ho
      go_wp2
      go_ret
      exact ⟨_, rfl, HO5.o, hb⟩
end Go.Proofs.Ytlinhckgdfhppaa
namespace Go.Proofs.Ytlinhckgdfhppaa
open Go Go.RowKit Go.Proofs.YtlinhckgdfhppaaK
attribute [local go_sem high] eq_piece

/-- A set that suffices and of which each device is necessary. -/
def isMin (g : Goal) (list : List Hold) (s : List Int) : Prop := lackSum g list s = 0 ∧ ∀ q, q < s.length → 0 < lackSum g list (s.eraseIdx q)
instance (g : Goal) (list : List Hold) (s : List Int) : Decidable (isMin g list s) := by unfold isMin; infer_instance
def minimalOf (g : Goal) (list : List Hold) : List (List Int) := (allOf (devsTo list 12)).filter fun s => decide (isMin g list s)
def lg (xs : List (List Int)) (k : Nat) : List Int := xs.getD k []
theorem lg_eq (xs : List (List Int)) (k : Nat) (h : k < xs.length) : lg xs k = xs[k] := by simp [lg, List.getD_eq_getElem?_getD, List.getElem?_eq_getElem h]
theorem filter_take_succ {α : Type} (p : α → Bool) (xs : List α) (k : Nat) (x : α) (h : k < xs.length) (hx : xs[k] = x) : (xs.take (k + 1)).filter p = if p x = true then (xs.take k).filter p ++ [x] else (xs.take k).filter p := by
  rw [List.take_succ_eq_append_getElem h, hx, List.filter_append]
  split
  · rename_i hp
    rw [List.filter_cons_of_pos hp]
    rfl
  · rename_i hp
    rw [List.filter_cons_of_neg hp]
    simp
theorem rowInts {w : World} {ok : Nat → Prop} {A : Option Addr} {n : Nat} {xs : List (List Int)} (h : Row kInts w ok A n xs) (k : Nat) (hk : k < n) :
    ∃ ad B c, A = some ad ∧ ad.block < w.heap.size ∧ w.cell? (ad.add k) = some (.slice B (lg xs k).length c) ∧ (lg xs k).length ≤ c ∧ Row (Kn.int .i64) w ok B (lg xs k).length (lg xs k) := by
  obtain ⟨ad, cs, e, _, hlt, hK, hc⟩ := h.at_ [] k hk
  obtain ⟨B, c, rfl, h1, h2⟩ := hK
  have h0 := hc 0 _ rfl
  rw [show k * kInts.sz + 0 = k from Nat.mul_one k] at h0
  exact ⟨ad, B, c, e, hlt, h0, h1, h2⟩
theorem devsTo_mem (xs : List Hold) (k : Nat) : ∀ d ∈ devsTo xs k, 0 ≤ d ∧ d < k := by
  intro d hd
  unfold devsTo at hd
  obtain ⟨h1, _⟩ := List.mem_filter.1 hd
  obtain ⟨j, hj, rfl⟩ := List.mem_map.1 h1
  have := List.mem_range.1 hj
  omega
theorem setsOf_small (ds : List Int) (n : Nat) : ∀ s ∈ setsOf ds n, s.length ≤ ds.length := by
  induction ds generalizing n with
  | nil => cases n <;> simp [setsOf]
  | cons d ds ih =>
    intro s hs
    cases n with
    | zero =>
      rw [setsOf] at hs
      simp at hs
      subst hs
      simp
    | succ n =>
      rw [setsOf] at hs
      rcases List.mem_append.1 hs with hs | hs
      · obtain ⟨r, hr, rfl⟩ := List.mem_map.1 hs
        have := ih n r hr
        simp
        omega
      · have := ih (n + 1) s hs
        simp
        omega
theorem allTo_small (ds : List Int) : ∀ m, ∀ s ∈ allTo ds m, s.length ≤ ds.length
  | 0 => by simp [allTo]
  | m + 1 => by
    intro s hs
    rw [allTo] at hs
    rcases List.mem_append.1 hs with hs | hs
    · exact allTo_small ds m s hs
    · exact setsOf_small ds m s hs

set_option maxRecDepth 100000 in
set_option maxHeartbeats 4000000 in
theorem refMinimal_any (g : Goal) (A1 : Option Addr) (c1 : Nat) (A2 : Option Addr) (c2 : Nat) (A3 : Option Addr) (c3 : Nat) (A4 : Option Addr) (nl c4 : Nat) (list : List Hold) (w : World)
    (hg : GoalIn w (fun k => k < w.heap.size) g A1 c1 A2 c2 A3 c3) (hh : Row kHold w (fun k => k < w.heap.size) A4 nl list) (hM : Modest g) :
    Calls Try.prog 17 #[.agg (goalCells g A1 c1 A2 c2 A3 c3), .slice A4 nl c4] w fun e w' => ∃ v, e = .returned v ∧ OwnK (fun k => w.heap.size ≤ k) kInts 24 w' w.heap.size v (minimalOf g list) ∧ Below w.heap.size w w' := by
  have SUM : As (∀ W, Below w.heap.size w W → ∀ (B : Option Addr) (n c : Nat) (s : List Int), Row (Kn.int .i64) W (fun _ => True) B n s → Calls Try.prog 27 #[.agg (goalCells g A1 c1 A2 c2 A3 c3), .slice A4 nl c4, .slice B n c] W fun e w' => e = .returned (.int .i64 (lackSum g list s)) ∧ Below W.heap.size W w') :=
    ⟨fun W hW B n c s hr => sum_any g A1 c1 A2 c2 A3 c3 A4 nl c4 list B n c s (fun _ => True) W ⟨(hg.below hW).n.mono fun _ _ => trivial, hg.cn, (hg.below hW).p.mono fun _ _ => trivial, hg.cp, (hg.below hW).s.mono fun _ _ => trivial, hg.cs⟩ ((hh.below hW).mono fun _ _ => trivial) hr hM⟩
  have DEV : As (∀ W, Below w.heap.size w W → Calls Try.prog 40 #[.slice A4 nl c4] W fun e w' => ∃ B c, e = .returned (.slice B (devsTo list 12).length c) ∧ (devsTo list 12).length ≤ c ∧ Row (Kn.int .i64) w' (fun k => k < w'.heap.size) B (devsTo list 12).length (devsTo list 12) ∧ Below W.heap.size W w') :=
    ⟨fun W hW => (devices_any A4 nl c4 _ list W (hh.below hW)).mono fun e w' ⟨v, he, ho, hb⟩ => by
      obtain ⟨B, c, rfl, hc, hr⟩ := ho.shape
      exact ⟨B, c, he, hc, hr, hb⟩⟩
  have ALL : As (∀ W (B : Option Addr) (c : Nat), (devsTo list 12).length ≤ c → Row (Kn.int .i64) W (fun k => k < W.heap.size) B (devsTo list 12).length (devsTo list 12) → Calls Try.prog 41 #[.slice B (devsTo list 12).length c] W fun e w' => ∃ B2 c2, e = .returned (.slice B2 (allOf (devsTo list 12)).length c2) ∧ Row kInts w' (fun j => W.heap.size ≤ j ∧ j < w'.heap.size) B2 (allOf (devsTo list 12)).length (allOf (devsTo list 12)) ∧ Below W.heap.size W w') :=
    ⟨fun W B c hc hr => (all_any B _ c _ W hr hc (devsTo_len list 12)).mono fun e w' ⟨v, he, ho, hb⟩ => by
      obtain ⟨A2, c2, rfl, _, hr⟩ := ho.reads
      exact ⟨A2, c2, he, hr.mono fun j hj => ⟨hj.1.elim id id, hj.2⟩, hb⟩⟩
  have HFI : As (minimalOf g list = (allOf (devsTo list 12)).filter fun s => decide (isMin g list s)) := ⟨rfl⟩
  have HAL : As ((allOf (devsTo list 12)).length ≤ 53248) := ⟨by
    have h1 := allTo_len (devsTo list 12) ((devsTo list 12).length + 1)
    have h0 := devsTo_len list 12
    have h2 : 2 ^ (devsTo list 12).length ≤ 2 ^ 12 := Nat.pow_le_pow_right (by omega) h0
    have h3 : ((devsTo list 12).length + 1) * 2 ^ (devsTo list 12).length ≤ 13 * 2 ^ 12 := Nat.mul_le_mul (by omega) h2
    unfold allOf
    omega⟩
  have HSL : As (∀ s ∈ allOf (devsTo list 12), s.length ≤ 12) := ⟨fun s hs => Nat.le_trans (allTo_small _ _ s hs) (devsTo_len list 12)⟩
  clear hg hh hM
  generalize minimalOf g list = RES at *
  generalize allOf (devsTo list 12) = R at *
  generalize devsTo list 12 = D at *
  go_enter Try.func17, Try.ntmps17
  go_wp2_with (first
    | (go_at_call 40; refine (DEV.o _ (((Below.refl _ _).alloc (Nat.le_refl _) _).alloc (by simp) _)).mono ?_; rintro e w1 ⟨B1, d1, rfl, hcd, hrd, hb1⟩)
    | (go_at_call 41; refine (ALL.o _ _ _ hcd hrd).mono ?_; rintro e w2 ⟨B2, d2, rfl, hr2, hb2⟩))
  have HX1 := (hb1.block w.heap.size (by simp; omega)).trans ((Below.heap_alloc _ _ _ (by simp)).trans (heap_alloc_new w (.cells (goalCells g A1 c1 A2 c2 A3 c3) 38)))
  have hs1 : w.heap.size + 2 ≤ w1.heap.size := by have := hb1.size; simp at this; omega
  have HX2 : As (w2.heap[w.heap.size]? = some (.cells (goalCells g A1 c1 A2 c2 A3 c3) 38 (0, 0))) := ⟨(hb2.block _ (by omega)).trans HX1⟩
  have HBW2 : As (Below w.heap.size w w2) := ⟨((((Below.refl w.heap.size w).alloc (Nat.le_refl _) _).alloc (by simp) _).trans (hb1.mono (by simp; omega))).trans (hb2.mono (by omega))⟩
  have HOUT : As (OwnK (fun k => w.heap.size ≤ k) kInts 24 w2 (w.heap.size + 1) (.slice (some ⟨w.heap.size + 1, 0, none⟩) 0 0) []) := ⟨by
    have h0 := OwnK.empty (fun k => w.heap.size ≤ k) kInts 24 (w.alloc (.cells (goalCells g A1 c1 A2 c2 A3 c3) 38)) (w.heap.size + 1) (by simp)
    have h1 := (h0.below hb1).below hb2
    simpa using h1⟩
  have HR2 := As.mk hr2
  have hm2 := hr2.2.1
  have HOB : As (∀ b, Value.ownBlock (.slice (some ⟨w.heap.size + 1, 0, none⟩) 0 0) = some b → b < w1.heap.size) := ⟨fun b hb => by simp [Value.ownBlock] at hb; omega⟩
  have HSZ12 := As.mk hb2.size
  clear hb1 hb2 hr2 hrd hcd HX1 DEV ALL
  go_loopw [5, 7] (fun v i' wr => ∃ k : Nat, k ≤ R.length ∧ i' = .int .i64 k ∧ OwnK (fun j => w.heap.size ≤ j) kInts 24 wr (w.heap.size + 1) v ((R.take k).filter fun s => decide (isMin g list s)) ∧ Below w.heap.size w wr ∧ w2.heap.size ≤ wr.heap.size ∧
      As (wr.heap[w.heap.size]? = some (.cells (goalCells g A1 c1 A2 c2 A3 c3) 38 (0, 0))) ∧ As (∀ b, w1.heap.size ≤ b → b < w2.heap.size → wr.heap[b]? = w2.heap[b]?) ∧ As (∀ b, v.ownBlock = some b → b < w1.heap.size ∨ w2.heap.size ≤ b)) (fun _ i' _ => R.length - (intOf i').toNat)
  case atStart => exact ⟨0, Nat.zero_le _, rfl, HOUT.o, HBW2.o, Nat.le_refl _, HX2, ⟨fun _ _ _ => rfl⟩, ⟨fun b hb => .inl (HOB.o b hb)⟩⟩
  case round =>
    obtain ⟨k, hk, rfl, ho, hb, hsz, HX, hkeep, hown⟩ := hrel
    by_cases hlt : k < R.length
    · have hrow : Row kInts wr (fun j => w1.heap.size ≤ j ∧ j < w2.heap.size) B2 R.length R := HR2.o.move fun b hb => hkeep.o b hb.1 hb.2
      obtain ⟨ad, Bs, cs, rfl, hl2, rc, hcs, rs⟩ := rowInts hrow k hlt
      have hlw : w.heap.size < wr.heap.size := blk_lt HX.o
      have bx0 : wr.cell? ⟨w.heap.size, 0, none⟩ = some (.slice A1 g.needs.length c1) := (cell_of_row _ _ 0 _ _ _ HX.o).trans rfl
      have bx1 : wr.cell? ⟨w.heap.size, 1, none⟩ = some (.int .i64 g.thr) := (cell_of_row _ _ 1 _ _ _ HX.o).trans rfl
      have bx2 : wr.cell? ⟨w.heap.size, 2, none⟩ = some (.bool g.index) := (cell_of_row _ _ 2 _ _ _ HX.o).trans rfl
      have bx3 : wr.cell? ⟨w.heap.size, 3, none⟩ = some (.slice A2 g.pieces.length c2) := (cell_of_row _ _ 3 _ _ _ HX.o).trans rfl
      have bx4 : wr.cell? ⟨w.heap.size, 4, none⟩ = some (.slice A3 g.shares.length c3) := (cell_of_row _ _ 4 _ _ _ HX.o).trans rfl
      have HF := As.mk (filter_take_succ (fun s => decide (isMin g list s)) R k (lg R k) hlt (lg_eq R k hlt).symm)
      have HMI : As (isMin g list (lg R k) ↔ lackSum g list (lg R k) = 0 ∧ ∀ q, q < (lg R k).length → 0 < lackSum g list ((lg R k).eraseIdx q)) := ⟨Iff.rfl⟩
      have HL12 : (lg R k).length ≤ 12 := HSL.o _ (by rw [lg_eq R k hlt]; exact List.getElem_mem hlt)
      have HFL : As (((R.take k).filter fun s => decide (isMin g list s)).length ≤ 53248) := ⟨Nat.le_trans (List.length_filter_le _ _) (Nat.le_trans (List.length_take_le' _ _) HAL.o)⟩
      have HO := As.mk ho
      have HB := As.mk hb
      have HRS := As.mk rs
      have hi1 : (k : Int) < (R.length : Int) := by omega
      clear ho hb hrow rs
      generalize lg R k = s at *
      obtain ⟨wo, rfl⟩ : ∃ wo : World, wo = wr := ⟨_, rfl⟩
      have bx0' := BW.cell bx0
      have bx1' := BW.cell bx1
      have bx2' := BW.cell bx2
      have bx3' := BW.cell bx3
      have bx4' := BW.cell bx4
      have rc' := BW.cell rc
      have SUM1 : As (∀ p : BW wo, Calls Try.prog 27 #[.agg (goalCells g A1 c1 A2 c2 A3 c3), .slice A4 nl c4, .slice Bs s.length cs] p.W fun e w' => e = .returned (.int .i64 (lackSum g list s)) ∧ Below p.W.heap.size p.W w') :=
        ⟨fun p => SUM.o p.W (bthen HB.o p.h (Nat.le_refl _)) Bs s.length cs s ((HRS.o.below p.h).mono fun _ _ => trivial)⟩
      go_wp2
      refine wp_region_below (by kernel_rfl) (by kernel_rfl) ?_
      repeat (go_big_quiet_step ((go_at_call 27; exact calls_below _ (SUM1.o _))))
      refine wpQuiet_nil ?_
      intro _ hw'
      obtain ⟨pw, hw''⟩ := hw'
      subst hw''
      go_wp2
      have y0 := bx0' pw
      have y1 := bx1' pw
      have y2 := bx2' pw
      have y3 := bx3' pw
      have y4 := bx4' pw
      have yc := rc' pw
      clear bx0' bx1' bx2' bx3' bx4' rc' SUM1
      have HBP := pw.h
      generalize pw.W = w5 at *
      clear pw
      go_loopw [8, 9] (fun v i' wr => ∃ j : Nat, j ≤ s.length ∧ i' = .int .i64 j ∧ (∃ b, v = .bool b ∧ Bif b (lackSum g list s = 0 ∧ ∀ q, q < j → 0 < lackSum g list (s.eraseIdx q))) ∧ Below wo.heap.size wo wr) (fun _ i' _ => s.length - (intOf i').toNat)
      case atStart => exact ⟨0, Nat.zero_le _, rfl, ⟨_, rfl, ⟨fun h => ⟨beq_iff_eq.1 h, fun q hq => absurd hq (by omega)⟩, fun h => beq_iff_eq.2 h.1⟩⟩, HBP⟩
      case round =>
        obtain ⟨j, hj, rfl, ⟨b, rfl, hbt⟩, hbj⟩ := hrel
        by_cases hjl : j < s.length
        · cases b with
          | true =>
            have z0 := (hbj.cell (p := ⟨w.heap.size, 0, none⟩) hlw).trans bx0
            have z1 := (hbj.cell (p := ⟨w.heap.size, 1, none⟩) hlw).trans bx1
            have z2 := (hbj.cell (p := ⟨w.heap.size, 2, none⟩) hlw).trans bx2
            have z3 := (hbj.cell (p := ⟨w.heap.size, 3, none⟩) hlw).trans bx3
            have z4 := (hbj.cell (p := ⟨w.heap.size, 4, none⟩) hlw).trans bx4
            have zc := (hbj.cell (p := ad.add k) (by rw [block_add]; exact hl2)).trans rc
            have WIT : As (Calls Try.prog 34 #[.slice Bs s.length cs, .int .i64 j] wr.drew fun e w' => ∃ B9 n9 c9, e = .returned (.slice B9 n9 c9) ∧ Row (Kn.int .i64) w' (fun _ => True) B9 n9 (s.eraseIdx j) ∧ Below wr.drew.heap.size wr.drew w') :=
              ⟨(without_any Bs s.length cs s j wr.drew (((HRS.o.below hbj).below (Below.refl _ _).drew).mono fun b hb => Nat.lt_of_lt_of_le hb.2 (Nat.le_trans hsz hbj.size)) hjl hcs (by omega)).mono fun e w' ⟨v, he, ho, hb⟩ => by
                obtain ⟨B9, c9, rfl, _, hr⟩ := ho.shape
                exact ⟨B9, _, c9, he, hr.mono fun _ _ => trivial, hb⟩⟩
            have HNT : As (Bif (decide (0 < lackSum g list (s.eraseIdx j))) (lackSum g list s = 0 ∧ ∀ q, q < j + 1 → 0 < lackSum g list (s.eraseIdx q))) := ⟨by
              by_cases h : 0 < lackSum g list (s.eraseIdx j)
              · rw [decide_eq_true h]
                refine Bif.t ⟨hbt.yes.1, fun q hq => ?_⟩
                rcases Nat.lt_or_ge q j with h1 | h1
                · exact hbt.yes.2 q h1
                · rw [show q = j by omega]; exact h
              · rw [decide_eq_false h]
                exact Bif.f fun hc => h (hc.2 j (by omega))⟩
            have hBJ := As.mk (bthen HB.o hbj (Nat.le_refl _))
            go_wp2
            have hlr : w.heap.size < wr.drew.heap.size := Nat.lt_of_lt_of_le hlw hbj.size
            go_region_with (first
              | (go_at_call 34; refine WIT.o.mono ?_; rintro e w6 ⟨B9, n9, c9, rfl, hr9, hb6⟩
                 have x0 := (hb6.cell (p := ⟨w.heap.size, 0, none⟩) hlr).trans z0
                 have x1 := (hb6.cell (p := ⟨w.heap.size, 1, none⟩) hlr).trans z1
                 have x2 := (hb6.cell (p := ⟨w.heap.size, 2, none⟩) hlr).trans z2
                 have x3 := (hb6.cell (p := ⟨w.heap.size, 3, none⟩) hlr).trans z3
                 have x4 := (hb6.cell (p := ⟨w.heap.size, 4, none⟩) hlr).trans z4)
              | (go_at_call 27; refine (SUM.o _ (bthen hBJ.o.drew hb6 (Nat.le_refl _)) _ _ _ _ hr9).mono ?_; rintro e w7 ⟨rfl, hb7⟩))
            all_goals
              clear z0 z1 z2 z3 z4
              go_wp2
              go_roundw
              case rel => exact ⟨j + 1, by omega, by go_num, ⟨_, rfl, HNT.o⟩, bthen (bthen hbj.drew hb6 (Nat.le_refl _)) hb7 (Nat.le_refl _)⟩
              case measure => simp [intOf]; omega
          | false =>
            have HBI : Bif false (isMin g list s) := Bif.f fun h => hbt.no ⟨(HMI.o.1 h).1, fun q hq => (HMI.o.1 h).2 q (by omega)⟩
            have HOX : As (OwnK (fun j => w.heap.size ≤ j) kInts 24 wr (w.heap.size + 1) u5 ((R.take (k + 1)).filter fun s => decide (isMin g list s))) := ⟨by rw [HF.o, if_neg (by rw [decide_eq_true_iff]; exact HBI.no)]; exact HO.o.below hbj⟩
            have HBB := As.mk (bthen HB.o hbj (Nat.le_refl _))
            have HXX := As.mk ((hbj.block w.heap.size hlw).trans HX.o)
            have HSS := As.mk (Nat.le_trans hsz hbj.size)
            have HKK : As (∀ b, w1.heap.size ≤ b → b < w2.heap.size → wr.heap[b]? = w2.heap[b]?) := ⟨fun b h1 h2 => (hbj.block b (by omega)).trans (hkeep.o b h1 h2)⟩
            have rcj := (hbj.cell (p := ad.add k) (by rw [block_add]; exact hl2)).trans rc
            clear hbj
            go_wp2
            go_roundw
            case rel => exact ⟨k + 1, by omega, by go_num, HOX.o, HBB.o, HSS.o, HXX, HKK, hown⟩
            case measure => simp [intOf]; omega
        · cases b with
          | true =>
            have HBI : Bif true (isMin g list s) := Bif.t (HMI.o.2 ⟨hbt.yes.1, fun q hq => hbt.yes.2 q (by omega)⟩)
            have HOW := As.mk (HO.o.below hbj)
            have hbase : w.heap.size + 1 ≤ wr.heap.size := Nat.le_trans hlw hbj.size
            have HRJ := HRS.o.below hbj
            have HK : As (kInts.K wr (fun b => w.heap.size ≤ b ∧ u5.ownBlock ≠ some b) s [.slice Bs s.length cs]) := ⟨⟨Bs, cs, rfl, hcs, HRJ.mono fun b hb => ⟨by omega, fun e => by have := hown.o b e; omega⟩⟩⟩
            have HN5 : As ((R.take (k + 1)).filter (fun s => decide (isMin g list s)) = (R.take k).filter (fun s => decide (isMin g list s)) ++ [s]) := ⟨by rw [HF.o, if_pos (decide_eq_true HBI.yes)]⟩
            have hfl := HFL.o
            have HBJ := As.mk hbj
            have rcj := (hbj.cell (p := ad.add k) (by rw [block_add]; exact hl2)).trans rc
            clear HRJ hbj
            go_wp2_with (at_builtin; refine app_one kInts (w.heap.size + 1) rfl (.tmp 51) (.tmp 56) 33 (.slice none 0 0) 24 rfl Try.underlying33 info_ints rfl (by decide) u5 _ s [.slice Bs s.length cs] rfl rfl HOW.o HK.o hbase (by omega) (by omega) ?_; intro v4 w4 HO4 hg4 hat4)
            have HB4 := As.mk (HOW.o.base_le hg4 (Nat.le_refl _) hbase)
            have HOX : As (OwnK (fun j => w.heap.size ≤ j) kInts 24 w4 (w.heap.size + 1) v4 ((R.take (k + 1)).filter fun s => decide (isMin g list s))) := ⟨by rw [HN5.o]; exact HO4⟩
            have HBB := As.mk ((bthen HB.o HBJ.o (Nat.le_refl _)).trans (HB4.o.mono (Nat.le_succ _)))
            have HXX := As.mk ((HB4.o.block w.heap.size (Nat.lt_succ_self _)).trans ((HBJ.o.block w.heap.size hlw).trans HX.o))
            have HSS := As.mk (Nat.le_trans hsz (Nat.le_trans HBJ.o.size hg4.size))
            have HKK : As (∀ b, w1.heap.size ≤ b → b < w2.heap.size → w4.heap[b]? = w2.heap[b]?) := ⟨fun b h1 h2 =>
              ((hg4.block b (by have := HBJ.o.size; omega) (fun e => by have := hown.o b e.symm; omega)).trans (HBJ.o.block b (by omega))).trans (hkeep.o b h1 h2)⟩
            have HWW : As (∀ b, v4.ownBlock = some b → b < w1.heap.size ∨ w2.heap.size ≤ b) := ⟨fun b hb => by
              rcases hat4 with h | ⟨q, h, h'⟩
              · exact hown.o b (h ▸ hb)
              · rw [h] at hb
                injection hb with hb
                have := HBJ.o.size
                omega⟩
            clear hg4 hat4 HO4
            go_roundw
            case rel => exact ⟨k + 1, by omega, by go_num, HOX.o, HBB.o, HSS.o, HXX, HKK, HWW⟩
            case measure => simp [intOf]; omega
          | false =>
            have HBI : Bif false (isMin g list s) := Bif.f fun h => hbt.no ⟨(HMI.o.1 h).1, fun q hq => (HMI.o.1 h).2 q (by omega)⟩
            have HOX : As (OwnK (fun j => w.heap.size ≤ j) kInts 24 wr (w.heap.size + 1) u5 ((R.take (k + 1)).filter fun s => decide (isMin g list s))) := ⟨by rw [HF.o, if_neg (by rw [decide_eq_true_iff]; exact HBI.no)]; exact HO.o.below hbj⟩
            have HBB := As.mk (bthen HB.o hbj (Nat.le_refl _))
            have HXX := As.mk ((hbj.block w.heap.size hlw).trans HX.o)
            have HSS := As.mk (Nat.le_trans hsz hbj.size)
            have HKK : As (∀ b, w1.heap.size ≤ b → b < w2.heap.size → wr.heap[b]? = w2.heap[b]?) := ⟨fun b h1 h2 => (hbj.block b (by omega)).trans (hkeep.o b h1 h2)⟩
            have rcj := (hbj.cell (p := ad.add k) (by rw [block_add]; exact hl2)).trans rc
            clear hbj
            go_wp2
            go_roundw
            case rel => exact ⟨k + 1, by omega, by go_num, HOX.o, HBB.o, HSS.o, HXX, HKK, hown⟩
            case measure => simp [intOf]; omega
    · have e : k = R.length := by omega
      subst e
      rw [List.take_of_length_le (Nat.le_refl _), ← HFI.o] at ho
      go_wp2
      go_ret
      exact ⟨_, rfl, ho.lower (Nat.le_succ _), hb⟩
end Go.Proofs.Ytlinhckgdfhppaa
namespace Go.Proofs.Ytlinhckgdfhppaa
open Go Go.RowKit Go.Proofs.YtlinhckgdfhppaaK
attribute [local go_sem high] eq_piece

/-- One step of the search for the cheapest set: the best one, and whether one has been found. -/
def cheapStep (g : Goal) (list : List Hold) (costs : List Int) (acc : List Int × Bool) (s : List Int) : List Int × Bool :=
  if (acc.2 = false ∨ cost list s costs < cost list acc.1 costs) ∧ lackSum g list s = 0 then (s, true) else acc
def cheapestOf (g : Goal) (list : List Hold) (costs : List Int) : List Int := ((allOf (devsTo list 12)).foldl (cheapStep g list costs) (devsTo list 12, false)).1
theorem foldl_take_succ {α β : Type} (f : β → α → β) (b : β) (xs : List α) (k : Nat) (x : α) (h : k < xs.length) (hx : xs[k] = x) : (xs.take (k + 1)).foldl f b = f ((xs.take k).foldl f b) x := by
  rw [List.take_succ_eq_append_getElem h, hx, List.foldl_append]
  rfl

set_option maxRecDepth 100000 in
set_option maxHeartbeats 1500000 in
theorem refCheapest_any (g : Goal) (A1 : Option Addr) (c1 : Nat) (A2 : Option Addr) (c2 : Nat) (A3 : Option Addr) (c3 : Nat) (A4 : Option Addr) (nl c4 : Nat) (list : List Hold) (A6 : Option Addr) (nc c6 : Nat) (costs : List Int) (w : World)
    (hg : GoalIn w (fun k => k < w.heap.size) g A1 c1 A2 c2 A3 c3) (hh : Row kHold w (fun k => k < w.heap.size) A4 nl list) (hco : Row (Kn.int .i64) w (fun k => k < w.heap.size) A6 nc costs) (hM : Modest g) (hn : nc = nl) (hsm : nl ≤ 12) (hcb : ∀ x ∈ costs, 0 ≤ x ∧ x ≤ 1099511627776) :
    Calls Try.prog 23 #[.agg (goalCells g A1 c1 A2 c2 A3 c3), .slice A4 nl c4, .slice A6 nc c6] w fun e w' => ∃ B n c, e = .returned (.slice B n c) ∧ Row (Kn.int .i64) w' (fun k => k < w'.heap.size) B n (cheapestOf g list costs) ∧ n ≤ c ∧ Below w.heap.size w w' := by
  have SUM : As (∀ W, Below w.heap.size w W → ∀ (B : Option Addr) (n c : Nat) (s : List Int), Row (Kn.int .i64) W (fun _ => True) B n s → Calls Try.prog 27 #[.agg (goalCells g A1 c1 A2 c2 A3 c3), .slice A4 nl c4, .slice B n c] W fun e w' => e = .returned (.int .i64 (lackSum g list s)) ∧ Below W.heap.size W w') :=
    ⟨fun W hW B n c s hr => sum_any g A1 c1 A2 c2 A3 c3 A4 nl c4 list B n c s (fun _ => True) W ⟨(hg.below hW).n.mono fun _ _ => trivial, hg.cn, (hg.below hW).p.mono fun _ _ => trivial, hg.cp, (hg.below hW).s.mono fun _ _ => trivial, hg.cs⟩ ((hh.below hW).mono fun _ _ => trivial) hr hM⟩
  have COST : As (∀ W, Below w.heap.size w W → ∀ (B : Option Addr) (n c : Nat) (s : List Int), Row (Kn.int .i64) W (fun _ => True) B n s → Calls Try.prog 24 #[.slice A4 nl c4, .slice B n c, .slice A6 nc c6] W fun e w' => e = .returned (.int .i64 (cost list s costs)) ∧ W = w') :=
    ⟨fun W hW B n c s hr => cost_any A4 nl c4 list B n c s A6 nc c6 costs (fun _ => True) W ((hh.below hW).mono fun _ _ => trivial) hr ((hco.below hW).mono fun _ _ => trivial) hn hsm hcb⟩
  have DEV : As (∀ W, Below w.heap.size w W → Calls Try.prog 40 #[.slice A4 nl c4] W fun e w' => ∃ B c, e = .returned (.slice B (devsTo list 12).length c) ∧ (devsTo list 12).length ≤ c ∧ Row (Kn.int .i64) w' (fun k => k < w'.heap.size) B (devsTo list 12).length (devsTo list 12) ∧ Below W.heap.size W w') :=
    ⟨fun W hW => (devices_any A4 nl c4 _ list W (hh.below hW)).mono fun e w' ⟨v, he, ho, hb⟩ => by
      obtain ⟨B, c, rfl, hc, hr⟩ := ho.shape
      exact ⟨B, c, he, hc, hr, hb⟩⟩
  have ALL : As (∀ W (B : Option Addr) (c : Nat), (devsTo list 12).length ≤ c → Row (Kn.int .i64) W (fun k => k < W.heap.size) B (devsTo list 12).length (devsTo list 12) → Calls Try.prog 41 #[.slice B (devsTo list 12).length c] W fun e w' => ∃ B2 c2, e = .returned (.slice B2 (allOf (devsTo list 12)).length c2) ∧ Row kInts w' (fun j => W.heap.size ≤ j ∧ j < w'.heap.size) B2 (allOf (devsTo list 12)).length (allOf (devsTo list 12)) ∧ Below W.heap.size W w') :=
    ⟨fun W B c hc hr => (all_any B _ c _ W hr hc (devsTo_len list 12)).mono fun e w' ⟨v, he, ho, hb⟩ => by
      obtain ⟨A2, c2, rfl, _, hr⟩ := ho.reads
      exact ⟨A2, c2, he, hr.mono fun j hj => ⟨hj.1.elim id id, hj.2⟩, hb⟩⟩
  have HFI : As (cheapestOf g list costs = ((allOf (devsTo list 12)).foldl (cheapStep g list costs) (devsTo list 12, false)).1) := ⟨rfl⟩
  clear hg hh hM hco hcb
  obtain rfl := hn.symm
  generalize cheapestOf g list costs = RES at *
  generalize allOf (devsTo list 12) = R at *
  generalize devsTo list 12 = D at *
  go_enter Try.func23, Try.ntmps23
  go_wp2_with (first
    | (go_at_call 40; refine (DEV.o _ ((Below.refl _ _).alloc (Nat.le_refl _) _)).mono ?_; rintro e w1 ⟨B1, d1, rfl, hcd, hrd, hb1⟩)
    | (go_at_call 41; refine (ALL.o _ _ _ hcd hrd).mono ?_; rintro e w2 ⟨B2, d2, rfl, hr2, hb2⟩))
  have HX1 := (hb1.block w.heap.size (by simp)).trans (heap_alloc_new w (.cells (goalCells g A1 c1 A2 c2 A3 c3) 38))
  have hs1 : w.heap.size + 1 ≤ w1.heap.size := by have := hb1.size; simp at this; omega
  have HX2 : As (w2.heap[w.heap.size]? = some (.cells (goalCells g A1 c1 A2 c2 A3 c3) 38 (0, 0))) := ⟨(hb2.block _ (by omega)).trans HX1⟩
  have HBW2 : As (Below w.heap.size w w2) := ⟨(((Below.refl w.heap.size w).alloc (Nat.le_refl _) _).trans (hb1.mono (by simp))).trans (hb2.mono (by omega))⟩
  have HR2 := As.mk (hr2.mono (ok' := fun _ => True) fun _ _ => trivial)
  have HRD := As.mk ((hrd.below hb2).mono (ok' := fun _ => True) fun _ _ => trivial)
  have hm2 := hr2.2.1
  have hlw : w.heap.size < w2.heap.size := blk_lt HX2.o
  have bx0 : w2.cell? ⟨w.heap.size, 0, none⟩ = some (.slice A1 g.needs.length c1) := (cell_of_row _ _ 0 _ _ _ HX2.o).trans rfl
  have bx1 : w2.cell? ⟨w.heap.size, 1, none⟩ = some (.int .i64 g.thr) := (cell_of_row _ _ 1 _ _ _ HX2.o).trans rfl
  have bx2 : w2.cell? ⟨w.heap.size, 2, none⟩ = some (.bool g.index) := (cell_of_row _ _ 2 _ _ _ HX2.o).trans rfl
  have bx3 : w2.cell? ⟨w.heap.size, 3, none⟩ = some (.slice A2 g.pieces.length c2) := (cell_of_row _ _ 3 _ _ _ HX2.o).trans rfl
  have bx4 : w2.cell? ⟨w.heap.size, 4, none⟩ = some (.slice A3 g.shares.length c3) := (cell_of_row _ _ 4 _ _ _ HX2.o).trans rfl
  have HCD := As.mk hcd
  clear hb1 hb2 hr2 hrd hcd HX1 DEV ALL
  go_loopw [7, 8, 10] (fun v f i' wr => ∃ k : Nat, k ≤ R.length ∧ i' = .int .i64 k ∧ (∃ B n c, v = .slice B n c ∧ n ≤ c ∧ As (Row (Kn.int .i64) wr (fun _ => True) B n ((R.take k).foldl (cheapStep g list costs) (D, false)).1)) ∧ f = .bool ((R.take k).foldl (cheapStep g list costs) (D, false)).2 ∧ Below w2.heap.size w2 wr) (fun _ _ i' _ => R.length - (intOf i').toNat)
  case atStart => exact ⟨0, Nat.zero_le _, rfl, ⟨_, _, _, rfl, HCD.o, ⟨HRD.o⟩⟩, rfl, Below.refl _ _⟩
  case round =>
    obtain ⟨k, hk, rfl, ⟨Bb, nb, cb, rfl, hcb, hrb⟩, rfl, hb⟩ := hrel
    by_cases hlt : k < R.length
    · obtain ⟨ad, Bs, cs, e1, hl2, rc, hcs, rs⟩ := rowInts (HR2.o.below hb) k hlt
      subst e1
      have HT := As.mk (foldl_take_succ (cheapStep g list costs) (D, false) R k (lg R k) hlt (lg_eq R k hlt).symm)
      have HB := As.mk hb
      have HRS := As.mk rs
      have hi1 : (k : Int) < (R.length : Int) := by omega
      have rc' := BW.cell rc
      have y0 := BW.cell ((hb.cell (p := ⟨w.heap.size, 0, none⟩) hlw).trans bx0)
      have y1 := BW.cell ((hb.cell (p := ⟨w.heap.size, 1, none⟩) hlw).trans bx1)
      have y2 := BW.cell ((hb.cell (p := ⟨w.heap.size, 2, none⟩) hlw).trans bx2)
      have y3 := BW.cell ((hb.cell (p := ⟨w.heap.size, 3, none⟩) hlw).trans bx3)
      have y4 := BW.cell ((hb.cell (p := ⟨w.heap.size, 4, none⟩) hlw).trans bx4)
      clear hb rs
      generalize lg R k = s at *
      generalize hacc : (R.take k).foldl (cheapStep g list costs) (D, false) = acc at *
      clear hacc
      obtain ⟨best, found⟩ := acc
      obtain ⟨wo, rfl⟩ : ∃ wo : World, wo = wr := ⟨_, rfl⟩
      have HBW := As.mk (bthen HBW2.o HB.o (Nat.le_refl _))
      have SUM1 : As (∀ p : BW wo, Calls Try.prog 27 #[.agg (goalCells g A1 c1 A2 c2 A3 c3), .slice A4 nl c4, .slice Bs s.length cs] p.W fun e w' => e = .returned (.int .i64 (lackSum g list s)) ∧ Below p.W.heap.size p.W w') :=
        ⟨fun p => SUM.o p.W (bthen HBW.o p.h (Nat.le_refl _)) Bs s.length cs s (HRS.o.below p.h)⟩
      have COS1 : As (∀ p : BW wo, Calls Try.prog 24 #[.slice A4 nl c4, .slice Bs s.length cs, .slice A6 nl c6] p.W fun e w' => e = .returned (.int .i64 (cost list s costs)) ∧ p.W = w') :=
        ⟨fun p => COST.o p.W (bthen HBW.o p.h (Nat.le_refl _)) Bs s.length cs s (HRS.o.below p.h)⟩
      have COS2 : As (∀ p : BW wo, Calls Try.prog 24 #[.slice A4 nl c4, .slice Bb nb cb, .slice A6 nl c6] p.W fun e w' => e = .returned (.int .i64 (cost list best costs)) ∧ p.W = w') :=
        ⟨fun p => COST.o p.W (bthen HBW.o p.h (Nat.le_refl _)) Bb nb cb best (hrb.o.below p.h)⟩
      have HSTEP : As (cheapStep g list costs (best, found) s = if (found = false ∨ cost list s costs < cost list best costs) ∧ lackSum g list s = 0 then (s, true) else (best, found)) := ⟨rfl⟩
      generalize cost list s costs = x1 at *
      generalize cost list best costs = x2 at *
      generalize lackSum g list s = x3 at *
      cases found with
      | false =>
        by_cases hx3 : x3 = 0
        · have hd3 : (x3 == 0) = true := beq_iff_eq.2 hx3
          have HN := As.mk (HSTEP.o.trans (if_pos ⟨.inl rfl, hx3⟩))
          rw [← HT.o] at HN
          clear HT HSTEP hx3
          go_wp2
          refine wp_region_below (by kernel_rfl) (by kernel_rfl) ?_
          repeat (go_big_quiet_step ((first | (go_at_call 27; exact calls_below _ (SUM1.o _)) | (go_at_call 24; first | (with_reducible exact calls_same _ (COS1.o _)) | (with_reducible exact calls_same _ (COS2.o _))))))
          refine wpQuiet_nil ?_
          intro _ hw'
          obtain ⟨pw, hw''⟩ := hw'
          subst hw''
          have rcp := rc' pw
          clear rc' y0 y1 y2 y3 y4
          go_wp2
          go_roundw
          case rel => exact ⟨k + 1, by omega, by go_num, ⟨_, _, _, rfl, hcs, ⟨by rw [HN.o]; exact HRS.o.below pw.h⟩⟩, by rw [HN.o], bthen HB.o pw.h (Nat.le_refl _)⟩
          case measure => simp [intOf]; omega
        · have hd3 : (x3 == 0) = false := beq_eq_false_iff_ne.2 hx3
          have HN := As.mk (HSTEP.o.trans (if_neg fun h => hx3 h.2))
          rw [← HT.o] at HN
          clear HT HSTEP
          go_wp2
          refine wp_region_below (by kernel_rfl) (by kernel_rfl) ?_
          repeat (go_big_quiet_step ((first | (go_at_call 27; exact calls_below _ (SUM1.o _)) | (go_at_call 24; first | (with_reducible exact calls_same _ (COS1.o _)) | (with_reducible exact calls_same _ (COS2.o _))))))
          refine wpQuiet_nil ?_
          intro _ hw'
          obtain ⟨pw, hw''⟩ := hw'
          subst hw''
          have rcp := rc' pw
          clear rc' y0 y1 y2 y3 y4
          go_wp2
          go_roundw
          case rel => exact ⟨k + 1, by omega, by go_num, ⟨_, _, _, rfl, hcb, ⟨by rw [HN.o]; exact hrb.o.below pw.h⟩⟩, by rw [HN.o], bthen HB.o pw.h (Nat.le_refl _)⟩
          case measure => simp [intOf]; omega
      | true =>
        by_cases hlt2 : x1 < x2
        · have hd2 : decide (x1 < x2) = true := decide_eq_true hlt2
          by_cases hx3 : x3 = 0
          · have hd3 : (x3 == 0) = true := beq_iff_eq.2 hx3
            have HN := As.mk (HSTEP.o.trans (if_pos ⟨.inr hlt2, hx3⟩))
            rw [← HT.o] at HN
            clear HT HSTEP hx3
            go_wp2
            refine wp_region_below (by kernel_rfl) (by kernel_rfl) ?_
            repeat (go_big_quiet_step ((first | (go_at_call 27; exact calls_below _ (SUM1.o _)) | (go_at_call 24; first | (with_reducible exact calls_same _ (COS1.o _)) | (with_reducible exact calls_same _ (COS2.o _))))))
            refine wpQuiet_nil ?_
            intro _ hw'
            obtain ⟨pw, hw''⟩ := hw'
            subst hw''
            have rcp := rc' pw
            clear rc' y0 y1 y2 y3 y4
            go_wp2
            go_roundw
            case rel => exact ⟨k + 1, by omega, by go_num, ⟨_, _, _, rfl, hcs, ⟨by rw [HN.o]; exact HRS.o.below pw.h⟩⟩, by rw [HN.o], bthen HB.o pw.h (Nat.le_refl _)⟩
            case measure => simp [intOf]; omega
          · have hd3 : (x3 == 0) = false := beq_eq_false_iff_ne.2 hx3
            have HN := As.mk (HSTEP.o.trans (if_neg fun h => hx3 h.2))
            rw [← HT.o] at HN
            clear HT HSTEP
            go_wp2
            refine wp_region_below (by kernel_rfl) (by kernel_rfl) ?_
            repeat (go_big_quiet_step ((first | (go_at_call 27; exact calls_below _ (SUM1.o _)) | (go_at_call 24; first | (with_reducible exact calls_same _ (COS1.o _)) | (with_reducible exact calls_same _ (COS2.o _))))))
            refine wpQuiet_nil ?_
            intro _ hw'
            obtain ⟨pw, hw''⟩ := hw'
            subst hw''
            have rcp := rc' pw
            clear rc' y0 y1 y2 y3 y4
            go_wp2
            go_roundw
            case rel => exact ⟨k + 1, by omega, by go_num, ⟨_, _, _, rfl, hcb, ⟨by rw [HN.o]; exact hrb.o.below pw.h⟩⟩, by rw [HN.o], bthen HB.o pw.h (Nat.le_refl _)⟩
            case measure => simp [intOf]; omega
        · have hd2 : decide (x1 < x2) = false := decide_eq_false hlt2
          have HN := As.mk (HSTEP.o.trans (if_neg fun h => h.1.elim (fun h => by cases h) hlt2))
          rw [← HT.o] at HN
          clear HT HSTEP
          go_wp2
          refine wp_region_below (by kernel_rfl) (by kernel_rfl) ?_
          repeat (go_big_quiet_step ((first | (go_at_call 27; exact calls_below _ (SUM1.o _)) | (go_at_call 24; first | (with_reducible exact calls_same _ (COS1.o _)) | (with_reducible exact calls_same _ (COS2.o _))))))
          refine wpQuiet_nil ?_
          intro _ hw'
          obtain ⟨pw, hw''⟩ := hw'
          subst hw''
          have rcp := rc' pw
          clear rc' y0 y1 y2 y3 y4
          go_wp2
          go_roundw
          case rel => exact ⟨k + 1, by omega, by go_num, ⟨_, _, _, rfl, hcb, ⟨by rw [HN.o]; exact hrb.o.below pw.h⟩⟩, by rw [HN.o], bthen HB.o pw.h (Nat.le_refl _)⟩
          case measure => simp [intOf]; omega
    · have e : k = R.length := by omega
      subst e
      rw [List.take_of_length_le (Nat.le_refl _), ← HFI.o] at hrb
      go_wp2
      go_ret
      exact ⟨_, _, _, rfl, hrb.o.bound.mono fun _ h => h.2, hcb, bthen HBW2.o hb (Nat.le_refl _)⟩
end Go.Proofs.Ytlinhckgdfhppaa
