/- A part of the proof: what the functions do, and plain laws. -/
import Derived.Test.YtlinhckgdfhppaaC15
namespace Go.Proofs.Ytlinhckgdfhppaa
open Go Go.RowKit Go.Proofs.YtlinhckgdfhppaaK
open Go.ChangeMaps (setBlock)
attribute [local go_sem high] eq_piece

/-- What Check answers. -/
def checkOf (g : Goal) (list : List Hold) : Int := if Valid g list then 0 else 1
theorem checkOf_no {g : Goal} {list : List Hold} (h : ¬ Valid g list) : checkOf g list = 1 := if_neg h
theorem checkOf_yes {g : Goal} {list : List Hold} (h : Valid g list) : checkOf g list = 0 := if_pos h

set_option maxRecDepth 100000 in
set_option maxHeartbeats 4000000 in
theorem check_any (g : Goal) (A1 : Option Addr) (c1 : Nat) (A2 : Option Addr) (c2 : Nat) (A3 : Option Addr) (c3 : Nat) (A4 : Option Addr) (n c4 : Nat) (list : List Hold) (w : World) (ok : Nat → Prop)
    (hg : GoalIn w ok g A1 c1 A2 c2 A3 c3) (hh : Row kHold w ok A4 n list) :
    Calls Try.prog 31 #[.agg (goalCells g A1 c1 A2 c2 A3 c3), .slice A4 n c4] w fun e w' => e = .returned (.int .i64 (checkOf g list)) ∧ Below w.heap.size w w' := by
  have hm1 := hg.n.2.1
  have hm2 := hg.p.2.1
  have hm3 := hg.s.2.1
  have hm4 := hh.2.1
  have HL := As.mk hh.1
  have HH := As.mk hh
  have HG := As.mk hg
  clear hg hh
  obtain ⟨w0, hw0⟩ : ∃ w0 : World, w0 = w.alloc (.cells (goalCells g A1 c1 A2 c2 A3 c3) 26) := ⟨_, rfl⟩
  have HB0 : As (Below w.heap.size w w0) := ⟨by rw [hw0]; exact (Below.refl w.heap.size w).alloc (Nat.le_refl _) _⟩
  have HX : As (w0.heap[w.heap.size]? = some (.cells (goalCells g A1 c1 A2 c2 A3 c3) 26 (0, 0))) := ⟨by rw [hw0]; exact heap_alloc_new w _⟩
  have hlw : w.heap.size < w0.heap.size := blk_lt HX.o
  have bx0 : w0.cell? ⟨w.heap.size, 0, none⟩ = some (.slice A1 g.needs.length c1) := (cell_of_row _ _ 0 _ _ _ HX.o).trans rfl
  have bx1 : w0.cell? ⟨w.heap.size, 1, none⟩ = some (.int .i64 g.thr) := (cell_of_row _ _ 1 _ _ _ HX.o).trans rfl
  have bx3 : w0.cell? ⟨w.heap.size, 3, none⟩ = some (.slice A2 g.pieces.length c2) := (cell_of_row _ _ 3 _ _ _ HX.o).trans rfl
  have bx4 : w0.cell? ⟨w.heap.size, 4, none⟩ = some (.slice A3 g.shares.length c3) := (cell_of_row _ _ 4 _ _ _ HX.o).trans rfl
  have HW0 := As.mk hw0
  clear hw0
  have hmm := @run_makeMap Try.prog
  go_enter Try.func31, Try.ntmps31
  go_upto_region 1 with (fail)
  rw [← HW0.o]
  by_cases v1 : g.needs.length ≤ 64
  · have hd1 : decide ((64 : Int) < (g.needs.length : Int)) = false := decide_eq_false (by omega)
    by_cases v2 : 0 ≤ g.thr
    · have hd2 : decide (g.thr < 0) = false := decide_eq_false (by omega)
      by_cases v3 : g.thr ≤ 255
      · have hd3 : decide (255 < g.thr) = false := decide_eq_false (by omega)
        by_cases v4 : okPieces g.pieces
        · have V4 := As.mk v4
          have PC : As (∀ W, Below w0.heap.size w0 W → Calls Try.prog 58 #[.slice A2 g.pieces.length c2] W fun e w' => e = .returned (.bool true) ∧ Below W.heap.size W w') := ⟨fun W hW => (distinct_any _ _ _ ok _ _ (((HG.o.below HB0.o).below hW).p)).mono fun e w' ⟨h1, h2⟩ => ⟨by rw [h1, decide_eq_true v4], h2⟩⟩
          clear v4
          by_cases v5 : okShares g.shares
          · have V5 := As.mk v5
            have SC : As (∀ W, Below w0.heap.size w0 W → Calls Try.prog 59 #[.slice A3 g.shares.length c3] W fun e w' => e = .returned (.bool true) ∧ Below W.heap.size W w') := ⟨fun W hW => (ascending_any _ _ _ ok _ _ (((HG.o.below HB0.o).below hW).s)).mono fun e w' ⟨h1, h2⟩ => ⟨by rw [h1, decide_eq_true v5], h2⟩⟩
            clear v5
            by_cases v6 : n ≤ 12
            · have hd6 : decide ((12 : Int) < (n : Int)) = false := decide_eq_false (by omega)
              go_wp2_with (first | (go_at_call 58; refine (PC.o _ (Below.refl _ _)).mono ?_; rintro e w1 ⟨rfl, hb1⟩; have cx0 := (hb1.cell (p := ⟨w.heap.size, 0, none⟩) hlw).trans bx0; have cx4 := (hb1.cell (p := ⟨w.heap.size, 4, none⟩) hlw).trans bx4; have hlw1 := Nat.lt_of_lt_of_le hlw hb1.size) | (go_at_call 59; refine (SC.o _ hb1).mono ?_; rintro e w2 ⟨rfl, hb2⟩; have dx0 := (hb2.cell (p := ⟨w.heap.size, 0, none⟩) hlw1).trans cx0; have hlw2 := Nat.lt_of_lt_of_le hlw1 hb2.size))
              have HB2 := As.mk (bthen (bthen HB0.o hb1 (Nat.le_refl _)) hb2 (Nat.le_refl _))
              have HW2 := As.mk (HG.o.below HB2.o)
              have HH2 := As.mk (HH.o.below HB2.o)
              clear hb1 hb2 cx0 cx4 hlw1 PC SC bx0 bx1 bx3 bx4 hd1 hd2 hd3 hd6 hlw
              obtain ⟨sb, hsb⟩ : ∃ sb : Nat, sb = w2.heap.size := ⟨_, rfl⟩
              go_loopw [50] (fun i' wr => ∃ k : Nat, k ≤ g.needs.length ∧ i' = .int .i64 k ∧ As (okNeeds (g.needs.take k)) ∧ As (MapAt wr w2.heap.size Value.string eUnit (setF ((g.needs.take k).map (fun n : Need => n.1)))) ∧ Below w2.heap.size w2 wr) (fun i' _ => g.needs.length - (intOf i').toNat)
              case atStart => exact ⟨0, Nat.zero_le _, rfl, ⟨okU_nil⟩, ⟨MapAt.made w2 _ _⟩, (Below.refl _ _).alloc (Nat.le_refl _) _⟩
              case round =>
                obtain ⟨k, hk, rfl, hne, HMAP, hb⟩ := hrel
                by_cases hlt : k < g.needs.length
                · have HN2 := As.mk (HW2.o.below hb).n
                  obtain ⟨ad, e1, _, hlt', p0, p1⟩ := rowPiece HN2.o k hlt
                  subst e1
                  have HS := As.mk (okU_snoc (p := fun n : Need => 1 ≤ n.2 ∧ n.2 ≤ 8) (f := fun n : Need => n.1) hlt (pg_eq g.needs k hlt).symm)
                  have HT : As ((g.needs.take (k + 1)).map (fun n : Need => n.1) = (g.needs.take k).map (fun n : Need => n.1) ++ [(pg g.needs k).1]) := ⟨by rw [pg_eq _ _ hlt, List.take_succ_eq_append_getElem hlt, List.map_append]; rfl⟩
                  have hgg := HMAP.o.lt
                  have LK := As.mk fun W hW => (HMAP.o.move (w' := W) hW).look (string_key Try.underlying9) Try.underlying126 (zero_unit W) (pg g.needs k).1 true
                  have LS := As.mk fun W hW => (HMAP.o.move (w' := W) hW).store (string_key Try.underlying9) Try.underlying126 (pg g.needs k).1 ()
                  generalize pg g.needs k = y at *
                  have HB := As.mk hb
                  have hbs := hb.size
                  by_cases hx : y.1 ∈ (g.needs.take k).map (fun n : Need => n.1)
                  · have LKN : As (∀ W : World, W.heap[w2.heap.size]? = wr.heap[w2.heap.size]? → (Instr.lookup 126 (.map (some w2.heap.size)) (.string y.1) true).run Try.prog W = .ok (.tuple #[.agg #[], .bool true]) W) := ⟨fun W hW => by
                      have := LK.o W hW
                      rw [setF_yes hx] at this
                      exact this⟩
                    have HN : As (¬ Valid g list) := ⟨fun hc => (HS.o.1 (okU_take hc.2.2.2.2.2.2.1 (k + 1))).2.2 hx⟩
                    clear LK LS HS HT hx
                    go_wp2_with (at_lookup; refine wpList_lookup_run rfl _ _ 126 true rfl (.map (some w2.heap.size)) (.string y.1) _ rfl rfl (LKN.o _ (by (repeat (first | rfl | (refine (Below.heap_alloc _ _ _ (by (first | omega | (simp; done) | (simp; omega)))).trans ?_) | (refine (Below.heap_setCell _ _ _ _ (by (first | omega | (simp; done) | (simp; omega)))).trans ?_) | (refine (heap_drew _ _).trans ?_) | (refine (heap_setBlock_far _ _ _ _ (by (first | omega | (simp; done) | (simp; omega)))).trans ?_))))) ?_)
                    go_ret
                    exact ⟨by rw [checkOf_no HN.o]; rfl, bthen HB2.o ((HB.o.alloc (by omega) _).alloc (by simp; omega) _) (Nat.le_refl _)⟩
                  · have LKN : As (∀ W : World, W.heap[w2.heap.size]? = wr.heap[w2.heap.size]? → (Instr.lookup 126 (.map (some w2.heap.size)) (.string y.1) true).run Try.prog W = .ok (.tuple #[.agg #[], .bool false]) W) := ⟨fun W hW => by
                      have := LK.o W hW
                      rw [setF_no hx] at this
                      exact this⟩
                    clear LK
                    by_cases u1 : 1 ≤ y.2
                    · have hu1 : decide (y.2 < 1) = false := decide_eq_false (by omega)
                      by_cases u2 : y.2 ≤ 8
                      · have hu2 : decide (8 < y.2) = false := decide_eq_false (by omega)
                        have HN3 : As (okNeeds (g.needs.take (k + 1))) := ⟨HS.o.2 ⟨hne.o, ⟨u1, u2⟩, hx⟩⟩
                        clear HS hx
                        go_wp2_with (first
                          | (at_lookup; refine wpList_lookup_run rfl _ _ 126 true rfl (.map (some w2.heap.size)) (.string y.1) _ rfl rfl (LKN.o _ (by (repeat (first | rfl | (refine (Below.heap_alloc _ _ _ (by (first | omega | (simp; done) | (simp; omega)))).trans ?_) | (refine (Below.heap_setCell _ _ _ _ (by (first | omega | (simp; done) | (simp; omega)))).trans ?_) | (refine (heap_drew _ _).trans ?_) | (refine (heap_setBlock_far _ _ _ _ (by (first | omega | (simp; done) | (simp; omega)))).trans ?_))))) ?_)
                          | (at_mapUpdate; refine wpList_store_map rfl _ _ _ 126 rfl w2.heap.size (.string y.1) (eUnit ()) rfl rfl rfl (LS.o _ (by (repeat (first | rfl | (refine (Below.heap_alloc _ _ _ (by (first | omega | (simp; done) | (simp; omega)))).trans ?_) | (refine (Below.heap_setCell _ _ _ _ (by (first | omega | (simp; done) | (simp; omega)))).trans ?_) | (refine (heap_drew _ _).trans ?_) | (refine (heap_setBlock_far _ _ _ _ (by (first | omega | (simp; done) | (simp; omega)))).trans ?_))))) ?_; intro o hmap))
                        go_roundw
                        case rel => exact ⟨k + 1, by omega, by go_num, HN3, ⟨by rw [HT.o, ← setF_upd]; exact hmap⟩, below_setBlock ((HB.o.alloc (by omega) _).alloc (by simp; omega) _) (Nat.le_refl _) _⟩
                        case measure => simp [intOf]; omega
                      · have hu2 : decide (8 < y.2) = true := decide_eq_true (by omega)
                        have HN : As (¬ Valid g list) := ⟨fun hc => u2 (HS.o.1 (okU_take hc.2.2.2.2.2.2.1 (k + 1))).2.1.2⟩
                        clear LS HS HT hx
                        go_wp2_with (at_lookup; refine wpList_lookup_run rfl _ _ 126 true rfl (.map (some w2.heap.size)) (.string y.1) _ rfl rfl (LKN.o _ (by (repeat (first | rfl | (refine (Below.heap_alloc _ _ _ (by (first | omega | (simp; done) | (simp; omega)))).trans ?_) | (refine (Below.heap_setCell _ _ _ _ (by (first | omega | (simp; done) | (simp; omega)))).trans ?_) | (refine (heap_drew _ _).trans ?_) | (refine (heap_setBlock_far _ _ _ _ (by (first | omega | (simp; done) | (simp; omega)))).trans ?_))))) ?_)
                        go_ret
                        exact ⟨by rw [checkOf_no HN.o]; rfl, bthen HB2.o ((HB.o.alloc (by omega) _).alloc (by simp; omega) _) (Nat.le_refl _)⟩
                    · have hu1 : decide (y.2 < 1) = true := decide_eq_true (by omega)
                      have HN : As (¬ Valid g list) := ⟨fun hc => u1 (HS.o.1 (okU_take hc.2.2.2.2.2.2.1 (k + 1))).2.1.1⟩
                      clear LS HS HT hx
                      go_wp2_with (at_lookup; refine wpList_lookup_run rfl _ _ 126 true rfl (.map (some w2.heap.size)) (.string y.1) _ rfl rfl (LKN.o _ (by (repeat (first | rfl | (refine (Below.heap_alloc _ _ _ (by (first | omega | (simp; done) | (simp; omega)))).trans ?_) | (refine (Below.heap_setCell _ _ _ _ (by (first | omega | (simp; done) | (simp; omega)))).trans ?_) | (refine (heap_drew _ _).trans ?_) | (refine (heap_setBlock_far _ _ _ _ (by (first | omega | (simp; done) | (simp; omega)))).trans ?_))))) ?_)
                      go_ret
                      exact ⟨by rw [checkOf_no HN.o]; rfl, bthen HB2.o ((HB.o.alloc (by omega) _).alloc (by simp; omega) _) (Nat.le_refl _)⟩
                · have HNN : As (okNeeds g.needs) := ⟨by
                    have := hne.o
                    rwa [List.take_of_length_le (by omega)] at this⟩
                  have HBW := As.mk (bthen HB2.o hb (Nat.le_refl _))
                  clear hb dx0 HMAP
                  obtain ⟨wo, rfl⟩ : ∃ wo : World, wo = wr := ⟨_, rfl⟩
                  have HHO := As.mk (HH.o.below HBW.o)
                  clear HW2 HH2 HG HH
                  go_wp2
                  go_loopw [80] (fun i' wr => ∃ k : Nat, k ≤ n ∧ i' = .int .i64 k ∧ As (okHolds (list.take k)) ∧ As (MapAt wr wo.heap.size (Value.int .i64) eUnit (setF ((list.take k).map (fun h : Hold => h.dev)))) ∧ Below wo.heap.size wo wr) (fun i' _ => n - (intOf i').toNat)
                  case atStart => exact ⟨0, Nat.zero_le _, rfl, ⟨okU_nil⟩, ⟨MapAt.made wo _ _⟩, (Below.refl _ _).alloc (Nat.le_refl _) _⟩
                  case round =>
                    obtain ⟨m, hm, rfl, hnm, HMAP, hb⟩ := hrel
                    by_cases hlt : m < n
                    · have hml : m < list.length := by rw [HL.o]; exact hlt
                      have HH9 := As.mk (HHO.o.below hb)
                      obtain ⟨ad4, B1, d1, B2, d2, e4, _, hl4, r0, r1, r2, r3, hd1, R1, hd2, R2⟩ := rowHold HH9.o m hlt
                      subst e4
                      have HS := As.mk (okU_snoc (p := fun h : Hold => 0 ≤ h.dev ∧ h.dev < 12 ∧ okPieces h.pieces ∧ okShares h.shares) (f := fun h : Hold => h.dev) hml (hgt_eq list m hml).symm)
                      have HTK := As.mk (fun (h : okHolds list) => okU_take h (m + 1))
                      have HR1 := As.mk R1
                      have HR2 := As.mk R2
                      have HT : As ((list.take (m + 1)).map (fun h : Hold => h.dev) = (list.take m).map (fun h : Hold => h.dev) ++ [(hgt list m).dev]) := ⟨by rw [hgt_eq _ _ hml, List.take_succ_eq_append_getElem hml, List.map_append]; rfl⟩
                      have hgg := HMAP.o.lt
                      have LK := As.mk fun W hW => (HMAP.o.move (w' := W) hW).look (int_key (q := .i64) Try.underlying3) Try.underlying104 (zero_unit W) (hgt list m).dev true
                      have LS := As.mk fun W hW => (HMAP.o.move (w' := W) hW).store (int_key (q := .i64) Try.underlying3) Try.underlying104 (hgt list m).dev ()
                      have HB := As.mk hb
                      have hbs := hb.size
                      clear R1 R2 hb
                      generalize hgt list m = z at *
                      have PC : As (∀ W, Below wr.heap.size wr W → Calls Try.prog 58 #[.slice B1 z.pieces.length d1] W fun e w' => e = .returned (.bool (decide (okPieces z.pieces))) ∧ Below W.heap.size W w') := ⟨fun W hW => distinct_any _ _ _ ok _ _ (HR1.o.below hW)⟩
                      have SC : As (∀ W, Below wr.heap.size wr W → Calls Try.prog 59 #[.slice B2 z.shares.length d2] W fun e w' => e = .returned (.bool (decide (okShares z.shares))) ∧ Below W.heap.size W w') := ⟨fun W hW => ascending_any _ _ _ ok _ _ (HR2.o.below hW)⟩
                      by_cases hx : z.dev ∈ (list.take m).map (fun h : Hold => h.dev)
                      · skip
                        have LKN : As (∀ W : World, W.heap[wo.heap.size]? = wr.heap[wo.heap.size]? → (Instr.lookup 104 (.map (some wo.heap.size)) (.int .i64 z.dev) true).run Try.prog W = .ok (.tuple #[.agg #[], .bool true]) W) := ⟨fun W hW => by
                          have := LK.o W hW
                          rw [setF_yes hx] at this
                          exact this⟩
                        clear LK
                        have HN : As (¬ Valid g list) := ⟨fun hc => (HS.o.1 (HTK.o hc.2.2.2.2.2.2.2)).2.2 hx⟩
                        clear LS HS HT hx
                        go_wp2_with (first | (at_lookup; refine wpList_lookup_run rfl _ _ 104 true rfl (.map (some wo.heap.size)) (.int .i64 z.dev) _ rfl rfl (LKN.o _ (by (repeat (first | rfl | (refine (Below.heap_alloc _ _ _ (by (first | omega | (simp; done) | (simp; omega)))).trans ?_) | (refine (Below.heap_setCell _ _ _ _ (by (first | omega | (simp; done) | (simp; omega)))).trans ?_) | (refine (heap_drew _ _).trans ?_) | (refine (heap_setBlock_far _ _ _ _ (by (first | omega | (simp; done) | (simp; omega)))).trans ?_))))) ?_))
                        go_ret
                        exact ⟨by rw [checkOf_no HN.o]; rfl, bthen HBW.o (bthen HB.o (((Below.refl wr.heap.size wr).alloc (Nat.le_refl _) _).alloc (by simp) _) (Nat.le_refl _)) (Nat.le_refl _)⟩
                      · skip
                        have LKN : As (∀ W : World, W.heap[wo.heap.size]? = wr.heap[wo.heap.size]? → (Instr.lookup 104 (.map (some wo.heap.size)) (.int .i64 z.dev) true).run Try.prog W = .ok (.tuple #[.agg #[], .bool false]) W) := ⟨fun W hW => by
                          have := LK.o W hW
                          rw [setF_no hx] at this
                          exact this⟩
                        clear LK
                        by_cases t1 : 0 ≤ z.dev
                        · have ht1 : decide (z.dev < 0) = false := decide_eq_false (by omega)
                          by_cases t2 : z.dev < 12
                          · have ht2 : decide (12 ≤ z.dev) = false := decide_eq_false (by omega)
                            obtain ⟨zc, hzc⟩ : ∃ zc : World, zc = (wr.alloc (.cells #[.int .i64 z.dev, .slice B1 z.pieces.length d1, .slice B2 z.shares.length d2, .bool z.index] 78)).alloc (.cells #[] 105) := ⟨_, rfl⟩
                            have HZ : As (zc.heap[wr.heap.size]? = some (.cells #[.int .i64 z.dev, .slice B1 z.pieces.length d1, .slice B2 z.shares.length d2, .bool z.index] 78 (0, 0))) := ⟨by rw [hzc]; exact (Below.heap_alloc _ _ _ (by simp)).trans (heap_alloc_new _ _)⟩
                            have Q0 : As (zc.cell? ⟨wr.heap.size, 0, none⟩ = some (.int .i64 z.dev)) := ⟨(cell_of_row _ _ 0 _ _ _ HZ.o).trans rfl⟩
                            have Q2 : As (zc.cell? ⟨wr.heap.size, 2, none⟩ = some (.slice B2 z.shares.length d2)) := ⟨(cell_of_row _ _ 2 _ _ _ HZ.o).trans rfl⟩
                            rw [hzc] at Q0 Q2
                            clear HZ
                            clear hzc zc
                            by_cases t4 : okPieces z.pieces
                            · rw [decide_eq_true t4] at PC
                              by_cases t5 : okShares z.shares
                              · rw [decide_eq_true t5] at SC
                                have HNX : As (okHolds (list.take (m + 1))) := ⟨HS.o.2 ⟨hnm.o, ⟨t1, t2, t4, t5⟩, hx⟩⟩
                                clear HS hx t4 t5
                                go_wp2_with (first | (at_lookup; refine wpList_lookup_run rfl _ _ 104 true rfl (.map (some wo.heap.size)) (.int .i64 z.dev) _ rfl rfl (LKN.o _ (by (repeat (first | rfl | (refine (Below.heap_alloc _ _ _ (by (first | omega | (simp; done) | (simp; omega)))).trans ?_) | (refine (Below.heap_setCell _ _ _ _ (by (first | omega | (simp; done) | (simp; omega)))).trans ?_) | (refine (heap_drew _ _).trans ?_) | (refine (heap_setBlock_far _ _ _ _ (by (first | omega | (simp; done) | (simp; omega)))).trans ?_))))) ?_) | (go_at_call 58; refine (PC.o _ (((Below.refl wr.heap.size wr).alloc (Nat.le_refl _) _).alloc (by simp) _)).mono ?_; rintro e w5 ⟨rfl, hb5⟩; have q2 := (hb5.cell (p := ⟨wr.heap.size, 2, none⟩) (by (first | omega | (simp; done) | (simp; omega)))).trans Q2.o; have q0 := (hb5.cell (p := ⟨wr.heap.size, 0, none⟩) (by (first | omega | (simp; done) | (simp; omega)))).trans Q0.o) | (go_at_call 59; refine (SC.o _ (bthen (((Below.refl wr.heap.size wr).alloc (Nat.le_refl _) _).alloc (by simp) _) hb5 (Nat.le_refl _))).mono ?_; rintro e w6 ⟨rfl, hb6⟩; have q0' := (hb6.cell (p := ⟨wr.heap.size, 0, none⟩) (Nat.lt_of_lt_of_le (by (first | omega | (simp; done) | (simp; omega))) hb5.size)).trans q0) | (at_mapUpdate; refine wpList_store_map rfl _ _ _ 104 rfl wo.heap.size (.int .i64 z.dev) (eUnit ()) rfl rfl rfl (LS.o _ ((bthen (bthen (((Below.refl wr.heap.size wr).alloc (Nat.le_refl _) _).alloc (by simp) _) hb5 (Nat.le_refl _)) hb6 (Nat.le_refl _)).block _ hgg)) ?_; intro o hmap))
                                go_roundw
                                case rel => exact ⟨m + 1, by omega, by go_num, HNX, ⟨by rw [HT.o, ← setF_upd]; exact hmap⟩, below_setBlock (bthen HB.o (bthen (bthen (((Below.refl wr.heap.size wr).alloc (Nat.le_refl _) _).alloc (by simp) _) hb5 (Nat.le_refl _)) hb6 (Nat.le_refl _)) (Nat.le_refl _)) (Nat.le_refl _) _⟩
                                case measure => simp [intOf]; omega
                              · rw [decide_eq_false t5] at SC
                                have HN : As (¬ Valid g list) := ⟨fun hc => t5 (HS.o.1 (HTK.o hc.2.2.2.2.2.2.2)).2.1.2.2.2⟩
                                clear LS HS HT hx
                                go_wp2_with (first | (at_lookup; refine wpList_lookup_run rfl _ _ 104 true rfl (.map (some wo.heap.size)) (.int .i64 z.dev) _ rfl rfl (LKN.o _ (by (repeat (first | rfl | (refine (Below.heap_alloc _ _ _ (by (first | omega | (simp; done) | (simp; omega)))).trans ?_) | (refine (Below.heap_setCell _ _ _ _ (by (first | omega | (simp; done) | (simp; omega)))).trans ?_) | (refine (heap_drew _ _).trans ?_) | (refine (heap_setBlock_far _ _ _ _ (by (first | omega | (simp; done) | (simp; omega)))).trans ?_))))) ?_) | (go_at_call 58; refine (PC.o _ (((Below.refl wr.heap.size wr).alloc (Nat.le_refl _) _).alloc (by simp) _)).mono ?_; rintro e w5 ⟨rfl, hb5⟩; have q2 := (hb5.cell (p := ⟨wr.heap.size, 2, none⟩) (by (first | omega | (simp; done) | (simp; omega)))).trans Q2.o; have q0 := (hb5.cell (p := ⟨wr.heap.size, 0, none⟩) (by (first | omega | (simp; done) | (simp; omega)))).trans Q0.o) | (go_at_call 59; refine (SC.o _ (bthen (((Below.refl wr.heap.size wr).alloc (Nat.le_refl _) _).alloc (by simp) _) hb5 (Nat.le_refl _))).mono ?_; rintro e w6 ⟨rfl, hb6⟩; have q0' := (hb6.cell (p := ⟨wr.heap.size, 0, none⟩) (Nat.lt_of_lt_of_le (by (first | omega | (simp; done) | (simp; omega))) hb5.size)).trans q0))
                                go_ret
                                exact ⟨by rw [checkOf_no HN.o]; rfl, bthen HBW.o (bthen HB.o (bthen (bthen (((Below.refl wr.heap.size wr).alloc (Nat.le_refl _) _).alloc (by simp) _) hb5 (Nat.le_refl _)) hb6 (Nat.le_refl _)) (Nat.le_refl _)) (Nat.le_refl _)⟩
                            · rw [decide_eq_false t4] at PC
                              have HN : As (¬ Valid g list) := ⟨fun hc => t4 (HS.o.1 (HTK.o hc.2.2.2.2.2.2.2)).2.1.2.2.1⟩
                              clear LS HS HT hx
                              go_wp2_with (first | (at_lookup; refine wpList_lookup_run rfl _ _ 104 true rfl (.map (some wo.heap.size)) (.int .i64 z.dev) _ rfl rfl (LKN.o _ (by (repeat (first | rfl | (refine (Below.heap_alloc _ _ _ (by (first | omega | (simp; done) | (simp; omega)))).trans ?_) | (refine (Below.heap_setCell _ _ _ _ (by (first | omega | (simp; done) | (simp; omega)))).trans ?_) | (refine (heap_drew _ _).trans ?_) | (refine (heap_setBlock_far _ _ _ _ (by (first | omega | (simp; done) | (simp; omega)))).trans ?_))))) ?_) | (go_at_call 58; refine (PC.o _ (((Below.refl wr.heap.size wr).alloc (Nat.le_refl _) _).alloc (by simp) _)).mono ?_; rintro e w5 ⟨rfl, hb5⟩; have q2 := (hb5.cell (p := ⟨wr.heap.size, 2, none⟩) (by (first | omega | (simp; done) | (simp; omega)))).trans Q2.o; have q0 := (hb5.cell (p := ⟨wr.heap.size, 0, none⟩) (by (first | omega | (simp; done) | (simp; omega)))).trans Q0.o))
                              go_ret
                              exact ⟨by rw [checkOf_no HN.o]; rfl, bthen HBW.o (bthen HB.o (bthen (((Below.refl wr.heap.size wr).alloc (Nat.le_refl _) _).alloc (by simp) _) hb5 (Nat.le_refl _)) (Nat.le_refl _)) (Nat.le_refl _)⟩
                          · have ht2 : decide (12 ≤ z.dev) = true := decide_eq_true (by omega)
                            have HN : As (¬ Valid g list) := ⟨fun hc => t2 (HS.o.1 (HTK.o hc.2.2.2.2.2.2.2)).2.1.2.1⟩
                            clear LS HS HT hx
                            go_wp2_with (first | (at_lookup; refine wpList_lookup_run rfl _ _ 104 true rfl (.map (some wo.heap.size)) (.int .i64 z.dev) _ rfl rfl (LKN.o _ (by (repeat (first | rfl | (refine (Below.heap_alloc _ _ _ (by (first | omega | (simp; done) | (simp; omega)))).trans ?_) | (refine (Below.heap_setCell _ _ _ _ (by (first | omega | (simp; done) | (simp; omega)))).trans ?_) | (refine (heap_drew _ _).trans ?_) | (refine (heap_setBlock_far _ _ _ _ (by (first | omega | (simp; done) | (simp; omega)))).trans ?_))))) ?_))
                            go_ret
                            exact ⟨by rw [checkOf_no HN.o]; rfl, bthen HBW.o (bthen HB.o (((Below.refl wr.heap.size wr).alloc (Nat.le_refl _) _).alloc (by simp) _) (Nat.le_refl _)) (Nat.le_refl _)⟩
                        · have ht1 : decide (z.dev < 0) = true := decide_eq_true (by omega)
                          have HN : As (¬ Valid g list) := ⟨fun hc => t1 (HS.o.1 (HTK.o hc.2.2.2.2.2.2.2)).2.1.1⟩
                          clear LS HS HT hx
                          go_wp2_with (first | (at_lookup; refine wpList_lookup_run rfl _ _ 104 true rfl (.map (some wo.heap.size)) (.int .i64 z.dev) _ rfl rfl (LKN.o _ (by (repeat (first | rfl | (refine (Below.heap_alloc _ _ _ (by (first | omega | (simp; done) | (simp; omega)))).trans ?_) | (refine (Below.heap_setCell _ _ _ _ (by (first | omega | (simp; done) | (simp; omega)))).trans ?_) | (refine (heap_drew _ _).trans ?_) | (refine (heap_setBlock_far _ _ _ _ (by (first | omega | (simp; done) | (simp; omega)))).trans ?_))))) ?_))
                          go_ret
                          exact ⟨by rw [checkOf_no HN.o]; rfl, bthen HBW.o (bthen HB.o (((Below.refl wr.heap.size wr).alloc (Nat.le_refl _) _).alloc (by simp) _) (Nat.le_refl _)) (Nat.le_refl _)⟩
                    · have HV : As (Valid g list) := ⟨⟨v1, v2, v3, V4.o, V5.o, by rw [HL.o]; exact v6, HNN.o, by
                        have := hnm.o
                        rwa [List.take_of_length_le (by rw [HL.o]; omega)] at this⟩⟩
                      go_wp2
                      go_ret
                      exact ⟨by rw [checkOf_yes HV.o]; rfl, bthen HBW.o hb (Nat.le_refl _)⟩
            · have hd6 : decide ((12 : Int) < (n : Int)) = true := decide_eq_true (by omega)
              have HN : As (¬ Valid g list) := ⟨fun hc => v6 (by rw [← HL.o]; exact hc.2.2.2.2.2.1)⟩
              go_wp2_with (first | (go_at_call 58; refine (PC.o _ (Below.refl _ _)).mono ?_; rintro e w1 ⟨rfl, hb1⟩; have cx0 := (hb1.cell (p := ⟨w.heap.size, 0, none⟩) hlw).trans bx0; have cx4 := (hb1.cell (p := ⟨w.heap.size, 4, none⟩) hlw).trans bx4; have hlw1 := Nat.lt_of_lt_of_le hlw hb1.size) | (go_at_call 59; refine (SC.o _ hb1).mono ?_; rintro e w2 ⟨rfl, hb2⟩; have dx0 := (hb2.cell (p := ⟨w.heap.size, 0, none⟩) hlw1).trans cx0; have hlw2 := Nat.lt_of_lt_of_le hlw1 hb2.size))
              go_ret
              exact ⟨by rw [checkOf_no HN.o]; rfl, bthen (bthen HB0.o hb1 (Nat.le_refl _)) hb2 (Nat.le_refl _)⟩
          · skip
            have SC : As (∀ W, Below w0.heap.size w0 W → Calls Try.prog 59 #[.slice A3 g.shares.length c3] W fun e w' => e = .returned (.bool false) ∧ Below W.heap.size W w') := ⟨fun W hW => (ascending_any _ _ _ ok _ _ (((HG.o.below HB0.o).below hW).s)).mono fun e w' ⟨h1, h2⟩ => ⟨by rw [h1, decide_eq_false v5], h2⟩⟩
            have HN : As (¬ Valid g list) := ⟨fun hc => v5 hc.2.2.2.2.1⟩
            go_wp2_with (first | (go_at_call 58; refine (PC.o _ (Below.refl _ _)).mono ?_; rintro e w1 ⟨rfl, hb1⟩; have cx0 := (hb1.cell (p := ⟨w.heap.size, 0, none⟩) hlw).trans bx0; have cx4 := (hb1.cell (p := ⟨w.heap.size, 4, none⟩) hlw).trans bx4; have hlw1 := Nat.lt_of_lt_of_le hlw hb1.size) | (go_at_call 59; refine (SC.o _ hb1).mono ?_; rintro e w2 ⟨rfl, hb2⟩; have dx0 := (hb2.cell (p := ⟨w.heap.size, 0, none⟩) hlw1).trans cx0; have hlw2 := Nat.lt_of_lt_of_le hlw1 hb2.size))
            go_ret
            exact ⟨by rw [checkOf_no HN.o]; rfl, bthen (bthen HB0.o hb1 (Nat.le_refl _)) hb2 (Nat.le_refl _)⟩
        · skip
          have PC : As (∀ W, Below w0.heap.size w0 W → Calls Try.prog 58 #[.slice A2 g.pieces.length c2] W fun e w' => e = .returned (.bool false) ∧ Below W.heap.size W w') := ⟨fun W hW => (distinct_any _ _ _ ok _ _ (((HG.o.below HB0.o).below hW).p)).mono fun e w' ⟨h1, h2⟩ => ⟨by rw [h1, decide_eq_false v4], h2⟩⟩
          have HN : As (¬ Valid g list) := ⟨fun hc => v4 hc.2.2.2.1⟩
          go_wp2_with ((go_at_call 58; refine (PC.o _ (Below.refl _ _)).mono ?_; rintro e w1 ⟨rfl, hb1⟩; have cx0 := (hb1.cell (p := ⟨w.heap.size, 0, none⟩) hlw).trans bx0; have cx4 := (hb1.cell (p := ⟨w.heap.size, 4, none⟩) hlw).trans bx4; have hlw1 := Nat.lt_of_lt_of_le hlw hb1.size))
          go_ret
          exact ⟨by rw [checkOf_no HN.o]; rfl, bthen HB0.o hb1 (Nat.le_refl _)⟩
      · have hd3 : decide (255 < g.thr) = true := decide_eq_true (by omega)
        have HN : As (¬ Valid g list) := ⟨fun hc => v3 hc.2.2.1⟩
        go_wp2
        go_ret
        exact ⟨by rw [checkOf_no HN.o]; rfl, HB0.o⟩
    · have hd2 : decide (g.thr < 0) = true := decide_eq_true (by omega)
      have HN : As (¬ Valid g list) := ⟨fun hc => v2 hc.2.1⟩
      go_wp2
      go_ret
      exact ⟨by rw [checkOf_no HN.o]; rfl, HB0.o⟩
  · have hd1 : decide ((64 : Int) < (g.needs.length : Int)) = true := decide_eq_true (by omega)
    have HN : As (¬ Valid g list) := ⟨fun hc => v1 hc.1⟩
    go_wp2
    go_ret
    exact ⟨by rw [checkOf_no HN.o]; rfl, HB0.o⟩
end Go.Proofs.Ytlinhckgdfhppaa
