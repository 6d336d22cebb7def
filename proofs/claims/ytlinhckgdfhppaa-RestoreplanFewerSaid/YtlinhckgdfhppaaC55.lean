import Derived.Test.YtlinhckgdfhppaaM10
import Derived.Test.YtlinhckgdfhppaaP10
set_option linter.unusedSimpArgs false
set_option linter.unusedVariables false
namespace Go.Proofs.Ytlinhckgdfhppaa
open Go Go.RowKit Go.Proofs.YtlinhckgdfhppaaK
open Go.ChangeMaps (setBlock)

/-! Cheapest. -/
/-- A cost that there may not be. -/
def badC (x : Int) : Bool := decide (x < 0) || decide (1099511627776 < x)
theorem okCosts_iff {list : List Hold} {costs : List Int} : okCosts list costs ↔ costs.length = list.length ∧ ∀ x ∈ costs, badC x = false := by
  unfold okCosts badC
  refine and_congr_right fun _ => forall_congr' fun x => forall_congr' fun _ => ?_
  rw [Bool.or_eq_false_iff, decide_eq_false_iff_not, decide_eq_false_iff_not]
  omega
theorem ofTo_bd {list : List Hold} {costs : List Int} {B : Int} (hc : ∀ x ∈ costs, 0 ≤ x ∧ x ≤ B) : ∀ {k : Nat}, k ≤ costs.length → ∀ d, 0 ≤ (ofTo list costs k d).getD 0 ∧ ((ofTo list costs k d).getD 0 ≤ B ∨ (ofTo list costs k d).getD 0 = 0)
  | 0, _, d => ⟨Int.le_refl _, .inr rfl⟩
  | k + 1, hk, d => by
    rw [ofTo, upd]
    split
    · have := hc _ (ig_mem costs k (by omega))
      exact ⟨this.1, .inl this.2⟩
    · exact ofTo_bd hc (by omega) d
theorem sumDev_succ (f : Int → Option Int) (ds : List Int) (j : Nat) (h : j < ds.length) : sumDev f (ds.take (j + 1)) = sumDev f (ds.take j) + (f (ig ds j)).getD 0 := by
  rw [List.take_succ_eq_append_getElem h, ← ig_eq _ _ h]
  unfold sumDev
  rw [List.map_append, List.map_singleton, sum_snoc]
theorem sumDev_bd {f : Int → Option Int} (hf : ∀ d, 0 ≤ (f d).getD 0 ∧ (f d).getD 0 ≤ 1099511627776) : ∀ ds : List Int, 0 ≤ sumDev f ds ∧ sumDev f ds ≤ 1099511627776 * ds.length
  | [] => by simp [sumDev]
  | d :: ds => by
    have h1 := sumDev_bd hf ds
    have h2 := hf d
    unfold sumDev at *
    rw [List.map_cons, List.sum_cons, List.length_cons]
    omega
set_option maxRecDepth 100000 in
theorem closeC (x : Int) (W : World) : Calls Try.prog 53 #[.int .i64 x] W fun e w' => e = .returned (.bool (badC x)) ∧ W = w' := by
  by_cases h1 : x < 0
  · have d1 : decide (x < 0) = true := decide_eq_true h1
    have hb : badC x = true := by unfold badC; rw [d1]; rfl
    rw [hb]
    clear hb h1
    go_enter Try.func53, Try.ntmps53
    go_wp2
    go_ret
    exact ⟨rfl, rfl⟩
  · have d1 : decide (x < 0) = false := decide_eq_false h1
    have hb : badC x = decide (1099511627776 < x) := by unfold badC; rw [d1]; rfl
    rw [hb]
    clear hb h1
    go_enter Try.func53, Try.ntmps53
    go_wp2
    go_ret
    exact ⟨rfl, rfl⟩
set_option maxRecDepth 100000 in
set_option maxHeartbeats 1000000 in
theorem idxC_any (A : Option Addr) (n c : Nat) (ok : Nat → Prop) (xs : List Int) (w : World) (h : Row (Kn.int .i64) w ok A n xs) :
    Calls Try.prog 75 #[.slice A n c, .func (.func 53) #[] #[]] w fun e w' => (∃ r : Int, e = .returned (.int .i64 r) ∧ decide (0 ≤ r) = xs.any badC) ∧ w = w' := by
  have hm := h.2.1
  have HL := As.mk h.1
  have HR := As.mk h
  clear h
  go_enter Try.func75, Try.ntmps75
  go_wp2
  go_loop [8] (fun i => ∃ k : Nat, k ≤ n ∧ i = .int .i64 k ∧ As (∀ x ∈ xs.take k, badC x = false)) (fun i => n - (intOf i).toNat)
  case atStart => exact ⟨0, Nat.zero_le _, rfl, ⟨by simp⟩⟩
  case round =>
    obtain ⟨k, hk, rfl, hne⟩ := hrel
    by_cases hlt : k < n
    · obtain ⟨ad, rfl, _, _, p0⟩ := HR.o.int_at k hlt
      have hkl : k < xs.length := by rw [HL.o]; exact hlt
      have HS : As (xs.take (k + 1) = xs.take k ++ [ig xs k]) := ⟨by rw [List.take_succ_eq_append_getElem hkl, ← ig_eq xs k hkl]⟩
      have HM := As.mk (ig_mem xs k hkl)
      have CLO := As.mk fun W => closeC (ig xs k) W
      clear hkl
      generalize ig xs k = y at *
      by_cases hx : badC y = true
      · rw [hx] at CLO
        have HX : As (xs.any badC = true) := ⟨List.any_eq_true.2 ⟨y, HM.o, hx⟩⟩
        clear hx
        go_wp2_with (go_at_call 53; refine (CLO.o _).mono ?_; rintro e w1 ⟨rfl, rfl⟩)
        go_ret
        exact ⟨⟨_, rfl, by rw [HX.o]; exact decide_eq_true (by omega)⟩, rfl⟩
      · have hx' : badC y = false := by simpa using hx
        rw [hx'] at CLO
        have HX : As (∀ x ∈ xs.take (k + 1), badC x = false) := ⟨fun x hm => by
          rw [HS.o, List.mem_append, List.mem_singleton] at hm
          rcases hm with hm | rfl
          · exact hne.o x hm
          · exact hx'⟩
        clear hx hx'
        go_wp2_with (go_at_call 53; refine (CLO.o _).mono ?_; rintro e w1 ⟨rfl, rfl⟩)
        go_round
        case rel => exact ⟨k + 1, by omega, by go_num, HX⟩
        case measure => simp [intOf]; omega
    · have e : k = n := by omega
      subst e
      have h1 := hne.o
      rw [List.take_of_length_le (by rw [HL.o]; exact Nat.le_refl _)] at h1
      have HF : As (xs.any badC = false) := ⟨List.any_eq_false.2 fun x hx => by rw [h1 x hx]; decide⟩
      clear h1 hne
      go_wp2
      go_ret
      exact ⟨⟨_, rfl, by rw [HF.o]; rfl⟩, rfl⟩
set_option maxRecDepth 100000 in
theorem conC_any (A : Option Addr) (n c : Nat) (ok : Nat → Prop) (xs : List Int) (w : World) (h : Row (Kn.int .i64) w ok A n xs) :
    Calls Try.prog 52 #[.slice A n c, .func (.func 53) #[] #[]] w fun e w' => e = .returned (.bool (xs.any badC)) ∧ w = w' := by
  have IDX := As.mk (idxC_any A n c ok xs w h)
  clear h
  go_enter Try.func52, Try.ntmps52
  go_wp2_with (go_at_call 75; refine IDX.o.mono ?_; rintro e w1 ⟨⟨r, rfl, hr⟩, rfl⟩)
  go_ret
  exact ⟨by rw [← hr]; rfl, rfl⟩
section
variable (g : Goal) (A1 : Option Addr) (c1 : Nat) (A2 : Option Addr) (c2 : Nat) (A3 : Option Addr) (c3 : Nat) (A4 : Option Addr) (c4 : Nat) (list : List Hold) (A5 : Option Addr) (nc c5 : Nat) (costs : List Int) (w : World)
set_option maxRecDepth 100000 in
set_option maxHeartbeats 2000000 in
theorem cheapest_any (hg : GoalIn w (fun k => k < w.heap.size) g A1 c1 A2 c2 A3 c3) (hl : Row kHold w (fun k => k < w.heap.size) A4 list.length list) (hc : Row (Kn.int .i64) w (fun k => k < w.heap.size) A5 nc costs) :
    Calls Try.prog 22 #[.agg (goalCells g A1 c1 A2 c2 A3 c3), .slice A4 list.length c4, .slice A5 nc c5] w fun e w' => ∃ A c, e = .returned (.tuple #[.slice A (cheapP g list costs).1.length c, .int .i64 (cheapP g list costs).2, .int .i64 (cheapE g list costs)]) ∧
      Row (Kn.int .i64) w' (fun k => k < w'.heap.size) A (cheapP g list costs).1.length (cheapP g list costs).1 ∧ Below w.heap.size w w' := by
  have LC := As.mk (lawCtx g A1 c1 A2 c2 A3 c3 A4 c4 list w hg hl)
  have HC := As.mk hc
  have HL := As.mk hl
  obtain ⟨W0, hW0⟩ : ∃ W0 : World, W0 = w.alloc (.cells (goalCells g A1 c1 A2 c2 A3 c3) 26) := ⟨_, rfl⟩
  rw [← hW0] at LC
  have HW0 := As.mk hW0
  have r0 : Below W0.heap.size W0 W0 := Below.refl _ _
  obtain ⟨a0, a1, a2, a3, a4, al⟩ := LC.o.box W0 r0
  have CHK := As.mk LC.o.chk
  have hnc := hc.1
  have CON : As (∀ W : World, Below W0.heap.size W0 W → Calls Try.prog 52 #[.slice A5 nc c5, .func (.func 53) #[] #[]] W fun e w' => e = .returned (.bool (costs.any badC)) ∧ W = w') := ⟨fun W hW => conC_any A5 nc c5 _ costs W (row_up HC.o (LC.o.up W hW))⟩
  have POSY : As (possOf g list = 0 → ∀ W : World, Below W0.heap.size W0 W → Calls Try.prog 36 #[.agg (goalCells g A1 c1 A2 c2 A3 c3), .slice A4 list.length c4] W fun e w' => ∃ pb, e = .returned (.tuple #[.pointer (some ⟨pb, 0, none⟩), .int .i64 0]) ∧ PIn w' pb g list ∧ Below W0.heap.size W0 w' ∧ Below W.heap.size W w') := ⟨fun h0 W hW => (possYes g A1 c1 A2 c2 A3 c3 A4 c4 list w hg hl h0 W (LC.o.up W hW)).mono fun e w' ⟨pb, he, hp, hb⟩ => ⟨pb, he, hp, bthen hW hb (Nat.le_refl _), hb⟩⟩
  have POSN : As (possOf g list ≠ 0 → ∀ W : World, Below W0.heap.size W0 W → Calls Try.prog 36 #[.agg (goalCells g A1 c1 A2 c2 A3 c3), .slice A4 list.length c4] W fun e w' => e = .returned (.tuple #[.pointer none, .int .i64 (possOf g list)]) ∧ Below W0.heap.size W0 w' ∧ Below W.heap.size W w') := ⟨fun h0 W hW => (possNo g A1 c1 A2 c2 A3 c3 A4 c4 list w hg hl h0 W (LC.o.up W hW)).mono fun e w' ⟨he, hb⟩ => ⟨he, bthen hW hb (Nat.le_refl _), hb⟩⟩
  have hv := Classical.em (Valid g list)
  have hok := okCosts_iff (list := list) (costs := costs)
  clear hg hl hc hW0
  rcases hv with hv | hv
  · rw [checkOf_yes hv] at CHK
    by_cases hlen : nc = list.length
    · have d1 : ((nc : Int) != (list.length : Int)) = false := by rw [hlen]; simp
      by_cases hbad : costs.any badC = true
      · have hE : cheapE g list costs = 1 := if_neg fun h => by
          obtain ⟨x, hx, hb⟩ := List.any_eq_true.1 hbad
          rw [(hok.1 h).2 x hx] at hb
          cases hb
        have hP : cheapP g list costs = ([], 0) := if_neg (by rw [hE]; decide)
        rw [hE, hP]
        rw [hbad] at CON
        clear hok hbad hE hP hv POSY POSN hlen
        go_enter Try.func22, Try.ntmps22
        go_upto_region 1 with (fail)
        rw [← HW0.o]
        go_wp2_with (first
          | (go_at_call 31; refine (CHK.o _ r0).mono ?_; rintro e w1 ⟨rfl, h1, _⟩; obtain ⟨a0, a1, a2, a3, a4, al⟩ := LC.o.box w1 h1)
          | (go_at_call 52; refine (CON.o _ h1).mono ?_; rintro e w2 ⟨rfl, rfl⟩))
        go_ret3
        exact ⟨none, 0, rfl, Row.nil _ _ _ _, LC.o.up _ h1⟩
      · have hb2 : costs.any badC = false := by simpa using hbad
        have hokc : okCosts list costs := hok.2 ⟨by rw [hnc]; exact hlen, fun x hx => by have := List.any_eq_false.1 hb2 x hx; simpa using this⟩
        have hE : cheapE g list costs = possOf g list := if_pos hokc
        rw [hb2] at CON
        by_cases h0 : possOf g list = 0
        · have POS := As.mk (POSY.o h0)
          have hP : cheapP g list costs = (setsP g list).foldl (chStep list costs) ([], -1) := if_pos (by rw [hE, h0])
          have hnl12 := hv.ok.hnl
          have hnodup := hv.nodup
          have SETS : As (∀ (W : World) (pb : Nat), PIn W pb g list → Calls Try.prog 38 #[.pointer (some ⟨pb, 0, none⟩)] W fun e w' => ∃ A n c, e = .returned (.slice A n c) ∧ Row kU w' (fun _ => True) A n (setsP g list) ∧ Below W.heap.size W w') := ⟨fun W pb h => (setsP_any pb g list W h hv).mono fun e w' ⟨A, n, c, he, hr, hb⟩ => ⟨A, n, c, he, hr.mono fun _ _ => trivial, hb⟩⟩
          have PICK : As (∀ (W : World) (pb : Nat) (s : BitVec 64), PIn W pb g list → Calls Try.prog 37 #[.pointer (some ⟨pb, 0, none⟩), .int .u64 (s.toNat : Int)] W fun e w' => ∃ A c, e = .returned (.slice A (pickTo (sortH list) s.toNat list.length).length c) ∧ Row (Kn.int .i64) w' (fun _ => True) A (pickTo (sortH list) s.toNat list.length).length (pickTo (sortH list) s.toNat list.length) ∧ Below W.heap.size W w') := ⟨fun W pb s h => (pickQ h hv s.toNat s.isLt).mono fun e w' ⟨v, he, ho, hb⟩ => by
            obtain ⟨A, c, rfl, _, hr⟩ := ho.shape
            exact ⟨A, c, he, hr.mono fun _ _ => trivial, hb⟩⟩
          have HOB : As (∀ d, 0 ≤ (ofTo list costs list.length d).getD 0 ∧ (ofTo list costs list.length d).getD 0 ≤ 1099511627776) := ⟨fun d => by have := ofTo_bd (list := list) hokc.2 (k := list.length) (by rw [hokc.1]; exact Nat.le_refl _) d; omega⟩
          have HPL : As (∀ s : BitVec 64, (pickTo (sortH list) s.toNat list.length).length ≤ 12) := ⟨fun s => Nat.le_trans (pickTo_len _ _ _) hnl12⟩
          have HCT : As (∀ k, k < (setsP g list).length → chTo g list costs (k + 1) = chStep list costs (chTo g list costs k) (ug (setsP g list) k)) := ⟨fun k hk => foldl_take_succ _ _ _ k _ hk (ug_eq _ k hk).symm⟩
          have HCE : As (cheapP g list costs = chTo g list costs (setsP g list).length) := ⟨by rw [hP, chTo, List.take_length]⟩
          have HC0 : As (chTo g list costs 0 = ([], -1)) := ⟨rfl⟩
          have HOT : As (∀ k, ofTo list costs (k + 1) = upd (ofTo list costs k) (hgt list k).dev (ig costs k)) := ⟨fun k => rfl⟩
          have HO0 : As (ofTo list costs 0 = fun _ => none) := ⟨rfl⟩
          have HBST : As (∀ acc s, chStep list costs acc s = if acc.2 < 0 ∨ sumDev (ofTo list costs list.length) (pickTo (sortH list) s.toNat list.length) < acc.2 then (pickTo (sortH list) s.toNat list.length, sumDev (ofTo list costs list.length) (pickTo (sortH list) s.toNat list.length)) else acc) := ⟨fun _ _ => rfl⟩
          have hmm := @run_makeMap Try.prog
          rw [hE, h0]
          have HLEN := As.mk hlen
          clear hok hbad hE hP hv POSY POSN hokc hb2 h0 hnodup hlen
          go_enter Try.func22, Try.ntmps22
          go_upto_region 1 with (fail)
          rw [← HW0.o]
          go_upto_region 9 with (first
            | (go_at_call 31; refine (CHK.o _ r0).mono ?_; rintro e w1 ⟨rfl, h1, _⟩; obtain ⟨a0, a1, a2, a3, a4, al⟩ := LC.o.box w1 h1)
            | (go_at_call 52; refine (CON.o _ h1).mono ?_; rintro e w2 ⟨rfl, rfl⟩)
            | (go_at_call 36; refine (POS.o _ h1).mono ?_; rintro e w3 ⟨pb, rfl, hp3, h3, h13⟩))
          have HP3 := As.mk hp3
          have H3 := As.mk h3
          clear a0 a1 a2 a3 a4 al hp3 h3 h13 h1 POS CON CHK
          go_upto_region 10 with (fail)
          obtain ⟨W4, hW4⟩ : ∃ W4 : World, W4 = w3.alloc (.map #[] 0) := ⟨_, rfl⟩
          rw [← hW4]
          have HB34 : As (Below w3.heap.size w3 W4) := ⟨by rw [hW4]; exact (Below.refl _ _).alloc (Nat.le_refl _) _⟩
          have HM4 : As (Go.Proofs.YtlinhckgdfhppaaK.MapAt W4 w3.heap.size (Value.int .i64) (Value.int .i64) (ofTo list costs 0)) := ⟨by rw [hW4, HO0.o]; exact Go.Proofs.YtlinhckgdfhppaaK.MapAt.made w3 _ _⟩
          clear hW4
          generalize hmb : w3.heap.size = mb at *
          have HMB := As.mk hmb
          clear hmb
          go_wp2
          go_loopw [50] (fun i' wr => ∃ k : Nat, k ≤ list.length ∧ i' = .int .i64 k ∧ As (Go.Proofs.YtlinhckgdfhppaaK.MapAt wr mb (Value.int .i64) (Value.int .i64) (ofTo list costs k)) ∧ As (Below mb w3 wr)) (fun i' _ => list.length - (intOf i').toNat)
          case atStart => exact ⟨0, Nat.zero_le _, rfl, HM4, HB34⟩
          case round =>
            obtain ⟨k, hk, rfl, HM, HB⟩ := hrel
            have HU : As (Below W0.heap.size W0 wr) := ⟨bthen H3.o (by rw [HMB.o]; exact HB.o) (Nat.le_refl _)⟩
            by_cases hlt : k < list.length
            · obtain ⟨ad, P, cP, S, cS, eA, _, _, pd0, pd1, pd2, pd3, _, _, _, _⟩ := rowHold (LC.o.ll wr HU.o) k hlt
              subst eA
              obtain ⟨ad5, e5, _, hl5, q0⟩ := (row_up HC.o (LC.o.up wr HU.o)).int_at k (by have := HLEN.o; omega)
              subst e5
              have HS := As.mk (HOT.o k)
              have hml := HM.o.lt
              generalize hgt list k = y at *
              generalize ig costs k = cst at *
              have LS := As.mk fun W hW => (HM.o.move (w' := W) hW).store (int_key Try.underlying3) Try.underlying120 y.dev cst
              rw [← HS.o] at LS
              have hk5 : (k : Int) < (nc : Int) := by have := HLEN.o; omega
              have hl5' : (ad5.add k).block < wr.heap.size := by rw [block_add]; exact hl5
              go_wp2
              refine wp_region_drew_tail 7 (by kernel_rfl) (by kernel_rfl) ?_
              simp only [List.take_succ_cons, List.take_zero, List.drop_succ_cons, List.drop_zero]
              repeat (go_big_quiet_step (fail))
              refine wpQuiet_nil ?_
              rintro _ ⟨q, rfl⟩
              go_wp2_with (at_mapUpdate; refine wpList_store_map rfl _ _ _ 120 rfl mb (.int .i64 y.dev) (.int .i64 cst) rfl rfl rfl (LS.o _ (by (repeat (first | rfl | (refine (Below.heap_alloc _ _ _ (by (first | omega | (simp; done) | (simp; omega)))).trans ?_) | (refine (Below.heap_setCell _ _ _ _ (by (first | omega | (simp; done) | (simp; omega)))).trans ?_) | (refine (heap_drew _ _).trans ?_) | (refine (heap_setBlock_far _ _ _ _ (by (first | omega | (simp; done) | (simp; omega)))).trans ?_))))) ?_; intro o hmap)
              go_roundw
              case rel =>
                refine ⟨k + 1, by omega, by go_num, ⟨hmap⟩, ⟨⟨HB.o.os, HB.o.tape, HB.o.output, ?_, fun j hj => ?_⟩⟩⟩
                · exact Nat.le_trans HB.o.size (by simp [Go.ChangeMaps.setBlock, World.drewN])
                · exact (heap_setBlock_far _ _ _ _ (by omega)).trans ((Below.heap_alloc wr _ j (by omega)).trans (HB.o.block j hj))
              case measure => simp [intOf]; omega
            · have e : k = list.length := by omega
              subst e
              have HPW : As (PIn wr pb g list) := ⟨HP3.o.below (by rw [HMB.o]; exact HB.o)⟩
              clear hmm HP3 HB34 HM4
              go_wp2_with (go_at_call 38; refine (SETS.o _ _ HPW.o).mono ?_; rintro e w5 ⟨As5, n5, c5', rfl, hr5, hb5⟩)
              have HP5 := As.mk (HPW.o.below hb5)
              have HM5 := As.mk (HM.o.move (hb5.block mb HM.o.lt))
              have H5 : As (Below W0.heap.size W0 w5) := ⟨bthen HU.o hb5 (Nat.le_refl _)⟩
              have HR5 := As.mk hr5
              have hn5 := hr5.1
              have hn5m := hr5.2.1
              subst hn5
              clear hr5 hb5 HPW HM HB HU SETS
              generalize hSS : setsP g list = SS at *
              clear hSS
              go_loopw [15, 16, 66] (fun vb vl i' wr => ∃ (k : Nat) (A : Option Addr) (c : Nat), k ≤ SS.length ∧ i' = .int .i64 k ∧ vl = .int .i64 (chTo g list costs k).2 ∧ vb = .slice A (chTo g list costs k).1.length c ∧ As (Row (Kn.int .i64) wr (fun _ => True) A (chTo g list costs k).1.length (chTo g list costs k).1) ∧ As (Below w5.heap.size w5 wr)) (fun _ _ i' _ => SS.length - (intOf i').toNat)
              case atStart => exact ⟨0, none, 0, Nat.zero_le _, rfl, by rw [HC0.o], by rw [HC0.o]; rfl, ⟨by rw [HC0.o]; exact Row.nil _ _ _ _⟩, ⟨Below.refl _ _⟩⟩
              case round =>
                obtain ⟨k, A, c, hk, rfl, rfl, rfl, HRB, HB⟩ := hrel
                by_cases hlt : k < SS.length
                · obtain ⟨ad, e1, _, hlad, q0⟩ := rowU (HR5.o.below HB.o) k hlt
                  subst e1
                  have hk1 : (k : Int) < (SS.length : Int) := by omega
                  have HCK := As.mk (HCT.o k hlt)
                  have HPK := As.mk (PICK.o wr pb (ug SS k) (HP5.o.below HB.o))
                  rw [HBST.o] at HCK
                  have hdl := HPL.o (ug SS k)
                  generalize ug SS k = s at *
                  generalize chTo g list costs k = acc at *
                  obtain ⟨b0, l0⟩ := acc
                  simp only at HCK HRB
                  generalize pickTo (sortH list) s.toNat list.length = ds at *
                  generalize s.toNat = sn at *
                  go_wp2_with (go_at_call 37; refine HPK.o.mono ?_; rintro e w6 ⟨Ad, cd, rfl, hrd, hb6⟩)
                  have HB6 := As.mk (bthen HB.o hb6 (Nat.le_refl _))
                  have HRB6 := As.mk (HRB.o.below hb6)
                  have HRD := As.mk hrd
                  have HM6 := As.mk (HM5.o.move (HB6.o.block mb HM5.o.lt))
                  clear hrd hb6 HPK q0 HRB HB
                  go_loop [19, 75] (fun vs i' => ∃ j : Nat, j ≤ ds.length ∧ i' = .int .i64 j ∧ vs = .int .i64 (sumDev (ofTo list costs list.length) (ds.take j))) (fun _ i' => ds.length - (intOf i').toNat)
                  case atStart => exact ⟨0, Nat.zero_le _, rfl, by simp [sumDev]⟩
                  case round =>
                    obtain ⟨j, hj, rfl, rfl⟩ := hrel
                    by_cases hjl : j < ds.length
                    · obtain ⟨adD, eD, _, _, r0'⟩ := HRD.o.int_at j hjl
                      subst eD
                      have hj1 : (j : Int) < (ds.length : Int) := by omega
                      have HSD := As.mk (sumDev_succ (ofTo list costs list.length) ds j hjl)
                      have b1 := sumDev_bd HOB.o (ds.take j)
                      have b2 := HOB.o (ig ds j)
                      have hlen : (ds.take j).length ≤ 12 := by rw [List.length_take]; omega
                      have LK : As ((Instr.lookup 120 (.map (some mb)) (.int .i64 (ig ds j)) false).run Try.prog w6 = .ok (.int .i64 ((ofTo list costs list.length (ig ds j)).getD 0)) w6) := ⟨by
                        have := HM6.o.look (int_key Try.underlying3) Try.underlying120 (zero_int w6) (ig ds j) false
                        rw [this]
                        cases ofTo list costs list.length (ig ds j) <;> rfl⟩
                      generalize (ofTo list costs list.length (ig ds j)).getD 0 = fv at *
                      generalize sumDev (ofTo list costs list.length) (ds.take j) = sv at *
                      generalize ig ds j = d at *
                      go_wp2_with (at_lookup; refine wpList_lookup_run rfl _ _ 120 false rfl (.map (some mb)) (.int .i64 d) _ rfl rfl LK.o ?_)
                      go_round
                      case rel => exact ⟨j + 1, by omega, by go_num, by rw [HSD.o]⟩
                      case measure => simp [intOf]; omega
                    · have e : j = ds.length := by omega
                      subst e
                      rw [List.take_length]
                      generalize sumDev (ofTo list costs list.length) ds = sv at *
                      by_cases hl0 : l0 < 0
                      · have d3 : decide (l0 < 0) = true := decide_eq_true hl0
                        have HN := As.mk (HCK.o.trans (if_pos (.inl hl0)))
                        clear HCK hl0
                        go_wp2
                        go_roundw
                        case rel => exact ⟨k + 1, Ad, cd, by omega, by go_num, by rw [HN.o], by rw [HN.o], ⟨by rw [HN.o]; exact HRD.o⟩, HB6⟩
                        case measure => simp [intOf]; omega
                      · have d3 : decide (l0 < 0) = false := decide_eq_false hl0
                        by_cases hs0 : sv < l0
                        · have d4 : decide (sv < l0) = true := decide_eq_true hs0
                          have HN := As.mk (HCK.o.trans (if_pos (.inr hs0)))
                          clear HCK hl0 hs0
                          go_wp2
                          go_roundw
                          case rel => exact ⟨k + 1, Ad, cd, by omega, by go_num, by rw [HN.o], by rw [HN.o], ⟨by rw [HN.o]; exact HRD.o⟩, HB6⟩
                          case measure => simp [intOf]; omega
                        · have d4 : decide (sv < l0) = false := decide_eq_false hs0
                          have HN := As.mk (HCK.o.trans (if_neg fun h => h.elim hl0 hs0))
                          clear HCK hl0 hs0
                          go_wp2
                          go_roundw
                          case rel => exact ⟨k + 1, A, c, by omega, by go_num, by rw [HN.o], by rw [HN.o], ⟨by rw [HN.o]; exact HRB6.o⟩, HB6⟩
                          case measure => simp [intOf]; omega
                · have e : k = SS.length := by omega
                  subst e
                  generalize chTo g list costs SS.length = res at *
                  go_wp2
                  go_ret3
                  rw [HCE.o]
                  exact ⟨A, c, rfl, HRB.o.bound.mono fun _ h => h.2, LC.o.up _ (bthen H5.o HB.o (Nat.le_refl _))⟩
        · have POS := As.mk (POSN.o h0)
          have hP : cheapP g list costs = ([], 0) := if_neg (by rw [hE]; exact h0)
          have d0 : (possOf g list == 0) = false := by simp [h0]
          rw [hE, hP]
          clear hok hbad hE hP hv POSY POSN hlen hokc hb2 h0
          generalize possOf g list = r at *
          go_enter Try.func22, Try.ntmps22
          go_upto_region 1 with (fail)
          rw [← HW0.o]
          go_wp2_with (first
            | (go_at_call 31; refine (CHK.o _ r0).mono ?_; rintro e w1 ⟨rfl, h1, _⟩; obtain ⟨a0, a1, a2, a3, a4, al⟩ := LC.o.box w1 h1)
            | (go_at_call 52; refine (CON.o _ h1).mono ?_; rintro e w2 ⟨rfl, rfl⟩)
            | (go_at_call 36; refine (POS.o _ h1).mono ?_; rintro e w3 ⟨rfl, h3, _⟩))
          go_ret3
          exact ⟨none, 0, rfl, Row.nil _ _ _ _, LC.o.up _ h3⟩
    · have d1 : ((nc : Int) != (list.length : Int)) = true := by simp; omega
      have hE : cheapE g list costs = 1 := if_neg fun h => hlen (by rw [← hnc]; exact (hok.1 h).1)
      have hP : cheapP g list costs = ([], 0) := if_neg (by rw [hE]; decide)
      rw [hE, hP]
      clear hok hE hP hv POSY POSN hlen
      go_enter Try.func22, Try.ntmps22
      go_upto_region 1 with (fail)
      rw [← HW0.o]
      go_wp2_with (go_at_call 31; refine (CHK.o _ r0).mono ?_; rintro e w1 ⟨rfl, h1, _⟩; obtain ⟨a0, a1, a2, a3, a4, al⟩ := LC.o.box w1 h1)
      go_ret3
      exact ⟨none, 0, rfl, Row.nil _ _ _ _, LC.o.up _ h1⟩
  · have hE : cheapE g list costs = 1 := by
      unfold cheapE
      split
      · exact possOf_no hv
      · rfl
    have hP : cheapP g list costs = ([], 0) := if_neg (by rw [hE]; decide)
    rw [checkOf_no hv] at CHK
    rw [hE, hP]
    clear hok hE hP hv POSY POSN
    go_enter Try.func22, Try.ntmps22
    go_upto_region 1 with (fail)
    rw [← HW0.o]
    go_wp2_with (go_at_call 31; refine (CHK.o _ r0).mono ?_; rintro e w1 ⟨rfl, h1, _⟩)
    go_ret3
    exact ⟨none, 0, rfl, Row.nil _ _ _ _, LC.o.up _ h1⟩
end
end Go.Proofs.Ytlinhckgdfhppaa
