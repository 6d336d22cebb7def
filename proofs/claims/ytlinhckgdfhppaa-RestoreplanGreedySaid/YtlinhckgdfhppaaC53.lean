import Derived.Test.YtlinhckgdfhppaaM10
import Derived.Deep.DeepCutAuto
set_option linter.unusedSimpArgs false
set_option linter.unusedVariables false
namespace Go.Proofs.Ytlinhckgdfhppaa
open Go Go.RowKit Go.Proofs.YtlinhckgdfhppaaK

/-! The document's Greedy. -/
theorem dev_at {g : Goal} {list : List Hold} (hv : Valid g list) (k : Nat) (hk : k < list.length) : ig (devsTo list 12) k = (hgt (sortH list) k).dev := by
  rw [devL_eq hv, devL, ig_eq _ _ (by rw [List.length_map, sortH_len]; exact hk), List.getElem_map, hgt_eq _ _ (by rw [sortH_len]; exact hk)]
theorem devs_len {g : Goal} {list : List Hold} (hv : Valid g list) : (devsTo list 12).length = list.length := by rw [devL_eq hv, devL_len]
section
variable (g : Goal) (A1 : Option Addr) (c1 : Nat) (A2 : Option Addr) (c2 : Nat) (A3 : Option Addr) (c3 : Nat) (A4 : Option Addr) (c4 : Nat) (list : List Hold) (w : World)
set_option maxRecDepth 100000 in
set_option maxHeartbeats 8000000 in
theorem refGreedy_any (hg : GoalIn w (fun k => k < w.heap.size) g A1 c1 A2 c2 A3 c3) (hl : Row kHold w (fun k => k < w.heap.size) A4 list.length list) (hp0 : possOf g list = 0) :
    Calls Try.prog 28 #[.agg (goalCells g A1 c1 A2 c2 A3 c3), .slice A4 list.length c4] w fun e w' => ∃ A c out, e = .returned (.slice A out.length c) ∧ IsGreedy g list out ∧ out.length ≤ c ∧ Row (Kn.int .i64) w' (fun k => k < w'.heap.size) A out.length out ∧ Below w.heap.size w w' := by
  have hv := (possOf_zero hp0).1
  have hz := (possOf_zero hp0).2
  have HV := As.mk hv
  have HZ := As.mk hz
  have HG := As.mk hg
  have HL := As.mk hl
  have HIG : As (∀ out : List Int, (∃ m, psum g list (grTo g list m).1 = 0 ∧ out = (grTo g list m).2) → IsGreedy g list out) := ⟨fun out h => ⟨fun _ => h, fun h1 => absurd hp0 h1⟩⟩
  obtain ⟨W0, hW0⟩ : ∃ W0 : World, W0 = w.alloc (.cells (goalCells g A1 c1 A2 c2 A3 c3) 38) := ⟨_, rfl⟩
  have HB0 : As (Below w.heap.size w W0) := ⟨by rw [hW0]; exact (Below.refl w.heap.size w).alloc (Nat.le_refl _) _⟩
  have HS0 : As (W0.heap.size = w.heap.size + 1) := ⟨by rw [hW0]; simp⟩
  have BOX : As (∀ W : World, Below W0.heap.size W0 W → W.cell? ⟨w.heap.size, 0, none⟩ = some (.slice A1 g.needs.length c1) ∧ W.cell? ⟨w.heap.size, 1, none⟩ = some (.int .i64 g.thr) ∧ W.cell? ⟨w.heap.size, 2, none⟩ = some (.bool g.index) ∧ W.cell? ⟨w.heap.size, 3, none⟩ = some (.slice A2 g.pieces.length c2) ∧ W.cell? ⟨w.heap.size, 4, none⟩ = some (.slice A3 g.shares.length c3)) := ⟨fun W hW => by
    have X0 : W0.heap[w.heap.size]? = some (.cells (goalCells g A1 c1 A2 c2 A3 c3) 38 (0, 0)) := by rw [hW0]; exact heap_alloc_new w _
    have e : ∀ i, W.cell? ⟨w.heap.size, i, none⟩ = (goalCells g A1 c1 A2 c2 A3 c3)[i]? := fun i => (hW.cell (p := ⟨w.heap.size, i, none⟩) (by have := HS0.o; show w.heap.size < _; omega)).trans (cell_of_row _ _ i _ _ _ X0)
    exact ⟨e 0, e 1, e 2, e 3, e 4⟩⟩
  have SUM : As (∀ W, Below w.heap.size w W → ∀ (B : Option Addr) (n c : Nat) (s : List Int), Row (Kn.int .i64) W (fun _ => True) B n s → Calls Try.prog 27 #[.agg (goalCells g A1 c1 A2 c2 A3 c3), .slice A4 list.length c4, .slice B n c] W fun e w' => e = .returned (.int .i64 (lackSum g list s)) ∧ Below W.heap.size W w') :=
    ⟨fun W hW B n c s hr => sum_any g A1 c1 A2 c2 A3 c3 A4 list.length c4 list B n c s (fun _ => True) W ⟨(HG.o.below hW).n.mono fun _ _ => trivial, HG.o.cn, (HG.o.below hW).p.mono fun _ _ => trivial, HG.o.cp, (HG.o.below hW).s.mono fun _ _ => trivial, HG.o.cs⟩ ((HL.o.below hW).mono fun _ _ => trivial) hr HV.o.modest⟩
  have DEV : As (∀ W, Below w.heap.size w W → Calls Try.prog 40 #[.slice A4 list.length c4] W fun e w' => ∃ B c, e = .returned (.slice B list.length c) ∧ Row (Kn.int .i64) w' (fun k => W.heap.size ≤ k) B list.length (devsTo list 12) ∧ Below W.heap.size W w') :=
    ⟨fun W hW => (devices_any A4 list.length c4 _ list W (HL.o.below hW)).mono fun e w' ⟨v, he, ho, hb⟩ => by
      obtain ⟨B, c, rfl, hc, hr⟩ := own_row (flat_int .i64) ho
      rw [devs_len HV.o] at he hr
      exact ⟨B, c, he, hr.mono fun _ h => h.1, hb⟩⟩
  have HDA := As.mk fun k hk => dev_at HV.o k hk
  have h12 := hv.ok.hnl
  clear hg hl hv hz hp0
  go_enter Try.func28, Try.ntmps28
  go_upto_region 1 with (fail)
  rw [← hW0]
  clear hW0
  go_upto_region 2 with (fail)
  obtain ⟨W1, hW1⟩ : ∃ W1 : World, W1 = W0.alloc (.cells #[] 3) := ⟨_, rfl⟩
  rw [← hW1]
  have HB1 : As (Below W0.heap.size W0 W1) := ⟨by rw [hW1]; exact (Below.refl _ _).alloc (Nat.le_refl _) _⟩
  have HS1 : As (W1.heap.size = W0.heap.size + 1) := ⟨by rw [hW1]; simp⟩
  have HO1 : As (Own (Kn.int .i64) 3 W1 W0.heap.size (.slice (some ⟨W0.heap.size, 0, none⟩) 0 0) []) := ⟨by rw [hW1]; exact Own.empty _ _ _ _ (Nat.le_refl _)⟩
  clear hW1
  go_wp2_with (go_at_call 40; refine (DEV.o _ (bthen HB0.o HB1.o (Nat.le_refl _))).mono ?_; rintro e w2 ⟨Bd, cd, rfl, hrd, hb2⟩)
  have HB2 : As (Below W0.heap.size W0 w2) := ⟨HB1.o.trans (hb2.mono HB1.o.size)⟩
  have HO2 := As.mk (HO1.o.below hb2)
  have HRD : As (Row (Kn.int .i64) w2 (fun k => W0.heap.size < k ∧ k < w2.heap.size) Bd list.length (devsTo list 12)) := ⟨hrd.bound.mono fun k hk => ⟨by have := HS1.o; have := hk.1; omega, hk.2⟩⟩
  clear hrd hb2 DEV HO1 HB1
  go_loopw [5] (fun v wr => ∃ m : Nat, As (Own (Kn.int .i64) 3 wr W0.heap.size v (grTo g list m).2) ∧ As (Below W0.heap.size W0 wr) ∧ As (Row (Kn.int .i64) wr (fun k => W0.heap.size < k ∧ k < w2.heap.size) Bd list.length (devsTo list 12) ∧ w2.heap.size ≤ wr.heap.size) ∧ As (∀ b, v.ownBlock = some b → b = W0.heap.size ∨ w2.heap.size ≤ b) ∧ As ((grTo g list m).2.length = m)) (fun v _ => 66001 - lenV v)
  case atStart => exact ⟨0, HO2, HB2, ⟨HRD.o, Nat.le_refl _⟩, ⟨fun b hb => by simp [Value.ownBlock] at hb; omega⟩, ⟨rfl⟩⟩
  case round =>
    obtain ⟨m, HO, HB, HRR, HNB, HLN⟩ := hrel
    have HR := As.mk HRR.o.1
    have hsz2 := HRR.o.2
    have HM := As.mk (grTo_sum HV.o HZ.o m)
    have HPS := As.mk (psum_gr HV.o HZ.o m)
    have HNX := As.mk (rg_next HV.o HZ.o m)
    have HOUT := As.mk fun (h : psum g list (grTo g list m).1 = 0) => HIG.o (grTo g list m).2 ⟨m, h, rfl⟩
    have hnn := (lackSum_bd (list := list) (devs := (grTo g list m).2) HV.o.modest)
    have HBw : As (Below w.heap.size w wr) := ⟨HB0.o.trans (HB.o.mono (by have := HS0.o; omega))⟩
    obtain ⟨b0, b1, b2, b3, b4⟩ := BOX.o wr HB.o
    generalize grTo g list m = r at *
    obtain ⟨s, acc⟩ := r
    simp only at HO HLN HM HPS HNX HOUT hnn
    obtain ⟨Ao, co, ev, hco, hro⟩ := HO.o.shape
    subst ev
    have HRO := As.mk (hro.mono (ok' := fun _ => True) fun _ _ => trivial)
    have SUM1 := As.mk (SUM.o wr HBw.o Ao acc.length co acc HRO.o)
    clear hro
    by_cases h0 : 0 < lackSum g list acc
    · have d0 : decide (0 < lackSum g list acc) = true := decide_eq_true h0
      have hne : psum g list s ≠ 0 := by rw [HPS.o]; omega
      have hm66 : m ≤ 66000 := by have := HM.o hne; have := HPS.o; omega
      have HN := As.mk (HNX.o hne)
      clear HNX HOUT hne HM HPS
      go_wp2_with (go_at_call 27; refine SUM1.o.mono ?_; rintro e w3 ⟨rfl, hb3⟩)
      have HB3 : As (Below W0.heap.size W0 w3) := ⟨HB.o.trans (hb3.mono HB.o.size)⟩
      have HO3 := As.mk (HO.o.below hb3)
      have HR3 := As.mk (HR.o.below hb3)
      have HRO3 := As.mk (HRO.o.below hb3)
      have hsz3 := hb3.size
      clear SUM1 hb3 b0 b1 b2 b3 b4 h0 d0 hnn
      go_loopw [7, 8, 9] (fun b l i' wr => ∃ k : Nat, k ≤ list.length ∧ i' = .int .i64 k ∧ b = .int .i64 (rgTo g list acc k).1 ∧ l = .int .i64 (rgTo g list acc k).2 ∧ As (Below w3.heap.size w3 wr)) (fun _ _ i' _ => list.length - (intOf i').toNat)
      case atStart => exact ⟨0, Nat.zero_le _, rfl, rfl, rfl, ⟨Below.refl _ _⟩⟩
      case round =>
        obtain ⟨k, hk, rfl, rfl, rfl, HBk⟩ := hrel
        by_cases hlt : k < list.length
        · have HS := As.mk (show rgTo g list acc (k + 1) = if (hgt (sortH list) k).dev ∉ acc ∧ ((rgTo g list acc k).1 < 0 ∨ lackSum g list (acc ++ [(hgt (sortH list) k).dev]) < (rgTo g list acc k).2) then ((hgt (sortH list) k).dev, lackSum g list (acc ++ [(hgt (sortH list) k).dev])) else rgTo g list acc k from rfl)
          have HDK := HDA.o k hlt
          have HBBk : As (Below W0.heap.size W0 wr) := ⟨HB3.o.trans (HBk.o.mono HB3.o.size)⟩
          have HBwk : As (Below w.heap.size w wr) := ⟨HB0.o.trans (HBBk.o.mono (by have := HS0.o; omega))⟩
          obtain ⟨ad, eD, _, hld, pd⟩ := (HR3.o.below HBk.o).int_at k hlt
          subst eD
          rw [HDK] at pd
          clear HDK
          have HROk := As.mk (HRO3.o.below HBk.o)
          generalize (hgt (sortH list) k).dev = dv at *
          generalize hrt : rgTo g list acc k = rt at *
          clear hrt
          obtain ⟨best, least⟩ := rt
          simp only at HS
          have hk1 : (k : Int) < (list.length : Int) := by omega
          obtain ⟨wo, rfl⟩ : ∃ wo : World, wo = wr := ⟨_, rfl⟩
          have hln1 : (acc ++ [dv]).length = acc.length + 1 := by simp
          have SUMK : As (∀ (W : World) (B : Option Addr) (c : Nat), Below wo.heap.size wo W → Row (Kn.int .i64) W (fun _ => True) B (acc.length + 1) (acc ++ [dv]) → Calls Try.prog 27 #[.agg (goalCells g A1 c1 A2 c2 A3 c3), .slice A4 list.length c4, .slice B (acc.length + 1) c] W fun e w' => e = .returned (.int .i64 (lackSum g list (acc ++ [dv]))) ∧ Below W.heap.size W w') := ⟨fun W B c hW hr => SUM.o W (bthen HBwk.o hW (Nat.le_refl _)) B _ c _ hr⟩
          have HLN1 := As.mk hln1
          clear hln1
          have hal : acc.length ≤ 66000 := by have := HLN.o; omega
          have hAL1 : (wo.alloc (.cells #[] 3)).heap.size = wo.heap.size + 1 := by simp
          have hAL2 : (wo.alloc (.cells #[.int .i64 dv] 3)).heap.size = wo.heap.size + 1 := by simp
          have x1 : Below wo.heap.size wo (wo.alloc (.cells #[] 3)).drew := ((Below.refl _ _).alloc (Nat.le_refl _) _).drew
          have x2 : Below wo.heap.size wo ((wo.alloc (.cells #[] 3)).alloc (.cells #[.int .i64 dv] 3)).drew := (((Below.refl _ _).alloc (Nat.le_refl _) _).alloc (by omega) _).drew
          have x3 : Below wo.heap.size wo ((wo.alloc (.cells #[.int .i64 dv] 3)).alloc (.cells #[] 3)).drew := (((Below.refl _ _).alloc (Nat.le_refl _) _).alloc (by omega) _).drew
          have E1 : As (Own (Kn.int .i64) 3 (wo.alloc (.cells #[] 3)).drew wo.heap.size (.slice (some ⟨wo.heap.size, 0, none⟩) 0 0) []) := ⟨Own.empty (Kn.int .i64) 3 wo _ (Nat.le_refl _)⟩
          have E2 : As (Own (Kn.int .i64) 3 ((wo.alloc (.cells #[] 3)).alloc (.cells #[.int .i64 dv] 3)).drew wo.heap.size (.slice (some ⟨wo.heap.size, 0, none⟩) 0 0) []) := ⟨(Own.empty (Kn.int .i64) 3 wo _ (Nat.le_refl _)).below (((Below.refl _ _).alloc (Nat.le_refl _) _).drew)⟩
          have E3 : As (Own (Kn.int .i64) 3 ((wo.alloc (.cells #[.int .i64 dv] 3)).alloc (.cells #[] 3)).drew wo.heap.size (.slice (some ⟨wo.heap.size + 1, 0, none⟩) 0 0) []) := ⟨by have := Own.empty (Kn.int .i64) 3 (wo.alloc (.cells #[.int .i64 dv] 3)) wo.heap.size (by omega); rwa [hAL2] at this⟩
          have L2 : As (((wo.alloc (.cells #[] 3)).alloc (.cells #[.int .i64 dv] 3)).drew.heap[wo.heap.size + 1]? = some (.cells #[.int .i64 dv] 3 (0, 0))) := ⟨by have := heap_alloc_new (wo.alloc (.cells #[] 3)) (.cells #[.int .i64 dv] 3); rwa [hAL1] at this⟩
          have L3 : As (((wo.alloc (.cells #[.int .i64 dv] 3)).alloc (.cells #[] 3)).drew.heap[wo.heap.size]? = some (.cells #[.int .i64 dv] 3 (0, 0))) := ⟨(Below.heap_alloc (wo.alloc (.cells #[.int .i64 dv] 3)) _ _ (by omega)).trans (heap_alloc_new wo _)⟩
          have RR : As (∀ (W : World) (X : Nat), Below wo.heap.size wo W → wo.heap.size ≤ X → Row (Kn.int .i64) W (fun k => True ∧ Value.ownBlock (.slice (some ⟨X, 0, none⟩) 0 0) ≠ some k) Ao acc.length acc) := ⟨fun W X hW hX => ((HROk.o.bound.mono (ok' := fun b => b < wo.heap.size) fun b h => h.2).below hW).mono fun k hk => ⟨trivial, fun e => by simp [Value.ownBlock] at e; omega⟩⟩
          have S1 : As (([] : List Int).length + acc.length ≤ 9223372036854775807 ∧ (([] : List Int).length + acc.length) * 8 ≤ 140737488355328 ∧ ([] ++ acc : List Int).length + 1 ≤ 9223372036854775807 ∧ (([] ++ acc : List Int).length + 1) * 8 ≤ 140737488355328) := ⟨by simp; omega⟩
          have HX := As.mk (And.intro x1 (And.intro x2 x3))
          have GB : As (∀ W : World, Below wo.heap.size wo W → W.cell? ⟨w.heap.size, 0, none⟩ = some (.slice A1 g.needs.length c1) ∧ W.cell? ⟨w.heap.size, 1, none⟩ = some (.int .i64 g.thr) ∧ W.cell? ⟨w.heap.size, 2, none⟩ = some (.bool g.index) ∧ W.cell? ⟨w.heap.size, 3, none⟩ = some (.slice A2 g.pieces.length c2) ∧ W.cell? ⟨w.heap.size, 4, none⟩ = some (.slice A3 g.shares.length c3) ∧ W.cell? (ad.add k) = some (.int .i64 dv)) := ⟨fun W hW => by
            obtain ⟨g0, g1, g2, g3, g4⟩ := BOX.o W (HBBk.o.trans (hW.mono HBBk.o.size))
            exact ⟨g0, g1, g2, g3, g4, (hW.cell (by rw [block_add]; exact hld)).trans pd⟩⟩
          obtain ⟨g0, g1, g2, g3, g4, _⟩ := GB.o wo (Below.refl _ _)
          have hlk : (ad.add k).block < wo.heap.size := by rw [block_add]; exact hld
          have hlw0 : w.heap.size < wo.heap.size := World.block_lt_of_cell? wo _ g0
          have CONK := As.mk fun (p : BW wo) => contains_any Ao acc.length co (fun _ => True) acc dv p.W (HROk.o.below p.h)
          clear x1 x2 x3 hAL1 hAL2
          go_upto_region 8 with (fail)
          go_cut [10] (fun v wx => v = .int .i64 (lackSum g list (acc ++ [dv])) ∧ As (Below wo.heap.size wo wx))
          case first =>
            go_region_law (first
              | (with_reducible show @ite Prop _ _ (Oper.wp _ _ _ (World.drew (World.alloc wo (Obj.cells #[] 3))) _ _) _
                 refine step_app_row (Kn.int .i64) wo.heap.size rfl (.tmp 27) (.tmp 28) 24 (.int .i64 0) 8 rfl Try.underlying24 info_int rfl (by decide) (.slice (some ⟨wo.heap.size, 0, none⟩) 0 0) [] acc Ao acc.length co (by simp [Act.eval, Act.put]) (by simp [Act.eval, Act.put]) E1.o (RR.o _ _ HX.o.1 (Nat.le_refl _)) HX.o.1.size S1.o.1 S1.o.2.1 ?_
                 intro v5 w5 HO5 hg5 hat5
                 have HB5 := As.mk (HX.o.1.trans (E1.o.base_le hg5 (Nat.le_refl _) HX.o.1.size))
                 have H5 := As.mk HO5
                 obtain ⟨g0, g1, g2, g3, g4, pd5⟩ := GB.o w5 HB5.o
                 have hl5 := World.block_lt_of_cell? w5 _ g0
                 have hl5' := World.block_lt_of_cell? w5 _ pd5
                 clear hg5 hat5 HO5)
              | (with_reducible show @ite Prop _ _ (Oper.wp _ _ _ (World.drew (World.alloc (World.alloc wo (Obj.cells #[] 3)) (Obj.cells #[.int .i64 dv] 3))) _ _) _
                 refine step_app_row (Kn.int .i64) wo.heap.size rfl (.tmp 27) (.tmp 28) 24 (.int .i64 0) 8 rfl Try.underlying24 info_int rfl (by decide) (.slice (some ⟨wo.heap.size, 0, none⟩) 0 0) [] acc Ao acc.length co (by simp [Act.eval, Act.put]) (by simp [Act.eval, Act.put]) E2.o (RR.o _ _ HX.o.2.1 (Nat.le_refl _)) HX.o.2.1.size S1.o.1 S1.o.2.1 ?_
                 intro v5 w5 HO5 hg5 hat5
                 have HB5 := As.mk (HX.o.2.1.trans (E2.o.base_le hg5 (Nat.le_refl _) HX.o.2.1.size))
                 have H5 := As.mk HO5
                 have HL5 := As.mk ((hg5.block _ (blk_lt L2.o) (fun e => by simp [Value.ownBlock] at e)).trans L2.o)
                 have HN5 : As (v5.ownBlock ≠ some (wo.heap.size + 1)) := ⟨fun e => by
                   rcases hat5 with h | ⟨b, h, h'⟩
                   · rw [h] at e; simp [Value.ownBlock] at e
                   · rw [h] at e; injection e with e; have := blk_lt L2.o; omega⟩
                 obtain ⟨g0, g1, g2, g3, g4, pd5⟩ := GB.o w5 HB5.o
                 have hl5 := World.block_lt_of_cell? w5 _ g0
                 have hl5' := World.block_lt_of_cell? w5 _ pd5
                 clear hg5 hat5 HO5)
              | (with_reducible show @ite Prop _ _ (Oper.wp _ _ _ (World.drew (World.alloc (World.alloc wo (Obj.cells #[.int .i64 dv] 3)) (Obj.cells #[] 3))) _ _) _
                 refine step_app_row (Kn.int .i64) wo.heap.size rfl (.tmp 27) (.tmp 28) 24 (.int .i64 0) 8 rfl Try.underlying24 info_int rfl (by decide) (.slice (some ⟨wo.heap.size + 1, 0, none⟩) 0 0) [] acc Ao acc.length co (by simp [Act.eval, Act.put]) (by simp [Act.eval, Act.put]) E3.o (RR.o _ _ HX.o.2.2 (by omega)) HX.o.2.2.size S1.o.1 S1.o.2.1 ?_
                 intro v5 w5 HO5 hg5 hat5
                 have HB5 := As.mk (HX.o.2.2.trans (E3.o.base_le hg5 (Nat.le_refl _) HX.o.2.2.size))
                 have H5 := As.mk HO5
                 have HL5 := As.mk ((hg5.block _ (blk_lt L3.o) (fun e => by simp [Value.ownBlock] at e)).trans L3.o)
                 have HN5 : As (v5.ownBlock ≠ some wo.heap.size) := ⟨fun e => by
                   rcases hat5 with h | ⟨b, h, h'⟩
                   · rw [h] at e; simp [Value.ownBlock] at e
                   · rw [h] at e; injection e with e; have := blk_lt L3.o; omega⟩
                 obtain ⟨g0, g1, g2, g3, g4, pd5⟩ := GB.o w5 HB5.o
                 have hl5 := World.block_lt_of_cell? w5 _ g0
                 have hl5' := World.block_lt_of_cell? w5 _ pd5
                 clear hg5 hat5 HO5)
              | (with_reducible show @ite Prop _ _ (Oper.wp _ _ _ (World.alloc w5 (Obj.cells #[.int .i64 dv] 3)) _ _) _
                 refine step_app_row (Kn.int .i64) wo.heap.size rfl (.tmp 29) (.tmp 34) 24 (.int .i64 0) 8 rfl Try.underlying24 info_int rfl (by decide) v5 ([] ++ acc) [dv] (some ⟨w5.heap.size, 0, none⟩) 1 1 (by simp [Act.eval, Act.put]) (by simp [Act.eval, Act.put]) (H5.o.below ((Below.refl _ _).alloc (Nat.le_refl _) _)) (litI1 dv (heap_alloc_new w5 _) ⟨trivial, fun e => by have := (H5.o.lt _ e).2; omega⟩) (by have := HB5.o.size; simp; omega) S1.o.2.2.1 S1.o.2.2.2 ?_
                 intro v6 w6 HO6 hg6 hat6
                 have HB6 : As (Below wo.heap.size wo w6) := ⟨(bthen HB5.o ((Below.refl _ _).alloc (Nat.le_refl _) (.cells #[.int .i64 dv] 3)) (Nat.le_refl _)).trans ((H5.o.below ((Below.refl _ _).alloc (Nat.le_refl _) (.cells #[.int .i64 dv] 3))).base_le hg6 (Nat.le_refl _) (by have := HB5.o.size; simp; omega))⟩
                 obtain ⟨A6, c6, rfl, hc6, hr6⟩ := HO6.shape
                 obtain ⟨g0, g1, g2, g3, g4, pd6⟩ := GB.o w6 HB6.o
                 have HR6 : As (Row (Kn.int .i64) w6 (fun _ => True) A6 (acc.length + 1) (acc ++ [dv])) := ⟨by have := hr6.mono (ok' := fun _ => True) fun _ _ => trivial; rw [show ([] ++ acc ++ [dv] : List Int).length = acc.length + 1 by simp] at this; exact this⟩
                 clear hr6 hg6 hat6 HO6)
              | (with_reducible show @ite Prop _ _ (Oper.wp _ _ _ (w5) _ _) _
                 refine step_app_row (Kn.int .i64) wo.heap.size rfl (.tmp 29) (.tmp 34) 24 (.int .i64 0) 8 rfl Try.underlying24 info_int rfl (by decide) v5 ([] ++ acc) [dv] (some ⟨wo.heap.size + 1, 0, none⟩) 1 1 (by simp [Act.eval, Act.put]) (by simp [Act.eval, Act.put]) H5.o (litI1 dv HL5.o ⟨trivial, HN5.o⟩) HB5.o.size S1.o.2.2.1 S1.o.2.2.2 ?_
                 intro v6 w6 HO6 hg6 hat6
                 have HB6 : As (Below wo.heap.size wo w6) := ⟨HB5.o.trans (H5.o.base_le hg6 (Nat.le_refl _) HB5.o.size)⟩
                 obtain ⟨A6, c6, rfl, hc6, hr6⟩ := HO6.shape
                 obtain ⟨g0, g1, g2, g3, g4, pd6⟩ := GB.o w6 HB6.o
                 have HR6 : As (Row (Kn.int .i64) w6 (fun _ => True) A6 (acc.length + 1) (acc ++ [dv])) := ⟨by have := hr6.mono (ok' := fun _ => True) fun _ _ => trivial; rw [show ([] ++ acc ++ [dv] : List Int).length = acc.length + 1 by simp] at this; exact this⟩
                 clear hr6 hg6 hat6 HO6)
              | (with_reducible show @ite Prop _ _ (Oper.wp _ _ _ (w5) _ _) _
                 refine step_app_row (Kn.int .i64) wo.heap.size rfl (.tmp 29) (.tmp 34) 24 (.int .i64 0) 8 rfl Try.underlying24 info_int rfl (by decide) v5 ([] ++ acc) [dv] (some ⟨wo.heap.size, 0, none⟩) 1 1 (by simp [Act.eval, Act.put]) (by simp [Act.eval, Act.put]) H5.o (litI1 dv HL5.o ⟨trivial, HN5.o⟩) HB5.o.size S1.o.2.2.1 S1.o.2.2.2 ?_
                 intro v6 w6 HO6 hg6 hat6
                 have HB6 : As (Below wo.heap.size wo w6) := ⟨HB5.o.trans (H5.o.base_le hg6 (Nat.le_refl _) HB5.o.size)⟩
                 obtain ⟨A6, c6, rfl, hc6, hr6⟩ := HO6.shape
                 obtain ⟨g0, g1, g2, g3, g4, pd6⟩ := GB.o w6 HB6.o
                 have HR6 : As (Row (Kn.int .i64) w6 (fun _ => True) A6 (acc.length + 1) (acc ++ [dv])) := ⟨by have := hr6.mono (ok' := fun _ => True) fun _ _ => trivial; rw [show ([] ++ acc ++ [dv] : List Int).length = acc.length + 1 by simp] at this; exact this⟩
                 clear hr6 hg6 hat6 HO6)
              | (go_simp; go_at_call 27; refine (SUMK.o _ A6 c6 HB6.o HR6.o).mono ?_; rintro e w7 ⟨rfl, hb7⟩; have HB7 := As.mk (bthen HB6.o hb7 (Nat.le_refl _))))
            all_goals (go_wp2_with fail; go_meet; exact ⟨rfl, HB7⟩)
          case rest =>
            obtain ⟨rfl, HB7⟩ := hcut
            have HBK7 : As (Below w3.heap.size w3 wc) := ⟨HBk.o.trans (HB7.o.mono HBk.o.size)⟩
            have y0 := (HB7.o.cell (p := ad.add k) (by rw [block_add]; exact hld)).trans pd
            have CONC := As.mk (contains_any Ao acc.length co (fun _ => True) acc dv wc (HROk.o.below HB7.o))
            clear GB CONK SUMK E1 E2 E3 L2 L3 RR S1 HX pd g0 g1 g2 g3 g4
            generalize lackSum g list (acc ++ [dv]) = n at *
            by_cases hin : dv ∈ acc
            · skip
              have CON1 : As (Calls Try.prog 33 #[.slice Ao acc.length co, .int .i64 dv] wc fun e w' => e = .returned (.bool true) ∧ wc = w') := ⟨by have := CONC.o; rwa [decide_eq_true hin] at this⟩
              have HS2 := As.mk (HS.o.trans (if_neg fun h => h.1 hin))
              clear HS hin CONC
              go_wp2_with (go_at_call 33; refine CON1.o.mono ?_; rintro e w8 ⟨rfl, rfl⟩)
              go_roundw
              case rel => exact ⟨k + 1, by omega, by go_num, by rw [HS2.o], by rw [HS2.o], HBK7⟩
              case measure => simp [intOf]; omega
            · by_cases hb0 : best < 0
              · have d1 : decide (best < 0) = true := decide_eq_true hb0
                have CON1 : As (Calls Try.prog 33 #[.slice Ao acc.length co, .int .i64 dv] wc fun e w' => e = .returned (.bool false) ∧ wc = w') := ⟨by have := CONC.o; rwa [decide_eq_false hin] at this⟩
                have HS2 := As.mk (HS.o.trans (if_pos ⟨hin, .inl hb0⟩))
                clear HS hin CONC
                go_wp2_with (go_at_call 33; refine CON1.o.mono ?_; rintro e w8 ⟨rfl, rfl⟩)
                go_roundw
                case rel => exact ⟨k + 1, by omega, by go_num, by rw [HS2.o], by rw [HS2.o], HBK7⟩
                case measure => simp [intOf]; omega
              · have d1 : decide (best < 0) = false := decide_eq_false hb0
                by_cases hn0 : n < least
                · have d2 : decide (n < least) = true := decide_eq_true hn0
                  have CON1 : As (Calls Try.prog 33 #[.slice Ao acc.length co, .int .i64 dv] wc fun e w' => e = .returned (.bool false) ∧ wc = w') := ⟨by have := CONC.o; rwa [decide_eq_false hin] at this⟩
                  have HS2 := As.mk (HS.o.trans (if_pos ⟨hin, .inr hn0⟩))
                  clear HS hin CONC
                  go_wp2_with (go_at_call 33; refine CON1.o.mono ?_; rintro e w8 ⟨rfl, rfl⟩)
                  go_roundw
                  case rel => exact ⟨k + 1, by omega, by go_num, by rw [HS2.o], by rw [HS2.o], HBK7⟩
                  case measure => simp [intOf]; omega
                · have d2 : decide (n < least) = false := decide_eq_false hn0
                  have CON1 : As (Calls Try.prog 33 #[.slice Ao acc.length co, .int .i64 dv] wc fun e w' => e = .returned (.bool false) ∧ wc = w') := ⟨by have := CONC.o; rwa [decide_eq_false hin] at this⟩
                  have HS2 := As.mk (HS.o.trans (if_neg fun h => h.2.elim hb0 hn0))
                  clear HS hin CONC
                  go_wp2_with (go_at_call 33; refine CON1.o.mono ?_; rintro e w8 ⟨rfl, rfl⟩)
                  go_roundw
                  case rel => exact ⟨k + 1, by omega, by go_num, by rw [HS2.o], by rw [HS2.o], HBK7⟩
                  case measure => simp [intOf]; omega
        · have e : k = list.length := by omega
          subst e
          have HOk := As.mk (HO3.o.below HBk.o)
          have HBBk : As (Below W0.heap.size W0 wr) := ⟨HB3.o.trans (HBk.o.mono HB3.o.size)⟩
          have hl3 := HLN.o
          generalize (rgTo g list acc list.length).1 = bd at *
          generalize (rgTo g list acc list.length).2 = bl at *
          have hszk := HBBk.o.size
          go_wp2_with (at_builtin; refine app_one (Kn.int .i64) W0.heap.size rfl (.tmp 58) (.tmp 60) 24 (.int .i64 0) 8 rfl Try.underlying24 info_int rfl (by decide) (.slice Ao acc.length co) acc bd [.int .i64 bd] rfl (by show Value.slice _ _ _ = _; simp) HOk.o rfl hszk (by omega) (by omega) ?_; intro v1 w7 HO7 hg7 hat7)
          go_roundw
          case rel =>
            have hb7 := HOk.o.base_le hg7 (Nat.le_refl _) hszk
            refine ⟨m + 1, ⟨by rw [HN.o]; exact HO7⟩, ⟨HBBk.o.trans hb7⟩, ⟨?_⟩, ⟨?_⟩, ⟨by rw [HN.o, List.length_append, List.length_singleton, HLN.o]⟩⟩
            · have hk3 := HBk.o.size
              refine ⟨(HR3.o.below HBk.o).step fun b hb hbl => hg7.block b hbl fun e => ?_, by have := hg7.size; omega⟩
              have := HNB.o b e.symm
              have h1 := hb.1
              have h2 := hb.2
              omega
            · intro b hbv
              rcases hat7 with h | ⟨b', h, hle⟩
              · exact HNB.o b (by rw [← h]; exact hbv)
              · rw [h] at hbv; injection hbv with hbv; have hk3 := HBk.o.size; right; omega
          case measure =>
            obtain ⟨A7, c7, rfl, _, _⟩ := HO7.shape
            simp only [lenV, List.length_append, List.length_singleton]
            omega
    · have d0 : decide (0 < lackSum g list acc) = false := decide_eq_false h0
      have HIS := As.mk (HOUT.o (by rw [HPS.o]; omega))
      clear h0 HNX HOUT HM HPS hnn
      go_wp2_with (go_at_call 27; refine SUM1.o.mono ?_; rintro e w3 ⟨rfl, hb3⟩)
      go_ret
      exact ⟨_, _, acc, rfl, HIS.o, hco, (HRO.o.below hb3).bound.mono fun _ h => h.2, bthen HBw.o hb3 (Nat.le_refl _)⟩
end
end Go.Proofs.Ytlinhckgdfhppaa
