import Derived.Test.YtlinhckgdfhppaaC53
import Derived.Test.YtlinhckgdfhppaaK10
set_option linter.unusedSimpArgs false
set_option linter.unusedVariables false
namespace Go.Proofs.Ytlinhckgdfhppaa
open Go Go.RowKit Go.Proofs.YtlinhckgdfhppaaK

/-! The law RestoreplanGreedy. -/
section
variable (g : Goal) (A2 : Option Addr) (c2 : Nat) (A3 : Option Addr) (c3 : Nat) (list : List Hold) (A5 : Option Addr) (nd c5 : Nat) (devs : List Int)
/-- What the operations of the comparison yield. -/
def G6 (Bg : Option Addr) (dg : Nat) (Bh : Option Addr) (dh : Nat) (B : Nat) (n s1 s2 dv : Int) (j : Nat) (v : Value) (w : World) : Prop :=
  match j with
  | 0 => v = .int .i64 0
  | 1 => v = .bool false
  | 2 => v = .bool false
  | 3 => v = .int .i64 n
  | 4 => v = .agg (goalCells g Bg dg A2 c2 A3 c3)
  | 5 => v = .slice Bh list.length dh
  | 6 => v = .slice A5 nd c5
  | 7 => v = .int .i64 s1
  | 8 => v = .agg (goalCells g Bg dg A2 c2 A3 c3)
  | 9 => v = .slice Bh list.length dh
  | 10 => IsEmp B 3 v w
  | 11 => v = .slice A5 nd c5
  | 12 => Own (Kn.int .i64) 3 w B v devs
  | 13 => v = .int .i64 dv
  | 14 => IsLit B 1 #[.int .i64 dv] 3 v w
  | 15 => ∃ A c, v = .slice A (nd + 1) c ∧ Row (Kn.int .i64) w (fun _ => True) A (nd + 1) (devs ++ [dv])
  | 16 => v = .int .i64 s2
  | 17 => v = .int .i64 n
  | 18 => v = .bool false
  | 19 => v = .bool false
  | _ => True
def T6 (B : Nat) (i : Nat) (w w' : World) : Prop := if i = 12 then AppEmp B 3 w w' else if i = 15 then Below B w w' else Below w.heap.size w w'
theorem G6.keep {Bg : Option Addr} {dg : Nat} {Bh : Option Addr} {dh B : Nat} {n s1 s2 dv : Int} {i j : Nat} {v : Value} {w w' : World} (h10 : ¬ (i = 12 ∧ j = 10)) (h15 : ¬ (i = 12 ∧ j = 15)) (h12 : ¬ (i = 15 ∧ j = 12)) (h14 : ¬ (i = 15 ∧ j = 14)) (h10' : ¬ (i = 15 ∧ j = 10)) (hji : j ≠ i) (hT : T6 B i w w')
    (h : G6 g A2 c2 A3 c3 list A5 nd c5 devs Bg dg Bh dh B n s1 s2 dv j v w) : G6 g A2 c2 A3 c3 list A5 nd c5 devs Bg dg Bh dh B n s1 s2 dv j v w' := by
  unfold T6 at hT
  by_cases e12 : i = 12
  · rw [if_pos e12] at hT
    unfold G6 at h ⊢
    split at h <;> first | exact h | exact absurd ⟨e12, rfl⟩ h10 | exact absurd ⟨e12, rfl⟩ h15 | exact absurd e12.symm hji | exact h.app hT (by simp)
  · rw [if_neg e12] at hT
    by_cases e15 : i = 15
    · rw [if_pos e15] at hT
      unfold G6 at h ⊢
      split at h <;> first | exact h | exact absurd ⟨e15, rfl⟩ h12 | exact absurd ⟨e15, rfl⟩ h14 | exact absurd ⟨e15, rfl⟩ h10' | exact absurd e15.symm hji
    · rw [if_neg e15] at hT
      unfold G6 at h ⊢
      split at h <;> first | exact h | exact h.below hT | (obtain ⟨A, c, e, hr⟩ := h; exact ⟨A, c, e, hr.below hT⟩)
end
theorem t6_same {B i : Nat} {w w' : World} (h : i ≠ 12) (h' : i ≠ 15) (hb : Below w.heap.size w w') : T6 B i w w' := by
  unfold T6
  rw [if_neg h, if_neg h']
  exact hb
section
variable (g : Goal) (A1 : Option Addr) (c1 : Nat) (A2 : Option Addr) (c2 : Nat) (A3 : Option Addr) (c3 : Nat) (A4 : Option Addr) (c4 : Nat) (list : List Hold) (A5 : Option Addr) (nd c5 : Nat) (devs : List Int) (dv : Int) (w : World)
set_option maxRecDepth 100000 in
set_option maxHeartbeats 4000000 in
theorem law6 (hg : GoalIn w (fun k => k < w.heap.size) g A1 c1 A2 c2 A3 c3) (hl : Row kHold w (fun k => k < w.heap.size) A4 list.length list) (hd : Row (Kn.int .i64) w (fun k => k < w.heap.size) A5 nd devs) :
    Calls Try.prog 6 #[.agg (goalCells g A1 c1 A2 c2 A3 c3), .slice A4 list.length c4, .slice A5 nd c5, .int .i64 dv] w fun e w' => e = .returned (.bool true) ∧ Below w.heap.size w w' := by
  have LC := As.mk (lawCtx g A1 c1 A2 c2 A3 c3 A4 c4 list w hg hl)
  have HD := As.mk hd
  obtain ⟨W0, hW0⟩ : ∃ W0 : World, W0 = w.alloc (.cells (goalCells g A1 c1 A2 c2 A3 c3) 26) := ⟨_, rfl⟩
  rw [← hW0] at LC
  have HW0 := As.mk hW0
  have r0 : Below W0.heap.size W0 W0 := Below.refl _ _
  obtain ⟨a0, a1, a2, a3, a4, al⟩ := LC.o.box W0 r0
  have hndm := hd.2.1
  have hndl := hd.1
  have FEW := As.mk LC.o.few
  have hv := Classical.em (Valid g list)
  clear hg hl hd hW0
  by_cases hf : Few g list
  · rw [decide_eq_true hf] at FEW
    by_cases h20 : 20 < nd
    · have d1 : decide ((20 : Int) < (nd : Int)) = true := decide_eq_true (by omega)
      clear hv
      go_enter Try.func6, Try.ntmps6
      go_upto_region 1 with (fail)
      rw [← HW0.o]
      go_wp2_with (first
        | (go_at_call 10; refine (FEW.o _ r0).mono ?_; rintro e w1 ⟨rfl, h1, h01⟩)
        | (go_at_call 11; refine (LC.o.awk _ h1).mono ?_; rintro e w2 ⟨rfl, h2, _⟩))
      go_ret
      exact ⟨rfl, LC.o.up _ h2⟩
    · have d1 : decide ((20 : Int) < (nd : Int)) = false := decide_eq_false (by omega)
      have GOF := As.mk (LC.o.gof hf)
      have HOF := As.mk (LC.o.hof hf)
      have GAI : As (∀ W : World, Below W0.heap.size W0 W → Calls Try.prog 25 #[.agg (goalCells g A1 c1 A2 c2 A3 c3), .slice A4 list.length c4, .slice A5 nd c5, .int .i64 dv] W fun e w' => e = .returned (.tuple #[.int .i64 (gainP g list devs dv), .int .i64 (checkOf g list)]) ∧ Below W0.heap.size W0 w' ∧ Below W.heap.size W w') := ⟨fun W hW => (gain_any g A1 c1 A2 c2 A3 c3 A4 c4 list A5 nd c5 devs W dv (LC.o.gg W hW) (LC.o.ll W hW) (row_up HD.o (LC.o.up W hW))).mono fun e w' ⟨he, hb⟩ => ⟨he, bthen hW hb (Nat.le_refl _), hb⟩⟩
      have GRE : As (∀ W : World, Below W0.heap.size W0 W → Calls Try.prog 26 #[.agg (goalCells g A1 c1 A2 c2 A3 c3), .slice A4 list.length c4] W fun e w' => ∃ A c out, e = .returned (.tuple #[.slice A out.length c, .int .i64 (possOf g list)]) ∧ IsGreedy g list out ∧ Row (Kn.int .i64) w' (fun _ => True) A out.length out ∧ Below W0.heap.size W0 w' ∧ Below W.heap.size W w') := ⟨fun W hW => (greedy_any g A1 c1 A2 c2 A3 c3 A4 c4 list W (LC.o.gg W hW) (LC.o.ll W hW)).mono fun e w' ⟨A, c, out, he, hi, _, hr, hb⟩ => ⟨A, c, out, he, hi, hr.mono fun _ _ => trivial, bthen hW hb (Nat.le_refl _), hb⟩⟩
      clear hf
      rcases hv with hv | hv
      · have HV := As.mk hv
        have dv' := decide_eq_true hv
        rw [checkOf_yes hv] at GAI
        have HGN : As (gainP g list devs dv = lackSum g list devs - lackSum g list (devs ++ [dv])) := ⟨if_pos hv⟩
        have bd1 := lackSum_bd (list := list) (devs := devs) hv.modest
        have bd2 := lackSum_bd (list := list) (devs := devs ++ [dv]) hv.modest
        have HUN : As (∀ a b, possOf g list = 0 → IsGreedy g list a → IsGreedy g list b → a = b) := ⟨fun a b h0 ha hb => by
          obtain ⟨m, h1, e1⟩ := ha.1 h0
          obtain ⟨k, h2, e2⟩ := hb.1 h0
          rw [e1, e2, grTo_one m k h1 h2]⟩
        have HNO : As (∀ a, possOf g list ≠ 0 → IsGreedy g list a → a = []) := ⟨fun a h0 ha => ha.2 h0⟩
        have REFG := As.mk fun (h0 : possOf g list = 0) (W : World) (B : Option Addr) (d : Nat) (B4 : Option Addr) (d4 : Nat) (h1 : GoalIn W (fun k => k < W.heap.size) g B d A2 c2 A3 c3) (h2 : Row kHold W (fun k => k < W.heap.size) B4 list.length list) => refGreedy_any g B d A2 c2 A3 c3 B4 d4 list W h1 h2 h0
        have INT : As (∀ (W : World) (A B : Option Addr) (n c c' : Nat) (xs : List Int), Row (Kn.int .i64) W (fun _ => True) A n xs → Row (Kn.int .i64) W (fun _ => True) B n xs → Calls Try.prog 18 #[.slice A n c, .slice B n c'] W fun e w' => e = .returned (.bool true) ∧ Below W.heap.size W w') := ⟨fun W A B n c c' xs h1 h2 => by
          have := ints_any A B n c n c' _ xs xs W h1 h2
          rwa [decide_eq_true rfl] at this⟩
        clear hv
        go_enter Try.func6, Try.ntmps6
        go_upto_region 1 with (fail)
        rw [← HW0.o]
        go_upto_region 6 with (first
          | (go_at_call 10; refine (FEW.o _ r0).mono ?_; rintro e w1 ⟨rfl, h1, h01⟩; obtain ⟨a0, a1, a2, a3, a4, al⟩ := LC.o.box w1 h1)
          | (go_at_call 25; refine (GAI.o _ h1).mono ?_; rintro e w2 ⟨rfl, h2, h12⟩; obtain ⟨a0, a1, a2, a3, a4, al⟩ := LC.o.box w2 h2)
          | (go_at_call 26; refine (GRE.o _ h2).mono ?_; rintro e w3 ⟨Af, cf, F, rfl, hif, hrf, h3, h23⟩; obtain ⟨a0, a1, a2, a3, a4, al⟩ := LC.o.box w3 h3)
          | (go_at_call 14; refine (GOF.o _ h3).mono ?_; rintro e w4 ⟨Bg, dg, rfl, hg4, h4, h34⟩)
          | (go_at_call 15; refine (HOF.o _ h4).mono ?_; rintro e w5 ⟨Bh, dh, rfl, hdh, hl5, h5, h45⟩))
        have RC := As.mk (refCtx g A2 c2 A3 c3 list hg4 h45 hl5 hdh)
        obtain ⟨W6, hW6⟩ : ∃ W6 : World, W6 = w5.alloc (.cells (goalCells g Bg dg A2 c2 A3 c3) 38) := ⟨_, rfl⟩
        rw [← hW6] at RC
        rw [← hW6]
        have h56 : Below w5.heap.size w5 W6 := by rw [hW6]; exact (Below.refl _ _).alloc (Nat.le_refl _) _
        have H6 := As.mk (bthen h5 h56 (Nat.le_refl _))
        have HRF6 := As.mk (((hrf.below h34).below h45).below h56)
        have HIF := As.mk hif
        obtain ⟨b0, b1, b2, b3, b4⟩ := RC.o.box W6 (Below.refl _ _)
        have r6 : Below W6.heap.size W6 W6 := Below.refl _ _
        have CH6 := As.mk (RC.o.chk W6 r6)
        rw [dv'] at CH6
        have SUM : As (∀ W, Below W6.heap.size W6 W → ∀ (B : Option Addr) (n c : Nat) (s : List Int), Row (Kn.int .i64) W (fun _ => True) B n s → Calls Try.prog 27 #[.agg (goalCells g Bg dg A2 c2 A3 c3), .slice Bh list.length dh, .slice B n c] W fun e w' => e = .returned (.int .i64 (lackSum g list s)) ∧ Below W.heap.size W w') :=
          ⟨fun W hW B n c s hr => sum_any g Bg dg A2 c2 A3 c3 Bh list.length dh list B n c s (fun _ => True) W ⟨(RC.o.gg W hW).n.mono fun _ _ => trivial, (RC.o.gg W hW).cn, (RC.o.gg W hW).p.mono fun _ _ => trivial, (RC.o.gg W hW).cp, (RC.o.gg W hW).s.mono fun _ _ => trivial, (RC.o.gg W hW).cs⟩ ((RC.o.ll W hW).mono fun _ _ => trivial) hr HV.o.modest⟩
        have DEV6 : As (∀ W, Below W6.heap.size W6 W → Row (Kn.int .i64) W (fun k => k < W.heap.size) A5 nd devs) := ⟨fun W hW => row_up HD.o (LC.o.up W (bthen H6.o hW (Nat.le_refl _)))⟩
        clear hW6 hg4 hl5 hdh hrf hif a0 a1 a2 a3 a4 al GAI GRE GOF HOF FEW dv' h56 h45 h34 h23 h12 h01 h5 h4 h3 h2 h1
        go_upto_region 8 with (go_at_call 20; refine CH6.o.mono ?_; rintro e w7 ⟨rfl, h7, _⟩; obtain ⟨b0, b1, b2, b3, b4⟩ := RC.o.box w7 h7)
        have H7 := As.mk h7
        have H07 : As (Below W0.heap.size W0 w7) := ⟨bthen H6.o h7 (Nat.le_refl _)⟩
        have HRF7 := As.mk (HRF6.o.below h7)
        have HLD : (devs ++ [dv]).length = nd + 1 := by rw [List.length_append, hndl]; rfl
        clear CH6 HRF6
        rw [HGN.o]
        generalize hs1 : lackSum g list devs = s1 at *
        generalize hs2 : lackSum g list (devs ++ [dv]) = s2 at *
        generalize hbb : w5.heap.size = bb at *
        clear hbb
        have gx : ∀ W, Below w7.heap.size w7 W → W.cell? ⟨bb, 0, none⟩ = some (.slice Bg g.needs.length dg) ∧ W.cell? ⟨bb, 1, none⟩ = some (.int .i64 g.thr) ∧ W.cell? ⟨bb, 2, none⟩ = some (.bool g.index) ∧ W.cell? ⟨bb, 3, none⟩ = some (.slice A2 g.pieces.length c2) ∧ W.cell? ⟨bb, 4, none⟩ = some (.slice A3 g.shares.length c3) := fun W hW => RC.o.box W (bthen H7.o hW (Nat.le_refl _))
        have SUM1 : As (∀ W, Below w7.heap.size w7 W → Calls Try.prog 27 #[.agg (goalCells g Bg dg A2 c2 A3 c3), .slice Bh list.length dh, .slice A5 nd c5] W fun e w' => e = .returned (.int .i64 s1) ∧ Below W.heap.size W w') := ⟨fun W hW => by have h := bthen H7.o hW (Nat.le_refl _); have := SUM.o W h A5 nd c5 devs ((DEV6.o W h).mono fun _ _ => trivial); rwa [hs1] at this⟩
        have SUM2 : As (∀ W, Below w7.heap.size w7 W → ∀ (B : Option Addr) (c : Nat), Row (Kn.int .i64) W (fun _ => True) B (nd + 1) (devs ++ [dv]) → Calls Try.prog 27 #[.agg (goalCells g Bg dg A2 c2 A3 c3), .slice Bh list.length dh, .slice B (nd + 1) c] W fun e w' => e = .returned (.int .i64 s2) ∧ Below W.heap.size W w') := ⟨fun W hW B c hr => by have h := bthen H7.o hW (Nat.le_refl _); have := SUM.o W h B (nd + 1) c (devs ++ [dv]) hr; rwa [hs2] at this⟩
        have DEV7 : As (∀ W, Below w7.heap.size w7 W → Row (Kn.int .i64) W (fun k => k < W.heap.size) A5 nd devs) := ⟨fun W hW => DEV6.o W (bthen H7.o hW (Nat.le_refl _))⟩
        have hwr : IntKind.i64.wrap (s1 - s2) = s1 - s2 := IntWalk.i64_in _ (by omega)
        have dzz : ((s1 - s2) != (s1 - s2)) = false := by simp
        refine wp_region_facts2 (fun i => 66 + i) (fun j => j == 19) (G6 g A2 c2 A3 c3 list A5 nd c5 devs Bg dg Bh dh w7.heap.size (s1 - s2) s1 s2 dv) (T6 w7.heap.size) (fun W => Below w7.heap.size w7 W) (by kernel_rfl) (by kernel_rfl) (Below.refl _ _).drew ?hI ?hG ?hinj ?step ?rest
        case hI =>
          intro i u u' hT hI
          unfold T6 at hT
          by_cases e12 : i = 12
          · rw [if_pos e12] at hT
            exact hI.trans (hT.below hI.size)
          · rw [if_neg e12] at hT
            by_cases e15 : i = 15
            · rw [if_pos e15] at hT
              exact hI.trans hT
            · rw [if_neg e15] at hT
              exact bthen hI hT (Nat.le_refl _)
        case hG =>
          intro i j v u u' hne hdp hlive hT h
          refine G6.keep g A2 c2 A3 c3 list A5 nd c5 devs ?_ ?_ ?_ ?_ ?_ hne hT h
          · rintro ⟨rfl, rfl⟩
            rcases hlive with h | ⟨k, hk, hk2, hk4, hk3⟩
            · exact absurd h (by decide)
            · exact hk2 (deps_one (j := 10) (i := 12) (by kernel_rfl) hk hk3)
          · rintro ⟨rfl, rfl⟩
            exact absurd hdp (by rw [show depB _ 15 12 = true by kernel_rfl]; decide)
          · rintro ⟨rfl, rfl⟩
            rcases hlive with h | ⟨k, hk, hk2, hk4, hk3⟩
            · exact absurd h (by decide)
            · exact hk2 (deps_one (j := 12) (i := 15) (by kernel_rfl) hk hk3)
          · rintro ⟨rfl, rfl⟩
            rcases hlive with h | ⟨k, hk, hk2, hk4, hk3⟩
            · exact absurd h (by decide)
            · exact hk2 (deps_one (j := 14) (i := 15) (by kernel_rfl) hk hk3)
          · rintro ⟨rfl, rfl⟩
            rcases hlive with h | ⟨k, hk, hk2, hk4, hk3⟩
            · exact absurd h (by decide)
            · have e := deps_one (j := 10) (i := 12) (by kernel_rfl) hk hk3
              subst e
              exact absurd hk4 (by rw [show depB _ 15 12 = true by kernel_rfl]; decide)
        case hinj =>
          intro i j _ _ h
          have h : 66 + i = 66 + j := h
          omega
        case step =>
          intro i o ho a' w' hF hI hd
          have hi : i < 20 := (List.getElem?_eq_some_iff.1 ho).1
          have hsz : a'.tmps.size = 114 := hF.size
          have far : ∀ s, s < 66 → ∀ j, j < 20 → 66 + j ≠ s := fun s h j hj => by omega
          obtain ⟨g0, g1, g2, g3, g4⟩ := gx w' hI
          rcases (show i = 0 ∨ i = 1 ∨ i = 2 ∨ i = 3 ∨ i = 4 ∨ i = 5 ∨ i = 6 ∨ i = 7 ∨ i = 8 ∨ i = 9 ∨ i = 10 ∨ i = 11 ∨ i = 12 ∨ i = 13 ∨ i = 14 ∨ i = 15 ∨ i = 16 ∨ i = 17 ∨ i = 18 ∨ i = 19 by omega) with rfl | rfl | rfl | rfl | rfl | rfl | rfl | rfl | rfl | rfl | rfl | rfl | rfl | rfl | rfl | rfl | rfl | rfl | rfl | rfl
          all_goals (simp only [List.getElem?_cons_zero, List.getElem?_cons_succ, Option.some.injEq] at ho; subst ho)
          · skip
            have e10 : a'.eval (.tmp 10) = .int .i64 0 := hF.far 10 (far 10 (by omega))
            refine ⟨unguarded rfl, ?_⟩
            refine Yields.run rfl (by rw [hsz]; decide) (w' := w') (v := .int .i64 0) ?_ ⟨t6_same (by decide) (by decide) (Below.refl _ _), rfl⟩
            obtain ⟨E, hE⟩ : ∃ E, E = a'.eval := ⟨_, rfl⟩
            have ec : ∀ v, E (Operand.const v) = v := by rw [hE]; exact fun v => rfl
            have ef : ∀ f, E (Operand.func f) = .func (.func f) #[] #[] := by rw [hE]; exact fun f => rfl
            rw [← hE] at e10 ⊢
            clear hE
            first | (go_simp; done) | (go_simp; rfl)
          · skip
            have e66 : a'.eval (.tmp 66) = .int .i64 0 := hd 0 (by kernel_rfl)
            refine ⟨unguarded rfl, ?_⟩
            refine Yields.run rfl (by rw [hsz]; decide) (w' := w') (v := .bool false) ?_ ⟨t6_same (by decide) (by decide) (Below.refl _ _), rfl⟩
            obtain ⟨E, hE⟩ : ∃ E, E = a'.eval := ⟨_, rfl⟩
            have ec : ∀ v, E (Operand.const v) = v := by rw [hE]; exact fun v => rfl
            have ef : ∀ f, E (Operand.func f) = .func (.func f) #[] #[] := by rw [hE]; exact fun f => rfl
            rw [← hE] at e66 ⊢
            clear hE
            first | (go_simp; done) | (go_simp; rfl)
          · skip
            have e67 : a'.eval (.tmp 67) = .bool false := hd 1 (by kernel_rfl)
            refine ⟨unguarded rfl, ?_⟩
            refine Yields.run rfl (by rw [hsz]; decide) (w' := w') (v := .bool false) ?_ ⟨t6_same (by decide) (by decide) (Below.refl _ _), rfl⟩
            obtain ⟨E, hE⟩ : ∃ E, E = a'.eval := ⟨_, rfl⟩
            have ec : ∀ v, E (Operand.const v) = v := by rw [hE]; exact fun v => rfl
            have ef : ∀ f, E (Operand.func f) = .func (.func f) #[] #[] := by rw [hE]; exact fun f => rfl
            rw [← hE] at e67 ⊢
            clear hE
            first | (go_simp; done) | (go_simp; rfl)
          · skip
            have e9 : a'.eval (.tmp 9) = .int .i64 (s1 - s2) := hF.far 9 (far 9 (by omega))
            refine ⟨wanted_of (j := 2) rfl rfl rfl (hd 2 (by kernel_rfl)), ?_⟩
            refine Yields.run rfl (by rw [hsz]; decide) (w' := w') (v := .int .i64 (s1 - s2)) ?_ ⟨t6_same (by decide) (by decide) (Below.refl _ _), rfl⟩
            obtain ⟨E, hE⟩ : ∃ E, E = a'.eval := ⟨_, rfl⟩
            have ec : ∀ v, E (Operand.const v) = v := by rw [hE]; exact fun v => rfl
            have ef : ∀ f, E (Operand.func f) = .func (.func f) #[] #[] := by rw [hE]; exact fun f => rfl
            rw [← hE] at e9 ⊢
            clear hE
            first | (go_simp; done) | (go_simp; rfl)
          · skip
            have e13 : a'.eval (.tmp 13) = .pointer (some ⟨bb, 0, none⟩) := hF.far 13 (far 13 (by omega))
            refine ⟨wanted_of (j := 2) rfl rfl rfl (hd 2 (by kernel_rfl)), ?_⟩
            refine Yields.run rfl (by rw [hsz]; decide) (w' := w') (v := .agg (goalCells g Bg dg A2 c2 A3 c3)) ?_ ⟨t6_same (by decide) (by decide) (Below.refl _ _), rfl⟩
            obtain ⟨E, hE⟩ : ∃ E, E = a'.eval := ⟨_, rfl⟩
            have ec : ∀ v, E (Operand.const v) = v := by rw [hE]; exact fun v => rfl
            have ef : ∀ f, E (Operand.func f) = .func (.func f) #[] #[] := by rw [hE]; exact fun f => rfl
            rw [← hE] at e13 ⊢
            clear hE
            first | (go_simp; done) | (go_simp; rfl)
          · skip
            have e14 : a'.eval (.tmp 14) = .slice Bh list.length dh := hF.far 14 (far 14 (by omega))
            refine ⟨wanted_of (j := 2) rfl rfl rfl (hd 2 (by kernel_rfl)), ?_⟩
            refine Yields.run rfl (by rw [hsz]; decide) (w' := w') (v := .slice Bh list.length dh) ?_ ⟨t6_same (by decide) (by decide) (Below.refl _ _), rfl⟩
            obtain ⟨E, hE⟩ : ∃ E, E = a'.eval := ⟨_, rfl⟩
            have ec : ∀ v, E (Operand.const v) = v := by rw [hE]; exact fun v => rfl
            have ef : ∀ f, E (Operand.func f) = .func (.func f) #[] #[] := by rw [hE]; exact fun f => rfl
            rw [← hE] at e14 ⊢
            clear hE
            first | (go_simp; done) | (go_simp; rfl)
          · skip
            have e2 : a'.eval (.tmp 2) = .slice A5 nd c5 := hF.far 2 (far 2 (by omega))
            refine ⟨wanted_of (j := 2) rfl rfl rfl (hd 2 (by kernel_rfl)), ?_⟩
            refine Yields.run rfl (by rw [hsz]; decide) (w' := w') (v := .slice A5 nd c5) ?_ ⟨t6_same (by decide) (by decide) (Below.refl _ _), rfl⟩
            obtain ⟨E, hE⟩ : ∃ E, E = a'.eval := ⟨_, rfl⟩
            have ec : ∀ v, E (Operand.const v) = v := by rw [hE]; exact fun v => rfl
            have ef : ∀ f, E (Operand.func f) = .func (.func f) #[] #[] := by rw [hE]; exact fun f => rfl
            rw [← hE] at e2 ⊢
            clear hE
            first | (go_simp; done) | (go_simp; rfl)
          · skip
            have e70 : a'.eval (.tmp 70) = .agg (goalCells g Bg dg A2 c2 A3 c3) := hd 4 (by kernel_rfl)
            have e71 : a'.eval (.tmp 71) = .slice Bh list.length dh := hd 5 (by kernel_rfl)
            have e72 : a'.eval (.tmp 72) = .slice A5 nd c5 := hd 6 (by kernel_rfl)
            refine ⟨wanted_of (j := 2) rfl rfl rfl (hd 2 (by kernel_rfl)), ?_⟩
            obtain ⟨E, hE⟩ : ∃ E, E = a'.eval := ⟨_, rfl⟩
            have ec : ∀ v, E (Operand.const v) = v := by rw [hE]; exact fun v => rfl
            have ef : ∀ f, E (Operand.func f) = .func (.func f) #[] #[] := by rw [hE]; exact fun f => rfl
            refine .inl ⟨rfl, by rw [hsz]; decide, fun K hK => ?_⟩
            unfold Oper.wp
            rw [← hE] at e70 e71 e72 ⊢
            clear hE
            go_simp
            go_at_call 27; refine (SUM1.o w' hI).mono ?_; rintro e w'' ⟨rfl, hb⟩
            exact hK _ _ ⟨t6_same (by decide) (by decide) hb, rfl⟩
          · skip
            have e13 : a'.eval (.tmp 13) = .pointer (some ⟨bb, 0, none⟩) := hF.far 13 (far 13 (by omega))
            refine ⟨wanted_of (j := 2) rfl rfl rfl (hd 2 (by kernel_rfl)), ?_⟩
            refine Yields.run rfl (by rw [hsz]; decide) (w' := w') (v := .agg (goalCells g Bg dg A2 c2 A3 c3)) ?_ ⟨t6_same (by decide) (by decide) (Below.refl _ _), rfl⟩
            obtain ⟨E, hE⟩ : ∃ E, E = a'.eval := ⟨_, rfl⟩
            have ec : ∀ v, E (Operand.const v) = v := by rw [hE]; exact fun v => rfl
            have ef : ∀ f, E (Operand.func f) = .func (.func f) #[] #[] := by rw [hE]; exact fun f => rfl
            rw [← hE] at e13 ⊢
            clear hE
            first | (go_simp; done) | (go_simp; rfl)
          · skip
            have e14 : a'.eval (.tmp 14) = .slice Bh list.length dh := hF.far 14 (far 14 (by omega))
            refine ⟨wanted_of (j := 2) rfl rfl rfl (hd 2 (by kernel_rfl)), ?_⟩
            refine Yields.run rfl (by rw [hsz]; decide) (w' := w') (v := .slice Bh list.length dh) ?_ ⟨t6_same (by decide) (by decide) (Below.refl _ _), rfl⟩
            obtain ⟨E, hE⟩ : ∃ E, E = a'.eval := ⟨_, rfl⟩
            have ec : ∀ v, E (Operand.const v) = v := by rw [hE]; exact fun v => rfl
            have ef : ∀ f, E (Operand.func f) = .func (.func f) #[] #[] := by rw [hE]; exact fun f => rfl
            rw [← hE] at e14 ⊢
            clear hE
            first | (go_simp; done) | (go_simp; rfl)
          · skip
            refine ⟨wanted_of (j := 2) rfl rfl rfl (hd 2 (by kernel_rfl)), ?_⟩
            refine Yields.run rfl (by rw [hsz]; decide) (w' := w'.alloc (.cells #[] 3)) (v := .slice (some ⟨w'.heap.size, 0, none⟩) 0 0) ?_ ⟨t6_same (by decide) (by decide) ((Below.refl _ _).alloc (Nat.le_refl _) _), isEmp_new hI.size⟩
            first | (go_simp; done) | (go_simp; rfl)
          · skip
            have e2 : a'.eval (.tmp 2) = .slice A5 nd c5 := hF.far 2 (far 2 (by omega))
            refine ⟨wanted_of (j := 2) rfl rfl rfl (hd 2 (by kernel_rfl)), ?_⟩
            refine Yields.run rfl (by rw [hsz]; decide) (w' := w') (v := .slice A5 nd c5) ?_ ⟨t6_same (by decide) (by decide) (Below.refl _ _), rfl⟩
            obtain ⟨E, hE⟩ : ∃ E, E = a'.eval := ⟨_, rfl⟩
            have ec : ∀ v, E (Operand.const v) = v := by rw [hE]; exact fun v => rfl
            have ef : ∀ f, E (Operand.func f) = .func (.func f) #[] #[] := by rw [hE]; exact fun f => rfl
            rw [← hE] at e2 ⊢
            clear hE
            first | (go_simp; done) | (go_simp; rfl)
          · skip
            have e77 : a'.eval (.tmp 77) = .slice A5 nd c5 := hd 11 (by kernel_rfl)
            refine ⟨wanted_of (j := 2) rfl rfl rfl (hd 2 (by kernel_rfl)), ?_⟩
            have h10 : IsEmp w7.heap.size 3 (a'.eval (.tmp 76)) w' := hd 10 (by kernel_rfl)
            obtain ⟨X, ex, hX, hx⟩ := h10
            refine .inl ⟨rfl, by rw [hsz]; decide, fun K hK => wp_app_flat (flat_int .i64) w7.heap.size (.tmp 76) (.tmp 77) 24 (.int .i64 0) 8 rfl Try.underlying24 info_int rfl (by decide) _ [] devs A5 nd c5 ex e77 (IsEmp.own ⟨X, rfl, hX, hx⟩ (fun _ => True)) (DEV7.o w' hI) hI.size (by simp; omega) (by simp; omega) fun v1 w1 HO hg hat => hK _ _ ⟨?_, HO⟩⟩
            show T6 w7.heap.size 12 w' w1
            unfold T6
            rw [if_pos rfl]
            exact ⟨X, hX, hx, hg⟩
          · skip
            have e3 : a'.eval (.tmp 3) = .int .i64 dv := hF.far 3 (far 3 (by omega))
            refine ⟨wanted_of (j := 2) rfl rfl rfl (hd 2 (by kernel_rfl)), ?_⟩
            refine Yields.run rfl (by rw [hsz]; decide) (w' := w') (v := .int .i64 dv) ?_ ⟨t6_same (by decide) (by decide) (Below.refl _ _), rfl⟩
            obtain ⟨E, hE⟩ : ∃ E, E = a'.eval := ⟨_, rfl⟩
            have ec : ∀ v, E (Operand.const v) = v := by rw [hE]; exact fun v => rfl
            have ef : ∀ f, E (Operand.func f) = .func (.func f) #[] #[] := by rw [hE]; exact fun f => rfl
            rw [← hE] at e3 ⊢
            clear hE
            first | (go_simp; done) | (go_simp; rfl)
          · skip
            have e79 : a'.eval (.tmp 79) = .int .i64 dv := hd 13 (by kernel_rfl)
            refine ⟨wanted_of (j := 2) rfl rfl rfl (hd 2 (by kernel_rfl)), ?_⟩
            refine Yields.run rfl (by rw [hsz]; decide) (w' := w'.alloc (.cells #[.int .i64 dv] 3)) (v := .slice (some ⟨w'.heap.size, 0, none⟩) 1 1) ?_ ⟨t6_same (by decide) (by decide) ((Below.refl _ _).alloc (Nat.le_refl _) _), isLit_new hI.size⟩
            obtain ⟨E, hE⟩ : ∃ E, E = a'.eval := ⟨_, rfl⟩
            have ec : ∀ v, E (Operand.const v) = v := by rw [hE]; exact fun v => rfl
            have ef : ∀ f, E (Operand.func f) = .func (.func f) #[] #[] := by rw [hE]; exact fun f => rfl
            rw [← hE] at e79 ⊢
            clear hE
            first | (go_simp; done) | (go_simp; rfl)
          · skip
            refine ⟨wanted_of (j := 2) rfl rfl rfl (hd 2 (by kernel_rfl)), ?_⟩
            have h12 : Own (Kn.int .i64) 3 w' w7.heap.size (a'.eval (.tmp 78)) devs := hd 12 (by kernel_rfl)
            have h14 : IsLit w7.heap.size 1 #[.int .i64 dv] 3 (a'.eval (.tmp 80)) w' := hd 14 (by kernel_rfl)
            obtain ⟨A8, e80, hr8⟩ := h14.row1
            refine .inl ⟨rfl, by rw [hsz]; decide, fun K hK => wp_app_flat (flat_int .i64) w7.heap.size (.tmp 78) (.tmp 80) 24 (.int .i64 0) 8 rfl Try.underlying24 info_int rfl (by decide) _ devs [dv] A8 1 1 rfl e80 h12 hr8 hI.size (by omega) (by omega) fun v1 w1 HO hg hat => hK _ _ ⟨?_, ?_⟩⟩
            · show T6 w7.heap.size 15 w' w1
              unfold T6
              rw [if_neg (by decide), if_pos rfl]
              exact h12.base_le hg (Nat.le_refl _) hI.size
            · obtain ⟨A9, c9, e9, _, hr9⟩ := HO.shape
              rw [HLD] at e9 hr9
              exact ⟨A9, c9, e9, hr9.mono fun _ _ => trivial⟩
          · skip
            have e74 : a'.eval (.tmp 74) = .agg (goalCells g Bg dg A2 c2 A3 c3) := hd 8 (by kernel_rfl)
            have e75 : a'.eval (.tmp 75) = .slice Bh list.length dh := hd 9 (by kernel_rfl)
            refine ⟨wanted_of (j := 2) rfl rfl rfl (hd 2 (by kernel_rfl)), ?_⟩
            obtain ⟨E, hE⟩ : ∃ E, E = a'.eval := ⟨_, rfl⟩
            have ec : ∀ v, E (Operand.const v) = v := by rw [hE]; exact fun v => rfl
            have ef : ∀ f, E (Operand.func f) = .func (.func f) #[] #[] := by rw [hE]; exact fun f => rfl
            obtain ⟨A8, c8, e81, hr8⟩ : ∃ A c, a'.eval (.tmp 81) = .slice A (nd + 1) c ∧ Row (Kn.int .i64) w' (fun _ => True) A (nd + 1) (devs ++ [dv]) := hd 15 (by kernel_rfl)
            refine .inl ⟨rfl, by rw [hsz]; decide, fun K hK => ?_⟩
            unfold Oper.wp
            rw [← hE] at e74 e75 e81 ⊢
            clear hE
            go_simp
            go_at_call 27; refine (SUM2.o w' hI A8 c8 hr8).mono ?_; rintro e w'' ⟨rfl, hb⟩
            exact hK _ _ ⟨t6_same (by decide) (by decide) hb, rfl⟩
          · skip
            have e73 : a'.eval (.tmp 73) = .int .i64 s1 := hd 7 (by kernel_rfl)
            have e82 : a'.eval (.tmp 82) = .int .i64 s2 := hd 16 (by kernel_rfl)
            refine ⟨wanted_of (j := 2) rfl rfl rfl (hd 2 (by kernel_rfl)), ?_⟩
            refine Yields.run rfl (by rw [hsz]; decide) (w' := w') (v := .int .i64 (s1 - s2)) ?_ ⟨t6_same (by decide) (by decide) (Below.refl _ _), rfl⟩
            obtain ⟨E, hE⟩ : ∃ E, E = a'.eval := ⟨_, rfl⟩
            have ec : ∀ v, E (Operand.const v) = v := by rw [hE]; exact fun v => rfl
            have ef : ∀ f, E (Operand.func f) = .func (.func f) #[] #[] := by rw [hE]; exact fun f => rfl
            rw [← hE] at e73 e82 ⊢
            clear hE
            first | (go_simp; done) | (go_simp; rfl)
          · skip
            have e69 : a'.eval (.tmp 69) = .int .i64 (s1 - s2) := hd 3 (by kernel_rfl)
            have e83 : a'.eval (.tmp 83) = .int .i64 (s1 - s2) := hd 17 (by kernel_rfl)
            refine ⟨wanted_of (j := 2) rfl rfl rfl (hd 2 (by kernel_rfl)), ?_⟩
            refine Yields.run rfl (by rw [hsz]; decide) (w' := w') (v := .bool false) ?_ ⟨t6_same (by decide) (by decide) (Below.refl _ _), rfl⟩
            obtain ⟨E, hE⟩ : ∃ E, E = a'.eval := ⟨_, rfl⟩
            have ec : ∀ v, E (Operand.const v) = v := by rw [hE]; exact fun v => rfl
            have ef : ∀ f, E (Operand.func f) = .func (.func f) #[] #[] := by rw [hE]; exact fun f => rfl
            rw [← hE] at e69 e83 ⊢
            clear hE
            first | (go_simp; done) | (go_simp; rfl)
          · skip
            have e68 : a'.eval (.tmp 68) = .bool false := hd 2 (by kernel_rfl)
            have e84 : a'.eval (.tmp 84) = .bool false := hd 18 (by kernel_rfl)
            refine ⟨unguarded rfl, ?_⟩
            refine Yields.run rfl (by rw [hsz]; decide) (w' := w') (v := .bool false) ?_ ⟨t6_same (by decide) (by decide) (Below.refl _ _), rfl⟩
            obtain ⟨E, hE⟩ : ∃ E, E = a'.eval := ⟨_, rfl⟩
            have ec : ∀ v, E (Operand.const v) = v := by rw [hE]; exact fun v => rfl
            have ef : ∀ f, E (Operand.func f) = .func (.func f) #[] #[] := by rw [hE]; exact fun f => rfl
            rw [← hE] at e68 e84 ⊢
            clear hE
            first | (go_simp; done) | (go_simp; rfl)
        case rest =>
          intro a' w' hF hI hout
          have e85 : a'.tmps.getD 85 undef = .bool false := hout 19 (by decide) rfl
          rw [hF.lit [66, 67, 68, 69, 70, 71, 72, 73, 74, 75, 76, 77, 78, 79, 80, 81, 82, 83, 84, 85] (fun s hs j hj e => by have h := (by decide : ∀ j, j < 20 → ([66, 67, 68, 69, 70, 71, 72, 73, 74, 75, 76, 77, 78, 79, 80, 81, 82, 83, 84, 85] : List Nat).contains (66 + j) = true) j hj; rw [show 66 + j = s from e, hs] at h; cases h)]
          obtain ⟨ys, hys⟩ : ∃ ys : Nat → Value, ys = fun s => a'.tmps.getD s undef := ⟨_, rfl⟩
          have y85 : ys 85 = .bool false := by rw [hys]; exact e85
          rw [← hys]
          clear hys e85 hF hout
          have H8 := As.mk hI
          clear hI
          simp only [mergeA, List.contains_cons, List.contains_nil, Nat.reduceBEq, Bool.or_false, Bool.or_true, Bool.false_or, Bool.true_or, Bool.false_eq_true, if_false, if_true, ite_false, ite_true, Nat.reduceAdd]
          simp only [y85]
          clear y85
          obtain ⟨b0, b1, b2, b3, b4⟩ := gx w' H8.o
          have H78 : As (Below W6.heap.size W6 w') := ⟨bthen H7.o H8.o (Nat.le_refl _)⟩
          have H08 : As (Below W0.heap.size W0 w') := ⟨bthen H07.o H8.o (Nat.le_refl _)⟩
          have HRF8 := As.mk (HRF7.o.below H8.o)
          have SU8 := As.mk (RC.o.suf w' H78.o)
          have AWK := As.mk LC.o.awk
          clear SUM1 SUM2 SUM DEV6 DEV7 gx H8 HRF7 bd1 bd2
          by_cases hz : possOf g list = 0
          · have REF8 := As.mk (REFG.o hz)
            have HUN8 := As.mk fun a b => HUN.o a b hz
            have GGB := As.mk RC.o.gg
            have LLB := As.mk RC.o.ll
            have BXB := As.mk RC.o.box
            rw [hz] at SU8 ⊢
            clear hz HUN HNO REFG RC
            go_wp2_with (first
              | (go_at_call 16; refine SU8.o.mono ?_; rintro e w9 ⟨rfl, h9, h89⟩; have h09 := bthen H08.o h89 (Nat.le_refl _))
              | (go_at_call 11; refine (AWK.o w9 h09).mono ?_; rintro e w10 ⟨rfl, h10, h910⟩; have h6a := bthen h9 h910 (Nat.le_refl _); obtain ⟨b0, b1, b2, b3, b4⟩ := BXB.o w10 h6a)
              | (go_at_call 28; refine (REF8.o w10 Bg dg Bh dh (GGB.o w10 h6a) (LLB.o w10 h6a)).mono ?_; rintro e w11 ⟨A9, c9, F9, rfl, hi9, _, hr9, hb9⟩; obtain rfl := HUN8.o _ _ HIF.o hi9; have h0b := bthen h10 hb9 (Nat.le_refl _))
              | (go_at_call 18; refine (INT.o w11 Af A9 F.length cf c9 F ((((HRF8.o.below h89).below h910).below hb9)) (hr9.mono fun _ _ => trivial)).mono ?_; rintro e w12 ⟨rfl, h12⟩))
            go_ret
            exact ⟨rfl, LC.o.up _ (bthen h0b h12 (Nat.le_refl _))⟩
          · have hF0 := HNO.o F hz HIF.o
            subst hF0
            have d5 : (possOf g list != 0) = true := by simp [hz]
            have d6 : (possOf g list == possOf g list) = true := beq_self_eq_true _
            clear hz HUN HNO REFG RC HIF
            generalize possOf g list = r at *
            go_wp2_with (first
              | (go_at_call 16; refine SU8.o.mono ?_; rintro e w9 ⟨rfl, h9, h89⟩; have h09 := bthen H08.o h89 (Nat.le_refl _))
              | (go_at_call 11; refine (AWK.o w9 h09).mono ?_; rintro e w10 ⟨rfl, h10, h910⟩))
            go_ret
            exact ⟨rfl, LC.o.up _ h10⟩
      · rw [checkOf_no hv] at GAI
        have dv' := decide_eq_false hv
        have hgz : gainP g list devs dv = 0 := if_neg hv
        have hpo : possOf g list = 1 := possOf_no hv
        have HNO : As (∀ a, IsGreedy g list a → a = []) := ⟨fun a ha => ha.2 (by rw [hpo]; decide)⟩
        rw [hgz] at GAI
        rw [hpo] at GRE
        clear hv hgz hpo
        go_enter Try.func6, Try.ntmps6
        go_upto_region 1 with (fail)
        rw [← HW0.o]
        go_upto_region 6 with (first
          | (go_at_call 10; refine (FEW.o _ r0).mono ?_; rintro e w1 ⟨rfl, h1, h01⟩; obtain ⟨a0, a1, a2, a3, a4, al⟩ := LC.o.box w1 h1)
          | (go_at_call 25; refine (GAI.o _ h1).mono ?_; rintro e w2 ⟨rfl, h2, h12⟩; obtain ⟨a0, a1, a2, a3, a4, al⟩ := LC.o.box w2 h2)
          | (go_at_call 26; refine (GRE.o _ h2).mono ?_; rintro e w3 ⟨Af, cf, F, rfl, hif, hrf, h3, h23⟩; obtain rfl := HNO.o _ hif; obtain ⟨a0, a1, a2, a3, a4, al⟩ := LC.o.box w3 h3)
          | (go_at_call 14; refine (GOF.o _ h3).mono ?_; rintro e w4 ⟨Bg, dg, rfl, hg4, h4, h34⟩)
          | (go_at_call 15; refine (HOF.o _ h4).mono ?_; rintro e w5 ⟨Bh, dh, rfl, hdh, hl5, h5, h45⟩))
        have RC := As.mk (refCtx g A2 c2 A3 c3 list hg4 h45 hl5 hdh)
        obtain ⟨W6, hW6⟩ : ∃ W6 : World, W6 = w5.alloc (.cells (goalCells g Bg dg A2 c2 A3 c3) 38) := ⟨_, rfl⟩
        rw [← hW6] at RC
        rw [← hW6]
        have h56 : Below w5.heap.size w5 W6 := by rw [hW6]; exact (Below.refl _ _).alloc (Nat.le_refl _) _
        have H6 := As.mk (bthen h5 h56 (Nat.le_refl _))
        obtain ⟨b0, b1, b2, b3, b4⟩ := RC.o.box W6 (Below.refl _ _)
        have CH6 := As.mk (RC.o.chk W6 (Below.refl _ _))
        rw [dv'] at CH6
        clear hW6 hg4 hl5 hdh hrf hif a0 a1 a2 a3 a4 al GAI GRE GOF HOF FEW dv' h56 h45 h34 h23 h12 h01 h5 h4 h3 h2 h1
        go_wp2_with (first
          | (go_at_call 20; refine CH6.o.mono ?_; rintro e w7 ⟨rfl, h7, _⟩)
          | (go_at_call 11; refine (LC.o.awk _ (bthen H6.o h7 (Nat.le_refl _))).mono ?_; rintro e w8 ⟨rfl, h8, _⟩))
        go_ret
        exact ⟨rfl, LC.o.up _ h8⟩
  · rw [decide_eq_false hf] at FEW
    clear hf hv
    go_enter Try.func6, Try.ntmps6
    go_upto_region 1 with (fail)
    rw [← HW0.o]
    go_wp2_with (first
      | (go_at_call 10; refine (FEW.o _ r0).mono ?_; rintro e w1 ⟨rfl, h1, h01⟩)
      | (go_at_call 11; refine (LC.o.awk _ h1).mono ?_; rintro e w2 ⟨rfl, h2, _⟩))
    go_ret
    exact ⟨rfl, LC.o.up _ h2⟩
end
end Go.Proofs.Ytlinhckgdfhppaa
