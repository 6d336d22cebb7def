import Derived.Test.YtlinhckgdfhppaaM10
import Derived.WalkMore
import Derived.Test.YtlinhckgdfhppaaK11
set_option linter.unusedSimpArgs false
set_option linter.unusedVariables false
namespace Go.Proofs.Ytlinhckgdfhppaa
open Go Go.RowKit Go.Proofs.YtlinhckgdfhppaaK
attribute [local go_sem high] eq_piece

theorem refAcc_len (g : Goal) (d : Int) (acc : List Piece × List Fetch) (ps : List Piece) (a b : Nat) (h : acc.1.length ≤ a ∧ acc.2.length ≤ b) : ∀ m, m ≤ ps.length → (refAcc g d acc ps m).1.length ≤ a + m ∧ (refAcc g d acc ps m).2.length ≤ b + m
  | 0, _ => by simpa [refAcc] using h
  | m + 1, hm => by
    have h1 := refAcc_len g d acc ps a b h m (by omega)
    rw [refAcc_succ g d acc ps m (by omega)]
    have h2 := refStep_len g d (refAcc g d acc ps m) (pg ps m)
    omega
theorem haveG_modest {g : Goal} (h : Modest g) (hv : List Piece) : Modest (haveG g hv) := ⟨h.needs, by simp [haveG], h.len⟩
theorem lackNeeds_have (g : Goal) (hv : List Piece) (q : Nat) (hq : q < g.needs.length) : ig (lackNeeds (haveG g hv) [] []) q = lackNeed (haveG g hv) [] [] (pg g.needs q) := by
  have h1 : q < (lackNeeds (haveG g hv) [] []).length := by simpa [lackNeeds, haveG] using hq
  rw [ig_eq _ _ h1, pg_eq _ _ hq]
  simp [lackNeeds, haveG]
/-- What the operations yield that lay the kept goal. -/
def GF (W0 : World) (gb B : Nat) (A1 : Option Addr) (n c1 : Nat) (A2 : Option Addr) (c2 : Nat) (ps : List Piece) (v0 : Value) (j : Nat) (vs : Nat → Value) (w : World) : Prop :=
  match j with
  | 0 => vs 0 = .pointer (some ⟨gb, 0, none⟩)
  | 1 => vs 1 = .slice A1 n c1
  | 2 => IsEmp B 52 (vs 2) w
  | 3 => vs 3 = .pointer (some ⟨gb, 3, none⟩)
  | 4 => vs 4 = .slice A2 ps.length c2
  | 5 => ∃ A c, vs 5 = .slice A ps.length c ∧ Own kPiece 52 w B (.slice A ps.length c) ps
  | 6 => ∃ A c, vs 6 = .agg #[.slice A1 n c1, .int .i64 0, .bool false, .slice A ps.length c, .slice none 0 0] ∧ Own kPiece 52 w B (.slice A ps.length c) ps
  | 7 => IsBox 5 38 B (vs 7) w
  | 8 => ∃ k vh, vs 7 = .pointer (some ⟨k, 0, none⟩) ∧ RF W0 k A1 n c1 ps [] vh v0 w
  | _ => True
def TF (B : Nat) (i : Nat) (w w' : World) : Prop := if i = 5 then AppEmp B 52 w w' else if i = 8 then Wrote B 38 w w' else Below w.heap.size w w'
theorem tf_same {B i : Nat} {w w' : World} (h : i ≠ 5) (h' : i ≠ 8) (hb : Below w.heap.size w w') : TF B i w w' := by
  unfold TF
  rw [if_neg h, if_neg h']
  exact hb
theorem TF.below {B i : Nat} {w w' : World} (h : TF B i w w') (hb : B ≤ w.heap.size) : Below B w w' := by
  unfold TF at h
  by_cases e5 : i = 5
  · rw [if_pos e5] at h
    exact h.below hb
  · rw [if_neg e5] at h
    by_cases e8 : i = 8
    · rw [if_pos e8] at h
      exact h.below hb
    · rw [if_neg e8] at h
      exact h.mono hb
theorem GF.keep {W0 : World} {gb B : Nat} {A1 : Option Addr} {n c1 : Nat} {A2 : Option Addr} {c2 : Nat} {ps : List Piece} {v0 : Value} {i j : Nat} {vs : Nat → Value} {w w' : World} (hji : j ≠ i) (h52 : ¬ (i = 5 ∧ j = 2)) (h56 : ¬ (i = 5 ∧ j = 6)) (h58 : ¬ (i = 5 ∧ j = 8)) (h87 : ¬ (i = 8 ∧ j = 7)) (hT : TF B i w w')
    (h : GF W0 gb B A1 n c1 A2 c2 ps v0 j vs w) : GF W0 gb B A1 n c1 A2 c2 ps v0 j vs w' := by
  unfold TF at hT
  by_cases e5 : i = 5
  · rw [if_pos e5] at hT
    unfold GF at h ⊢
    split at h <;> first | exact h | exact absurd ⟨e5, rfl⟩ h52 | exact absurd ⟨e5, rfl⟩ h56 | exact absurd ⟨e5, rfl⟩ h58 | exact absurd e5.symm hji | exact h.wrote hT.wrote (by decide)
  · rw [if_neg e5] at hT
    by_cases e8 : i = 8
    · rw [if_pos e8] at hT
      unfold GF at h ⊢
      split at h <;> first | exact h | exact absurd ⟨e8, rfl⟩ h87 | exact absurd e8.symm hji | exact h.wrote hT (by decide) | (obtain ⟨A, c, e, ho⟩ := h; exact ⟨A, c, e, ho.wrote flat_piece hT (by decide)⟩)
    · rw [if_neg e8] at hT
      unfold GF at h ⊢
      split at h <;> first | exact h | exact h.below hT | (obtain ⟨A, c, e, ho⟩ := h; exact ⟨A, c, e, ho.below hT⟩)
theorem GF.same {W0 : World} {gb B : Nat} {A1 : Option Addr} {n c1 : Nat} {A2 : Option Addr} {c2 : Nat} {ps : List Piece} {v0 : Value} {j : Nat} {vs vs' : Nat → Value} {w : World} (h1 : vs j = vs' j) (h2 : j = 8 → vs 7 = vs' 7) (h : GF W0 gb B A1 n c1 A2 c2 ps v0 j vs w) : GF W0 gb B A1 n c1 A2 c2 ps v0 j vs' w := by
  unfold GF at h ⊢
  split at h <;> first | (rw [← h1]; exact h) | (rw [← h2 rfl]; exact h) | exact trivial
section
variable (g : Goal) (A1 : Option Addr) (c1 : Nat) (A2 : Option Addr) (c2 : Nat) (A3 : Option Addr) (c3 : Nat) (A4 : Option Addr) (c4 : Nat) (list : List Hold) (A5 : Option Addr) (nd c5 : Nat) (devs : List Int) (w : World)
set_option maxRecDepth 100000 in
set_option maxHeartbeats 4000000 in
theorem refFetches_any (hg : GoalIn w (fun k => k < w.heap.size) g A1 c1 A2 c2 A3 c3) (hl : Row kHold w (fun k => k < w.heap.size) A4 list.length list) (hd : Row (Kn.int .i64) w (fun k => k < w.heap.size) A5 nd devs) (hc5 : nd ≤ c5) (hnd : nd ≤ 1000) (hpl : ∀ h ∈ list, h.pieces.length ≤ 1000) (hgp : g.pieces.length ≤ 1000) (hM : Modest g) :
    Calls Try.prog 21 #[.agg (goalCells g A1 c1 A2 c2 A3 c3), .slice A4 list.length c4, .slice A5 nd c5] w fun e w' => ∃ v, e = .returned v ∧ Own kFetch 54 w' w.heap.size v (refFetchesOf g list devs) ∧ Below w.heap.size w w' := by
  have HG := As.mk hg
  have HL := As.mk hl
  have HD := As.mk hd
  have HM := As.mk hM
  have hndm := hd.2.1
  have hnlm := hl.2.1
  clear hg hl hd hM
  go_enter Try.func21, Try.ntmps21
  go_upto_region 1 with (fail)
  obtain ⟨W0, hW0⟩ : ∃ W0 : World, W0 = w.alloc (.cells (goalCells g A1 c1 A2 c2 A3 c3) 38) := ⟨_, rfl⟩
  rw [← hW0]
  have X0 : As (W0.heap[w.heap.size]? = some (.cells (goalCells g A1 c1 A2 c2 A3 c3) 38 (0, 0))) := ⟨by rw [hW0]; exact heap_alloc_new w _⟩
  have HB0 : As (Below w.heap.size w W0) := ⟨by rw [hW0]; exact (Below.refl w.heap.size w).alloc (Nat.le_refl _) _⟩
  have HS0 : As (W0.heap.size = w.heap.size + 1) := ⟨by rw [hW0]; simp⟩
  have a0 : W0.cell? ⟨w.heap.size, 0, none⟩ = some (.slice A1 g.needs.length c1) := (cell_of_row _ _ 0 _ _ _ X0.o).trans rfl
  have a3 : W0.cell? ⟨w.heap.size, 3, none⟩ = some (.slice A2 g.pieces.length c2) := (cell_of_row _ _ 3 _ _ _ X0.o).trans rfl
  clear hW0
  go_upto_region 2 with (fail)
  obtain ⟨W1, hW1⟩ : ∃ W1 : World, W1 = W0.alloc (.cells #[] 54) := ⟨_, rfl⟩
  rw [← hW1]
  have HB1 : As (Below W0.heap.size W0 W1) := ⟨by rw [hW1]; exact (Below.refl _ _).alloc (Nat.le_refl _) _⟩
  have HS1 : As (W1.heap.size = W0.heap.size + 1) := ⟨by rw [hW1]; simp⟩
  have HOV : As (Own kFetch 54 W1 W0.heap.size (.slice (some ⟨W0.heap.size, 0, none⟩) 0 0) []) := ⟨by rw [hW1]; exact Own.empty _ _ _ _ (Nat.le_refl _)⟩
  have b0 := (HB1.o.cell (p := ⟨w.heap.size, 0, none⟩) (blk_lt X0.o)).trans a0
  have b3 := (HB1.o.cell (p := ⟨w.heap.size, 3, none⟩) (blk_lt X0.o)).trans a3
  clear hW1 a0 a3
  go_cut [7, 8] (fun v p wx => ∃ hb vh, p = .pointer (some ⟨hb, 0, none⟩) ∧ As (RF W0 hb A1 g.needs.length c1 g.pieces [] vh v wx))
  case first =>
    have hlw : w.heap.size < W1.heap.size := by have h1 := HS0.o; have h2 := HS1.o; omega
    have HP1 := As.mk ((HG.o.p.below HB0.o).below HB1.o)
    have hq1 : W0.heap.size < W1.heap.size := by have h2 := HS1.o; omega
    refine wp_region_facts3 (fun i => if i = 7 then 8 else if i = 8 then 200 else 18 + i) (fun a b => [(1, 0), (4, 3), (5, 2), (5, 4), (6, 1), (6, 5), (8, 6), (8, 7)].contains (a, b)) ?fnd (fun j => j == 8) (GF W0 w.heap.size W1.heap.size A1 g.needs.length c1 A2 c2 g.pieces (.slice (some ⟨W0.heap.size, 0, none⟩) 0 0)) (TF W1.heap.size) (fun W => Below W1.heap.size W1 W) (by kernel_rfl) (by kernel_rfl) (Below.refl _ _).drew ?fI ?fG ?floc ?finj ?fstep ?frest
    case fnd =>
      intro i j hi hn
      have hi : i < 9 := hi
      have hm : (i, j) ∈ [(1, 0), (4, 3), (5, 2), (5, 4), (6, 1), (6, 5), (8, 6), (8, 7)] := by simpa using hn
      simp only [List.mem_cons, List.not_mem_nil, or_false, Prod.mk.injEq] at hm
      rcases hm with ⟨rfl, rfl⟩ | ⟨rfl, rfl⟩ | ⟨rfl, rfl⟩ | ⟨rfl, rfl⟩ | ⟨rfl, rfl⟩ | ⟨rfl, rfl⟩ | ⟨rfl, rfl⟩ | ⟨rfl, rfl⟩ <;> (show depB _ _ _ = true; kernel_rfl)
    case fI => exact fun i u u' hT hI => hI.trans (hT.below hI.size)
    case fG =>
      intro i j v u u' hne ⟨L, hLj, hLi, hL⟩ hlive hT h
      refine GF.keep hne ?_ ?_ ?_ ?_ hT h
      · rintro ⟨rfl, rfl⟩
        rcases hlive with h | ⟨k, hk, hk2, hk4, hk3⟩
        · exact absurd h (by decide)
        · exact hk2 ((by decide : ∀ k, k < 9 → [(1, 0), (4, 3), (5, 2), (5, 4), (6, 1), (6, 5), (8, 6), (8, 7)].contains (k, 2) = true → k = 5) k hk hk3)
      · rintro ⟨rfl, rfl⟩
        have := hL 6 5 (by decide) hLj (by kernel_rfl)
        rw [hLi] at this
        cases this
      · rintro ⟨rfl, rfl⟩
        have := hL 6 5 (by decide) (hL 8 6 (by decide) hLj (by kernel_rfl)) (by kernel_rfl)
        rw [hLi] at this
        cases this
      · rintro ⟨rfl, rfl⟩
        rcases hlive with h | ⟨k, hk, hk2, hk4, hk3⟩
        · exact absurd h (by decide)
        · exact hk2 ((by decide : ∀ k, k < 9 → [(1, 0), (4, 3), (5, 2), (5, 4), (6, 1), (6, 5), (8, 6), (8, 7)].contains (k, 7) = true → k = 8) k hk hk3)
    case floc =>
      intro j v v' u h hg
      exact GF.same (h j (.inl rfl)) (fun e => by subst e; exact h 7 (.inr (by kernel_rfl))) hg
    case finj =>
      intro i j hi hj h
      have hi : i < 9 := hi
      have hj : j < 9 := hj
      have h : (if i = 7 then 8 else if i = 8 then 200 else 18 + i) = (if j = 7 then 8 else if j = 8 then 200 else 18 + j) := h
      split at h <;> split at h <;> (try split at h) <;> (try split at h) <;> omega
    case fstep =>
      intro i o ho a' w' hF hI hd
      have hi : i < 9 := (List.getElem?_eq_some_iff.1 ho).1
      have hsz : a'.tmps.size = 118 := hF.size
      have far : ∀ s, s ≠ 8 → s < 18 → ∀ j, j < 9 → (if j = 7 then 8 else if j = 8 then 200 else 18 + j) ≠ s := fun s h1 h2 j hj => by split <;> (try split) <;> omega
      have q0 : w'.cell? ⟨w.heap.size, 0, none⟩ = some (.slice A1 g.needs.length c1) := (hI.cell (p := ⟨w.heap.size, 0, none⟩) hlw).trans b0
      have q3 : w'.cell? ⟨w.heap.size, 3, none⟩ = some (.slice A2 g.pieces.length c2) := (hI.cell (p := ⟨w.heap.size, 3, none⟩) hlw).trans b3
      rcases (show i = 0 ∨ i = 1 ∨ i = 2 ∨ i = 3 ∨ i = 4 ∨ i = 5 ∨ i = 6 ∨ i = 7 ∨ i = 8 by omega) with rfl | rfl | rfl | rfl | rfl | rfl | rfl | rfl | rfl
      all_goals (simp only [List.getElem?_cons_zero, List.getElem?_cons_succ, Option.some.injEq] at ho; subst ho)
      · skip
        have e3 : a'.eval (.tmp 3) = .pointer (some ⟨w.heap.size, 0, none⟩) := hF.far 3 (far 3 (by decide) (by decide))
        refine ⟨unguarded rfl, Yields.run rfl (by rw [hsz]; decide) (w' := w') (v := .pointer (some ⟨w.heap.size, 0, none⟩)) ?_ ⟨tf_same (by decide) (by decide) (Below.refl _ _), rfl⟩⟩
        obtain ⟨E, hE⟩ : ∃ E, E = a'.eval := ⟨_, rfl⟩
        have ec : ∀ v, E (Operand.const v) = v := by rw [hE]; exact fun v => rfl
        rw [← hE] at e3 ⊢
        clear hE
        first | (go_simp; done) | (go_simp; rfl)
      · skip
        have e18 : a'.eval (.tmp 18) = .pointer (some ⟨w.heap.size, 0, none⟩) := hd 0 (by decide)
        refine ⟨unguarded rfl, Yields.run rfl (by rw [hsz]; decide) (w' := w') (v := .slice A1 g.needs.length c1) ?_ ⟨tf_same (by decide) (by decide) (Below.refl _ _), rfl⟩⟩
        obtain ⟨E, hE⟩ : ∃ E, E = a'.eval := ⟨_, rfl⟩
        have ec : ∀ v, E (Operand.const v) = v := by rw [hE]; exact fun v => rfl
        rw [← hE] at e18 ⊢
        clear hE
        first | (go_simp; done) | (go_simp; rfl)
      · skip
        refine ⟨unguarded rfl, Yields.run rfl (by rw [hsz]; decide) (w' := w'.alloc (.cells #[] 52)) (v := .slice (some ⟨w'.heap.size, 0, none⟩) 0 0) ?_ ⟨tf_same (by decide) (by decide) ((Below.refl _ _).alloc (Nat.le_refl _) _), isEmp_new hI.size⟩⟩
        first | (go_simp; done) | (go_simp; rfl)
      · skip
        have e3 : a'.eval (.tmp 3) = .pointer (some ⟨w.heap.size, 0, none⟩) := hF.far 3 (far 3 (by decide) (by decide))
        refine ⟨unguarded rfl, Yields.run rfl (by rw [hsz]; decide) (w' := w') (v := .pointer (some ⟨w.heap.size, 3, none⟩)) ?_ ⟨tf_same (by decide) (by decide) (Below.refl _ _), rfl⟩⟩
        obtain ⟨E, hE⟩ : ∃ E, E = a'.eval := ⟨_, rfl⟩
        have ec : ∀ v, E (Operand.const v) = v := by rw [hE]; exact fun v => rfl
        rw [← hE] at e3 ⊢
        clear hE
        first | (go_simp; done) | (go_simp; rfl)
      · skip
        have e21 : a'.eval (.tmp 21) = .pointer (some ⟨w.heap.size, 3, none⟩) := hd 3 (by decide)
        refine ⟨unguarded rfl, Yields.run rfl (by rw [hsz]; decide) (w' := w') (v := .slice A2 g.pieces.length c2) ?_ ⟨tf_same (by decide) (by decide) (Below.refl _ _), rfl⟩⟩
        obtain ⟨E, hE⟩ : ∃ E, E = a'.eval := ⟨_, rfl⟩
        have ec : ∀ v, E (Operand.const v) = v := by rw [hE]; exact fun v => rfl
        rw [← hE] at e21 ⊢
        clear hE
        first | (go_simp; done) | (go_simp; rfl)
      · skip
        have h2 : IsEmp W1.heap.size 52 (a'.eval (.tmp 20)) w' := hd 2 (by decide)
        have e22 : a'.eval (.tmp 22) = .slice A2 g.pieces.length c2 := hd 4 (by decide)
        obtain ⟨X, ex, hX, hx⟩ := h2
        refine ⟨unguarded rfl, .inl ⟨rfl, by rw [hsz]; decide, fun K hK => wp_app_flat flat_piece W1.heap.size (.tmp 20) (.tmp 22) 23 (.agg #[.string ByteArray.empty, .int .i64 0]) 24 rfl Try.underlying23 info_piece52 rfl (by decide) _ [] g.pieces A2 g.pieces.length c2 ex e22 (IsEmp.own ⟨X, rfl, hX, hx⟩ (fun _ => True)) (HP1.o.below hI) hI.size (by simp; omega) (by simp; omega) fun v1 w1 HO hg hat => hK _ _ ⟨?_, ?_⟩⟩⟩
        · show TF W1.heap.size 5 w' w1
          unfold TF
          rw [if_pos rfl]
          exact ⟨X, hX, hx, hg⟩
        · obtain ⟨A9, c9, e9, _, _⟩ := HO.shape
          subst e9
          exact ⟨A9, c9, rfl, HO⟩
      · skip
        have e19 : a'.eval (.tmp 19) = .slice A1 g.needs.length c1 := hd 1 (by decide)
        obtain ⟨A9, c9, e23, ho9⟩ : ∃ A c, a'.eval (.tmp 23) = .slice A g.pieces.length c ∧ Own kPiece 52 w' W1.heap.size (.slice A g.pieces.length c) g.pieces := hd 5 (by decide)
        refine ⟨unguarded rfl, Yields.run rfl (by rw [hsz]; decide) (w' := w') (v := .agg #[.slice A1 g.needs.length c1, .int .i64 0, .bool false, .slice A9 g.pieces.length c9, .slice none 0 0]) ?_ ⟨tf_same (by decide) (by decide) (Below.refl _ _), A9, c9, rfl, ho9⟩⟩
        obtain ⟨E, hE⟩ : ∃ E, E = a'.eval := ⟨_, rfl⟩
        have ec : ∀ v, E (Operand.const v) = v := by rw [hE]; exact fun v => rfl
        rw [← hE] at e19 e23 ⊢
        clear hE
        first | (go_simp; done) | (go_simp; rfl)
      · skip
        refine ⟨unguarded rfl, Yields.run rfl (by rw [hsz]; decide) (w' := w'.alloc (.cells #[.slice none 0 0, .int .i64 0, .bool false, .slice none 0 0, .slice none 0 0] 38)) (v := .pointer (some ⟨w'.heap.size, 0, none⟩)) ?_ ⟨tf_same (by decide) (by decide) ((Below.refl _ _).alloc (Nat.le_refl _) _), _, rfl, hI.size, _, rfl, heap_alloc_new w' _⟩⟩
        first | (go_simp; done) | (go_simp; rfl)
      · skip
        obtain ⟨A9, c9, e24, ho9⟩ : ∃ A c, a'.eval (.tmp 24) = .agg #[.slice A1 g.needs.length c1, .int .i64 0, .bool false, .slice A g.pieces.length c, .slice none 0 0] ∧ Own kPiece 52 w' W1.heap.size (.slice A g.pieces.length c) g.pieces := hd 6 (by decide)
        obtain ⟨k, e8, hk, z, hz, hx⟩ : IsBox 5 38 W1.heap.size (a'.eval (.tmp 8)) w' := hd 7 (by decide)
        have hov := HOV.o.below hI
        have hne : ∀ b, (Value.slice A9 g.pieces.length c9).ownBlock = some b → b ≠ k := fun b hb e => by
          subst e
          obtain ⟨cur, hc⟩ := ho9.kind hb
          rw [hx] at hc
          injection hc with hc
          injection hc with _ hc
          cases hc
        have HRF := RF.start (A1 := A1) (n := g.needs.length) (c1 := c1) (vh := .slice A9 g.pieces.length c9) hz hx (ho9.lower (Nat.le_of_lt hq1)) hov (fun e => hne k e rfl) (fun e => by simp [Value.ownBlock] at e; omega) (fun b hb e => by have h9 := (ho9.lt b hb).1; simp [Value.ownBlock] at e; omega) (by omega) (HB1.o.trans (hI.mono (Nat.le_of_lt hq1)))
        have hg : w'.grownBy _ (some k) := grownBy_trans (grownBy_trans (grownBy_trans (grownBy_trans (grownBy_set w' ⟨k, 0, none⟩ (.slice A1 g.needs.length c1)) (grownBy_set _ ⟨k, 1, none⟩ (.int .i64 0))) (grownBy_set _ ⟨k, 2, none⟩ (.bool false))) (grownBy_set _ ⟨k, 3, none⟩ (.slice A9 g.pieces.length c9))) (grownBy_set _ ⟨k, 4, none⟩ (.slice none 0 0))
        refine ⟨unguarded rfl, Yields.skip rfl (by rw [hsz]; decide) ?_ ⟨(show TF W1.heap.size 8 w' _ from by unfold TF; rw [if_neg (by decide), if_pos rfl]; exact ⟨k, z, hk, hx, hg⟩), k, _, e8, HRF⟩⟩
        have fz : ∀ i, w'.frozen? ⟨k, i, none⟩ = false := fun i => blk_frozen hx
        obtain ⟨x0, x1, x2, x3, x4, rfl⟩ := five hz
        have y0 : w'.cell? ⟨k, 0, none⟩ = some x0 := (cell_of_row _ _ 0 _ _ _ hx).trans rfl
        have y1 : w'.cell? ⟨k, 1, none⟩ = some x1 := (cell_of_row _ _ 1 _ _ _ hx).trans rfl
        have y2 : w'.cell? ⟨k, 2, none⟩ = some x2 := (cell_of_row _ _ 2 _ _ _ hx).trans rfl
        have y3 : w'.cell? ⟨k, 3, none⟩ = some x3 := (cell_of_row _ _ 3 _ _ _ hx).trans rfl
        have y4 : w'.cell? ⟨k, 4, none⟩ = some x4 := (cell_of_row _ _ 4 _ _ _ hx).trans rfl
        clear HRF hg hne
        obtain ⟨E, hE⟩ : ∃ E, E = a'.eval := ⟨_, rfl⟩
        have ec : ∀ v, E (Operand.const v) = v := by rw [hE]; exact fun v => rfl
        rw [← hE] at e24 e8 ⊢
        clear hE
        first | (go_simp; done) | (go_simp; rfl)
    case frest =>
      intro a' w' hF hI hout
      obtain ⟨hb, vh, e8, HRF⟩ : ∃ k vh, a'.tmps.getD 8 undef = .pointer (some ⟨k, 0, none⟩) ∧ RF W0 k A1 g.needs.length c1 g.pieces [] vh (.slice (some ⟨W0.heap.size, 0, none⟩) 0 0) w' := hout 8 (by decide) rfl
      rw [hF.lit [18, 19, 20, 21, 22, 23, 24, 8, 200] (fun s hs j hj e => by have h := (by decide : ∀ j, j < 9 → ([18, 19, 20, 21, 22, 23, 24, 8, 200] : List Nat).contains (if j = 7 then 8 else if j = 8 then 200 else 18 + j) = true) j hj; rw [show (if j = 7 then 8 else if j = 8 then 200 else 18 + j) = s from e, hs] at h; cases h)]
      obtain ⟨ys, hys⟩ : ∃ ys : Nat → Value, ys = fun s => a'.tmps.getD s undef := ⟨_, rfl⟩
      have y8 : ys 8 = .pointer (some ⟨hb, 0, none⟩) := by rw [hys]; exact e8
      rw [← hys]
      clear hys e8 hF hout
      simp only [mergeA, List.contains_cons, List.contains_nil, Nat.reduceBEq, Bool.or_false, Bool.or_true, Bool.false_or, Bool.true_or, Bool.false_eq_true, if_false, if_true, ite_false, ite_true, Nat.reduceAdd]
      simp only [y8]
      clear y8
      go_wp2_with fail
      go_meet
      exact ⟨hb, vh, rfl, ⟨HRF⟩⟩
  case rest =>
    obtain ⟨hb, vh0, rfl, HRF0⟩ := hcut
    clear b0 b3
    go_wp2
    go_loopw [7, 9] (fun v i' wr => ∃ (k : Nat) (vh : Value), k ≤ nd ∧ i' = .int .i64 k ∧ As (RF W0 hb A1 g.needs.length c1 (refFetTo g list devs k).1 (refFetTo g list devs k).2 vh v wr) ∧ As ((refFetTo g list devs k).1.length ≤ 1000 + 1000 * k ∧ (refFetTo g list devs k).2.length ≤ 1000 * k)) (fun _ i' _ => nd - (intOf i').toNat)
    case atStart => exact ⟨0, vh0, Nat.zero_le _, rfl, HRF0, ⟨by rw [refFetTo]; exact ⟨by simpa using hgp, by simp⟩⟩⟩
    case round =>
      obtain ⟨k, vh, hk, rfl, HF, HLN⟩ := hrel
      have HBw : As (Below w.heap.size w wr) := ⟨HB0.o.trans (HF.o.bel.mono (by have := HS0.o; omega))⟩
      by_cases hlt : k < nd
      · obtain ⟨ad, rfl, _, _, p0⟩ := (HD.o.below HBw.o).int_at k hlt
        have hkl : k < devs.length := by rw [HD.o.1]; exact hlt
        have HTK := As.mk (take_ig devs k hkl)
        have HT := As.mk (show refFetTo g list devs (k + 1) = if ig devs k ∈ devs.take k then refFetTo g list devs k else refDev g list (refFetTo g list devs k) (ig devs k) from rfl)
        have HTAKE := As.mk ((HD.o.below HBw.o).take k (by omega))
        have FND := As.mk (find_any A4 list.length c4 _ list (ig devs k) wr (HL.o.below HBw.o))
        have CON := As.mk fun (p : BW wr) => contains_any (some ad) k c5 _ (devs.take k) (ig devs k) p.W (HTAKE.o.below p.h)
        have HRD := As.mk (show refDev g list (refFetTo g list devs k) (ig devs k) = if findDev list (ig devs k) < 0 then refFetTo g list devs k else (hgt list (findDev list (ig devs k)).toNat).pieces.foldl (refStep g (ig devs k)) (refFetTo g list devs k) from rfl)
        have HFA := As.mk fun h => findDev_at (list := list) (d := ig devs k) h
        generalize hdk : ig devs k = d at *
        have HDK := As.mk hdk
        clear hdk
        generalize refFetTo g list devs k = acc at *
        obtain ⟨hv, out⟩ := acc
        simp only at HF HLN
        generalize findDev list d = kk at *
        have hkc : k ≤ c5 := by omega
        by_cases hneg : kk < 0
        · have d0 : decide (kk < 0) = true := decide_eq_true hneg
          rw [if_pos hneg] at HRD
          have HT2 : As (refFetTo g list devs (k + 1) = (hv, out)) := ⟨by
            rw [HT.o]
            split
            · rfl
            · exact HRD.o⟩
          clear hneg HFA HT HRD
          go_wp2_with (go_at_call 49; refine FND.o.mono ?_; rintro e w2 ⟨rfl, rfl⟩)
          go_quiet (fail)
          go_wp2
          go_roundw
          case rel =>
            refine ⟨k + 1, vh, by omega, by go_num, ?_, ⟨by rw [HT2.o]; exact ⟨Nat.le_trans HLN.o.1 (by omega), Nat.le_trans HLN.o.2 (by omega)⟩⟩⟩
            rw [HT2.o]
            exact ⟨HF.o.below (below_drewN (Below.refl _ _) _)⟩
          case measure => simp [intOf]; omega
        · have d0 : decide (kk < 0) = false := decide_eq_false hneg
          obtain ⟨j, hj, ej⟩ := HFA.o hneg
          rw [if_neg hneg] at HRD
          clear HFA hneg
          subst ej
          rw [Int.toNat_natCast] at HRD
          by_cases hx : d ∈ devs.take k
          · have HT2 : As (refFetTo g list devs (k + 1) = (hv, out)) := ⟨HT.o.trans (if_pos hx)⟩
            have CON1 : As (∀ p : BW wr, Calls Try.prog 33 #[.slice (some ad) k c5, .int .i64 d] p.W fun e w' => e = .returned (.bool true) ∧ p.W = w') := ⟨fun p => by have := CON.o p; rwa [decide_eq_true hx] at this⟩
            have p0' := BW.cell p0
            clear hx CON HT HRD
            go_wp2_with (go_at_call 49; refine FND.o.mono ?_; rintro e w2 ⟨rfl, rfl⟩)
            refine wp_region_below (by kernel_rfl) (by kernel_rfl) ?_
            repeat (go_big_quiet_step ((go_at_call 33; exact calls_same _ (CON1.o _))))
            refine wpQuiet_nil ?_
            intro _ hw'
            obtain ⟨pw, hw''⟩ := hw'
            subst hw''
            go_wp2
            go_roundw
            case rel =>
              refine ⟨k + 1, vh, by omega, by go_num, ?_, ⟨by rw [HT2.o]; exact ⟨Nat.le_trans HLN.o.1 (by omega), Nat.le_trans HLN.o.2 (by omega)⟩⟩⟩
              rw [HT2.o]
              exact ⟨HF.o.below pw.h⟩
            case measure => simp [intOf]; omega
          · have HT2 : As (refFetTo g list devs (k + 1) = (hgt list j).pieces.foldl (refStep g d) (hv, out)) := ⟨(HT.o.trans (if_neg hx)).trans HRD.o⟩
            have CON1 : As (∀ p : BW wr, Calls Try.prog 33 #[.slice (some ad) k c5, .int .i64 d] p.W fun e w' => e = .returned (.bool false) ∧ p.W = w') := ⟨fun p => by have := CON.o p; rwa [decide_eq_false hx] at this⟩
            have p0' := BW.cell p0
            have hps := hpl (hgt list j) (by rw [hgt_eq _ _ hj]; exact List.getElem_mem _)
            have hj0 : (0 : Int) ≤ (j : Int) := by omega
            have hj1 : (j : Int) < (list.length : Int) := by omega
            clear hx CON HT HRD
            go_wp2_with (go_at_call 49; refine FND.o.mono ?_; rintro e w2 ⟨rfl, rfl⟩)
            refine wp_region_below (by kernel_rfl) (by kernel_rfl) ?_
            repeat (go_big_quiet_step ((go_at_call 33; exact calls_same _ (CON1.o _))))
            refine wpQuiet_nil ?_
            intro _ hw'
            obtain ⟨pw, hw''⟩ := hw'
            subst hw''
            have HFP := As.mk (HF.o.below pw.h)
            have HBP : As (Below w.heap.size w pw.W) := ⟨bthen HBw.o pw.h (Nat.le_refl _)⟩
            have HDP := As.mk (HD.o.below HBw.o)
            clear p0' FND CON1 HF HTAKE HBw
            generalize pw.W = wo at *
            have HHJ : As (∀ W : World, Below w.heap.size w W → ∃ ad2 P cP, A4 = some ad2 ∧ ad2.block < W.heap.size ∧ W.cell? ⟨(ad2.add (j * 4)).block, (ad2.add (j * 4)).off + 1, none⟩ = some (.slice P (hgt list j).pieces.length cP) ∧ Row kPiece W (fun b => b < w.heap.size) P (hgt list j).pieces.length (hgt list j).pieces) := ⟨fun W hW => by
              obtain ⟨ad2, P, cP, S, cS, eA, _, hl2, pd0, pd1, pd2, pd3, hcP, hR1, _⟩ := rowHold (HL.o.below hW) j hj
              exact ⟨ad2, P, cP, eA, hl2, pd1, hR1⟩⟩
            obtain ⟨ad2, _, _, eA, _⟩ := HHJ.o wo HBP.o
            subst eA
            have hnpm : (hgt list j).pieces.length ≤ 9223372036854775807 := by omega
            generalize hgt list j = y at *
            go_wp2
            go_loopw [7, 11] (fun v i' wr => ∃ (m : Nat) (vh : Value), m ≤ y.pieces.length ∧ i' = .int .i64 m ∧ As (RF W0 hb A1 g.needs.length c1 (refAcc g d (hv, out) y.pieces m).1 (refAcc g d (hv, out) y.pieces m).2 vh v wr)) (fun _ i' _ => y.pieces.length - (intOf i').toNat)
            case atStart => exact ⟨0, vh, Nat.zero_le _, rfl, by simpa [refAcc] using HFP⟩
            case round =>
              obtain ⟨m, vh, hm, rfl, HFI⟩ := hrel
              have HBI : As (Below w.heap.size w wr) := ⟨HB0.o.trans (HFI.o.bel.mono (by have := HS0.o; omega))⟩
              obtain ⟨ad2', P, cP, eA, hl2, pd1, hR1⟩ := HHJ.o wr HBI.o
              injection eA with eA
              subst eA
              by_cases hml : m < y.pieces.length
              · obtain ⟨ad3, e3, _, hl3, q0, q1⟩ := rowPiece hR1 m hml
                subst e3
                have HST := As.mk (refAcc_succ g d (hv, out) y.pieces m hml)
                have HLI := As.mk (refAcc_len g d (hv, out) y.pieces (1000 + 1000 * k) (1000 * k) HLN.o m hm)
                generalize refAcc g d (hv, out) y.pieces m = acc at *
                obtain ⟨hvm, om⟩ := acc
                simp only at HFI HLI
                generalize pg y.pieces m = z at *
                obtain ⟨zs, zi⟩ := z
                simp only at q0 q1
                have hm1 : (m : Int) < (y.pieces.length : Int) := by omega
                have HVN : As (∀ b, u7.ownBlock = some b → b < wr.heap.size) := ⟨fun b e => (HFI.o.ov.lt b e).2⟩
                have hom : om.length ≤ 2000000 := by have := HLI.o.2; omega
                have hhv : hvm.length ≤ 2000000 := by have := HLI.o.1; omega
                have HSP := As.mk HFI.o.oh.shape
                obtain ⟨Ah, ch, evh, hch, hrh⟩ := HSP.o
                subst evh
                have HRH := As.mk hrh
                clear hrh HSP hR1
                go_upto_region 12 with (fail)
                obtain ⟨W1, hW1⟩ : ∃ W1 : World, W1 = wr.alloc (.cells #[.string zs, .int .i64 zi] 52) := ⟨_, rfl⟩
                rw [← hW1]
                have hbw1 : Below wr.heap.size wr W1 := by rw [hW1]; exact (Below.refl _ _).alloc (Nat.le_refl _) _
                have hsz1 : W1.heap.size = wr.heap.size + 1 := by rw [hW1]; simp
                have HP1 : As (W1.heap[wr.heap.size]? = some (.cells #[.string zs, .int .i64 zi] 52 (0, 0))) := ⟨by rw [hW1]; exact heap_alloc_new wr _⟩
                have HF1 := As.mk (HFI.o.below hbw1)
                have HB1 : As (Below w.heap.size w W1) := ⟨bthen HBI.o hbw1 (Nat.le_refl _)⟩
                have HRH1 := As.mk (HRH.o.below hbw1)
                have hl31 : ad3.block < W1.heap.size := by omega
                clear hW1 HFI q0 q1 pd1 HRH
                have c0 : W1.cell? ⟨hb, 0, none⟩ = some (.slice A1 g.needs.length c1) := (cell_of_row _ _ 0 _ _ _ HF1.o.bx).trans rfl
                have c1' : W1.cell? ⟨hb, 1, none⟩ = some (.int .i64 0) := (cell_of_row _ _ 1 _ _ _ HF1.o.bx).trans rfl
                have c2' : W1.cell? ⟨hb, 2, none⟩ = some (.bool false) := (cell_of_row _ _ 2 _ _ _ HF1.o.bx).trans rfl
                have c3' : W1.cell? ⟨hb, 3, none⟩ = some (.slice Ah hvm.length ch) := (cell_of_row _ _ 3 _ _ _ HF1.o.bx).trans rfl
                have c4' : W1.cell? ⟨hb, 4, none⟩ = some (.slice none 0 0) := (cell_of_row _ _ 4 _ _ _ HF1.o.bx).trans rfl
                have LK : As (Calls Try.prog 50 #[.agg #[.slice A1 g.needs.length c1, .int .i64 0, .bool false, .slice Ah hvm.length ch, .slice none 0 0], .slice none 0 0, .slice none 0 0] W1 fun e w' => ∃ Av cv sh ix, e = .returned (.tuple #[.slice Av g.needs.length cv, .int .i64 sh, .int .i64 ix]) ∧ Row (Kn.int .i64) w' (fun k => k < w'.heap.size) Av g.needs.length (lackNeeds (haveG g hvm) [] []) ∧ Below W1.heap.size W1 w') := ⟨by
                  have hM2 := haveG_modest HM.o hvm
                  have hgi : GoalIn W1 (fun _ => True) (haveG g hvm) A1 c1 Ah ch none 0 := ⟨((HG.o.n.below HB1.o).mono fun _ _ => trivial), HG.o.cn, HRH1.o.mono fun _ _ => trivial, hch, Row.nil _ _ _ _, Nat.le_refl _⟩
                  refine (lacks_any (haveG g hvm) A1 c1 Ah ch none 0 none 0 0 [] none 0 0 [] (fun _ => True) W1 hgi (Row.nil _ _ _ _) (Row.nil _ _ _ _) hM2.needs hM2.thr (by have := hM2.len; omega)).mono ?_
                  rintro e w' ⟨v, rfl, ho, hb'⟩
                  obtain ⟨Av, cv, rfl, _, hr⟩ := ho.shape
                  have hlen : (lackNeeds (haveG g hvm) [] []).length = g.needs.length := by simp [lackNeeds, haveG]
                  rw [hlen] at hr
                  rw [hlen]
                  exact ⟨Av, cv, _, _, rfl, hr, hb'⟩⟩
                have hnm := HG.o.n.2.1
                go_wp2_with (go_at_call 50; refine LK.o.mono ?_; rintro e w2 ⟨Av, cv, sh, ix, rfl, hrv, hb2⟩)
                have HF2 := As.mk (HF1.o.below hb2)
                have HB2 : As (Below w.heap.size w w2) := ⟨bthen HB1.o hb2 (Nat.le_refl _)⟩
                have HRH2 := As.mk (HRH1.o.below hb2)
                have HRV := As.mk hrv
                have HP2 := As.mk ((hb2.block wr.heap.size (by omega)).trans HP1.o)
                have hsz2 := hb2.size
                have HLA := As.mk fun q hq => lackNeeds_have g hvm q hq
                have X2 := As.mk ((HB2.o.mono (Nat.le_refl _)))
                have XG : As (w2.heap[w.heap.size]? = some (.cells (goalCells g A1 c1 A2 c2 A3 c3) 38 (0, 0))) := ⟨(HF2.o.bel.block w.heap.size (by have := HS0.o; omega)).trans X0.o⟩
                generalize hpb : wr.heap.size = pb at *
                clear hpb LK hrv hb2 c0 c1' c2' c3' c4' HF1 HB1 HRH1 HP1 HBI X2 HFP HDP
                go_loopw [7, 16] (fun v' i' wr => ∃ q : Nat, q ≤ g.needs.length ∧ v' = u7 ∧ i' = .int .i64 q ∧ As (Below w2.heap.size w2 wr) ∧ As (∀ n ∈ g.needs.take q, ¬ (n.1 = zs ∧ 0 < lackNeed (haveG g hvm) [] [] n ∧ (zs, zi) ∉ hvm))) (fun _ i' _ => g.needs.length - (intOf i').toNat)
                case atStart => exact ⟨0, Nat.zero_le _, rfl, rfl, ⟨Below.refl _ _⟩, ⟨by simp⟩⟩
                case round =>
                  obtain ⟨q, hq, rfl, rfl, HBq, HNO⟩ := hrel
                  by_cases hql : q < g.needs.length
                  · obtain ⟨nad, en, _, hnl, n0, n1⟩ := rowPiece ((HG.o.n.below HB2.o).below HBq.o) q hql
                    subst en
                    obtain ⟨vad, ev2, _, hvl, v0⟩ := (HRV.o.below HBq.o).int_at q hql
                    subst ev2
                    rw [HLA.o q hql] at v0
                    have HSQ := As.mk (show g.needs.take (q + 1) = g.needs.take q ++ [pg g.needs q] by rw [List.take_succ_eq_append_getElem hql, pg_eq _ _ hql])
                    have HMQ : As (pg g.needs q ∈ g.needs) := ⟨by rw [pg_eq _ _ hql]; exact List.getElem_mem hql⟩
                    have HFq := As.mk (HF2.o.below HBq.o)
                    have HPq := As.mk ((HBq.o.block pb (blk_lt HP2.o)).trans HP2.o)
                    have hql1 : (q : Int) < (g.needs.length : Int) := by omega
                    obtain ⟨wo, rfl⟩ : ∃ wo : World, wo = wr := ⟨_, rfl⟩
                    have y0 := BW.cell ((HBq.o.cell (p := ⟨w.heap.size, 0, none⟩) (blk_lt XG.o)).trans ((cell_of_row _ _ 0 _ _ _ XG.o).trans (show (goalCells g (some nad) c1 A2 c2 A3 c3)[0]? = some (.slice (some nad) g.needs.length c1) from rfl)))
                    have y1 := BW.cell n0
                    have y2 := BW.cell v0
                    have y3 : ∀ p : BW wo, p.W.cell? ⟨pb, 0, none⟩ = some (.string zs) := BW.cell ((cell_of_row _ _ 0 _ _ _ HPq.o).trans rfl)
                    have y4 : ∀ p : BW wo, p.W.cell? ⟨pb, 1, none⟩ = some (.int .i64 zi) := BW.cell ((cell_of_row _ _ 1 _ _ _ HPq.o).trans rfl)
                    have y5 : ∀ p : BW wo, p.W.cell? ⟨hb, 3, none⟩ = some (.slice Ah hvm.length ch) := BW.cell ((cell_of_row _ _ 3 _ _ _ HFq.o.bx).trans rfl)
                    have HASK := As.mk fun (p : BW wo) => has_any Ah hvm.length ch _ hvm zs zi p.W ((HRH2.o.below HBq.o).below p.h)
                    generalize hlk : lackNeed (haveG g hvm) [] [] (pg g.needs q) = ln at *
                    have HLK := As.mk hlk
                    clear hlk n0 n1 v0
                    by_cases k1 : ((pg g.needs q).1.toList == zs.toList) = true
                    · have hk1' := toList_inj.1 (beq_iff_eq.1 k1)
                      by_cases k2 : 0 < ln
                      · have d2 : decide (0 < ln) = true := decide_eq_true k2
                        by_cases k3 : (zs, zi) ∈ hvm
                        · have HAS1 : As (∀ p : BW wo, Calls Try.prog 51 #[.slice Ah hvm.length ch, .agg #[.string zs, .int .i64 zi]] p.W fun e w' => e = .returned (.bool true) ∧ Below p.W.heap.size p.W w') := ⟨fun p => by have := HASK.o p; rwa [decide_eq_true k3] at this⟩
                          have HNQ : As (∀ n ∈ g.needs.take (q + 1), ¬ (n.1 = zs ∧ 0 < lackNeed (haveG g hvm) [] [] n ∧ (zs, zi) ∉ hvm)) := ⟨fun n hn hc => hc.2.2 k3⟩
                          clear HASK k3 hk1'
                          generalize pg g.needs q = nq' at *
                          go_wp2
                          refine wp_region_below (by kernel_rfl) (by kernel_rfl) ?_
                          repeat (go_big_quiet_step ((go_at_call 51; exact calls_below _ (HAS1.o _))))
                          refine wpQuiet_nil ?_
                          intro _ hw'
                          obtain ⟨pw, hw''⟩ := hw'
                          subst hw''
                          clear y0 y1 y2 y3 y4 y5
                          go_wp2
                          go_roundw
                          case rel => exact ⟨q + 1, by omega, rfl, by go_num, ⟨bthen HBq.o pw.h (Nat.le_refl _)⟩, HNQ⟩
                          case measure => simp [intOf]; omega
                        · have HAS1 : As (∀ p : BW wo, Calls Try.prog 51 #[.slice Ah hvm.length ch, .agg #[.string zs, .int .i64 zi]] p.W fun e w' => e = .returned (.bool false) ∧ Below p.W.heap.size p.W w') := ⟨fun p => by have := HASK.o p; rwa [decide_eq_false k3] at this⟩
                          have HSN : As (refAcc g d (hv, out) y.pieces (m + 1) = (hvm ++ [(zs, zi)], om ++ [(d, (zs, zi))])) := ⟨by
                            rw [HST.o, refStep, if_pos]
                            exact ⟨⟨_, HMQ.o, hk1', by rw [HLK.o]; exact k2⟩, k3⟩⟩
                          clear HASK k3 hk1'
                          generalize pg g.needs q = nq' at *
                          go_wp2
                          refine wp_region_below (by kernel_rfl) (by kernel_rfl) ?_
                          repeat (go_big_quiet_step ((go_at_call 51; exact calls_below _ (HAS1.o _))))
                          refine wpQuiet_nil ?_
                          intro _ hw'
                          obtain ⟨pw, hw''⟩ := hw'
                          subst hw''
                          have p3 := y3 pw
                          have p4 := y4 pw
                          have hpq := blk_lt HPq.o
                          have HDw := As.mk (HD.o.below (bthen (bthen HB2.o HBq.o (Nat.le_refl _)) pw.h (Nat.le_refl _)))
                          obtain ⟨ad5, e5, _, hl5, p5⟩ := HDw.o.int_at k hlt
                          injection e5 with e5
                          subst e5
                          rw [HDK.o] at p5
                          clear y0 y1 y2 y3 y4 y5
                          go_wp2
                          have HFw := As.mk ((HFq.o.below pw.h).below (Below.refl _ _).drew)
                          have HPw := As.mk (((pw.h.block pb (blk_lt HPq.o)).trans HPq.o : pw.W.drew.heap[pb]? = _))
                          have hbs : W0.heap.size ≤ pw.W.drew.heap.size := HFw.o.bel.size
                          go_region_law (refine step_app_one kFetch W0.heap.size rfl (.tmp 102) (.tmp 109) 49 (.agg #[.int .i64 0, .string ByteArray.empty, .int .i64 0]) 32 rfl Try.underlying49 info_rfetch rfl (by decide) u7 om (d, (zs, zi)) [.int .i64 d, .string zs, .int .i64 zi] (by simp [Act.eval, Act.put]) (by simp [Act.eval, Act.put]) HFw.o.ov (kFetch_mk _ _ (d, (zs, zi))) hbs (by omega) (by omega) ?_
                                         intro v6 w6 HO6 hg6 hat6)
                          all_goals
                            have HF6 := As.mk (HFw.o.grow HO6 hg6 hat6)
                            have HP6 := As.mk ((hg6.block pb (blk_lt HPw.o) (fun e => by have := HVN.o pb e.symm; omega)).trans HPw.o)
                            have c3 : w6.cell? ⟨hb, 3, none⟩ = some (.slice Ah hvm.length ch) := (cell_of_row _ _ 3 _ _ _ HF6.o.bx).trans rfl
                            have q3 : w6.cell? ⟨pb, 0, none⟩ = some (.string zs) := (cell_of_row _ _ 0 _ _ _ HP6.o).trans rfl
                            have q4 : w6.cell? ⟨pb, 1, none⟩ = some (.int .i64 zi) := (cell_of_row _ _ 1 _ _ _ HP6.o).trans rfl
                            have hbs6 : W0.heap.size ≤ w6.heap.size := HF6.o.bel.size
                            clear hg6 hat6 HO6 HPw HFw p3 p4 p5
                            go_wp2_with (at_builtin; refine app_one kPiece W0.heap.size rfl (.tmp 112) (.tmp 114) 23 (.agg #[.string ByteArray.empty, .int .i64 0]) 24 rfl Try.underlying23 info_piece52 rfl (by decide) (.slice Ah hvm.length ch) hvm (zs, zi) [.string zs, .int .i64 zi] rfl (by show Value.slice _ _ _ = _; simp) HF6.o.oh (kPiece_mk _ _ (zs, zi)) hbs6 (by omega) (by omega) ?_; intro v7 w7 HO7 hg7 hat7; have bx7 := (hg7.block hb (blk_lt HF6.o.bx) (fun e => HF6.o.n1 e.symm)).trans HF6.o.bx; have fz7 : w7.frozen? ⟨hb, 3, none⟩ = false := blk_frozen bx7; have cz7 : w7.cell? ⟨hb, 3, none⟩ = some (.slice Ah hvm.length ch) := (cell_of_row _ _ 3 _ _ _ bx7).trans rfl; have HRF7 := As.mk (HF6.o.have HO7 hg7 hat7); obtain ⟨A7, c7, rfl, _, _⟩ := HO7.shape; clear bx7 hg7 hat7 HO7)
                            go_roundw
                            case rel =>
                              have h8 := HRF7.o
                              rw [show (hvm ++ [(zs, zi)]).length = hvm.length + 1 by simp] at h8
                              refine ⟨m + 1, .slice A7 (hvm.length + 1) c7, by omega, by go_num, ⟨?_⟩⟩
                              rw [HSN.o]
                              exact h8
                            case measure => simp [intOf]; omega
                      · have d2 : decide (0 < ln) = false := decide_eq_false k2
                        have HNQ : As (∀ n ∈ g.needs.take (q + 1), ¬ (n.1 = zs ∧ 0 < lackNeed (haveG g hvm) [] [] n ∧ (zs, zi) ∉ hvm)) := ⟨fun n hn hc => by
                          rw [HSQ.o, List.mem_append, List.mem_singleton] at hn
                          rcases hn with hn | rfl
                          · exact HNO.o n hn hc
                          · exact k2 (by rw [← HLK.o]; exact hc.2.1)⟩
                        clear HASK k2 hk1'
                        generalize pg g.needs q = nq' at *
                        go_wp2
                        refine wp_region_below (by kernel_rfl) (by kernel_rfl) ?_
                        repeat (go_big_quiet_step (fail))
                        refine wpQuiet_nil ?_
                        intro _ hw'
                        obtain ⟨pw, hw''⟩ := hw'
                        subst hw''
                        clear y0 y1 y2 y3 y4 y5
                        go_wp2
                        go_roundw
                        case rel => exact ⟨q + 1, by omega, rfl, by go_num, ⟨bthen HBq.o pw.h (Nat.le_refl _)⟩, HNQ⟩
                        case measure => simp [intOf]; omega
                    · have hk1' : (pg g.needs q).1 ≠ zs := fun e => k1 (beq_iff_eq.2 (toList_inj.2 e))
                      have d1 := Bool.eq_false_iff.2 k1
                      have HNQ : As (∀ n ∈ g.needs.take (q + 1), ¬ (n.1 = zs ∧ 0 < lackNeed (haveG g hvm) [] [] n ∧ (zs, zi) ∉ hvm)) := ⟨fun n hn hc => by
                        rw [HSQ.o, List.mem_append, List.mem_singleton] at hn
                        rcases hn with hn | rfl
                        · exact HNO.o n hn hc
                        · exact hk1' hc.1⟩
                      clear HASK k1 hk1'
                      generalize pg g.needs q = nq' at *
                      go_wp2
                      refine wp_region_below (by kernel_rfl) (by kernel_rfl) ?_
                      repeat (go_big_quiet_step (fail))
                      refine wpQuiet_nil ?_
                      intro _ hw'
                      obtain ⟨pw, hw''⟩ := hw'
                      subst hw''
                      clear y0 y1 y2 y3 y4 y5
                      go_wp2
                      go_roundw
                      case rel => exact ⟨q + 1, by omega, rfl, by go_num, ⟨bthen HBq.o pw.h (Nat.le_refl _)⟩, HNQ⟩
                      case measure => simp [intOf]; omega
                  · have e : q = g.needs.length := by omega
                    subst e
                    have HSN : As (refAcc g d (hv, out) y.pieces (m + 1) = (hvm, om)) := ⟨by
                      rw [HST.o, refStep, if_neg]
                      rintro ⟨⟨n, hn, h1, h2⟩, h3⟩
                      exact HNO.o n (by rw [List.take_length]; exact hn) ⟨h1, h2, h3⟩⟩
                    go_wp2
                    go_roundw
                    case rel => exact ⟨m + 1, _, by omega, by go_num, ⟨by rw [HSN.o]; exact HF2.o.below HBq.o⟩⟩
                    case measure => simp [intOf]; omega
              · have e : m = y.pieces.length := by omega
                subst e
                have HE : As (refFetTo g list devs (k + 1) = refAcc g d (hv, out) y.pieces y.pieces.length) := ⟨by rw [HT2.o, refAcc, List.take_length]⟩
                have HLI := As.mk (refAcc_len g d (hv, out) y.pieces (1000 + 1000 * k) (1000 * k) HLN.o _ (Nat.le_refl _))
                go_wp2
                go_roundw
                case rel =>
                  refine ⟨k + 1, vh, by omega, by go_num, ?_, ⟨by rw [HE.o]; exact ⟨Nat.le_trans HLI.o.1 (by omega), Nat.le_trans HLI.o.2 (by omega)⟩⟩⟩
                  rw [HE.o]
                  exact HFI
                case measure => simp [intOf]; omega
      · have e : k = nd := by omega
        subst e
        have e2 : k = devs.length := HD.o.1.symm
        have HRQ : As (refFetchesOf g list devs = (refFetTo g list devs k).2) := ⟨by rw [refFetchesOf, e2]⟩
        clear e2
        go_wp2
        go_ret
        exact ⟨_, rfl, by rw [HRQ.o]; exact HF.o.ov.lower (by have := HS0.o; omega), HBw.o⟩
end
end Go.Proofs.Ytlinhckgdfhppaa
