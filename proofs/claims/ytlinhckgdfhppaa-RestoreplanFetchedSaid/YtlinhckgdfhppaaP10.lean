import Derived.Test.YtlinhckgdfhppaaM10
set_option linter.unusedSimpArgs false
set_option linter.unusedVariables false
namespace Go.Proofs.Ytlinhckgdfhppaa
open Go Go.RowKit Go.Proofs.YtlinhckgdfhppaaK

/-! The cheapest set: the program's search and the document's. -/
/-- The map of the costs behind the first k holdings. -/
def ofTo (list : List Hold) (costs : List Int) : Nat → Int → Option Int
  | 0 => fun _ => none
  | k + 1 => upd (ofTo list costs k) (hgt list k).dev (ig costs k)
theorem ofTo_at (list : List Hold) (costs : List Int) (hd : (list.map (·.dev)).Nodup) : ∀ k, k ≤ list.length → ∀ i, i < k → ofTo list costs k (hgt list i).dev = some (ig costs i)
  | k + 1, hk, i, hi => by
    rw [ofTo, upd]
    by_cases e : (hgt list i).dev = (hgt list k).dev
    · rw [if_pos e]
      have : i = k := by
        refine Decidable.byContradiction fun hne => ?_
        have h1 : (list.map (·.dev))[i]'(by simp; omega) = (list.map (·.dev))[k]'(by simp; omega) := by
          rw [List.getElem_map, List.getElem_map, ← hgt_eq list i (by omega), ← hgt_eq list k (by omega)]
          exact e
        exact (List.pairwise_iff_getElem.1 hd) i k (by simp; omega) (by simp; omega) (by omega) h1
      rw [this]
    · rw [if_neg e]
      exact ofTo_at list costs hd k (by omega) i (by
        rcases Nat.lt_or_ge i k with h | h
        · exact h
        · exact absurd (by rw [show i = k by omega]) e)
/-- The sum of the costs of devices, as the map tells them. -/
def sumDev (f : Int → Option Int) (ds : List Int) : Int := (ds.map fun d => (f d).getD 0).sum
theorem sum_perm {a b : List Int} (h : a.Perm b) : a.sum = b.sum := by
  induction h with
  | nil => rfl
  | cons x _ ih => simp only [List.sum_cons, ih]
  | swap x y l => simp only [List.sum_cons]; omega
  | trans _ _ h1 h2 => rw [h1, h2]
theorem sum_snoc (a : List Int) (x : Int) : (a ++ [x]).sum = a.sum + x := by
  induction a with
  | nil => simp
  | cons y a ih => simp only [List.cons_append, List.sum_cons, ih]; omega
theorem costTo_sum (list : List Hold) (devs costs : List Int) (F : Int → Int) (hF : ∀ i, i < list.length → F (hgt list i).dev = ig costs i) : ∀ m, m ≤ list.length → costTo list devs costs m = ((list.take m).map fun h => if h.dev ∈ devs then F h.dev else 0).sum
  | 0, _ => by simp [costTo]
  | m + 1, hm => by
    rw [List.take_succ_eq_append_getElem (by omega), List.map_append, List.map_singleton, sum_snoc, costTo, costTo_sum list devs costs F hF m (by omega), ← hF m (by omega), ← hgt_eq list m (by omega)]
theorem pick_sum (L : List Hold) (s : Nat) (devs : List Int) (F : Int → Int) (hb : ∀ j, j < L.length → (s.testBit j = true ↔ (hgt L j).dev ∈ devs)) : ∀ k, k ≤ L.length → ((pickTo L s k).map F).sum = ((L.take k).map fun h => if h.dev ∈ devs then F h.dev else 0).sum
  | 0, _ => by simp [pickTo]
  | k + 1, hk => by
    have ih := pick_sum L s devs F hb k (by omega)
    have hj := hb k (by omega)
    rw [List.take_succ_eq_append_getElem (by omega), List.map_append, List.map_singleton, sum_snoc, ← ih, ← hgt_eq L k (by omega), pickTo]
    by_cases h : s.testBit k = true
    · rw [if_pos h, if_pos (hj.1 h), List.map_append, List.map_singleton, sum_snoc]
    · rw [if_neg h, if_neg (fun h' => h (hj.2 h')), Int.add_zero]
theorem cost_pick {g : Goal} {list : List Hold} (hv : Valid g list) (costs : List Int) (s : Nat) : sumDev (ofTo list costs list.length) (pickTo (sortH list) s list.length) = cost list (pickTo (sortH list) s list.length) costs := by
  have hl := sortH_len list
  have hF : ∀ i, i < list.length → (fun d => (ofTo list costs list.length d).getD 0) (hgt list i).dev = ig costs i := fun i hi => by
    show (ofTo list costs list.length (hgt list i).dev).getD 0 = _
    rw [ofTo_at list costs hv.nodup list.length (Nat.le_refl _) i hi]
    rfl
  have h1 := costTo_sum list (pickTo (sortH list) s list.length) costs (fun d => (ofTo list costs list.length d).getD 0) hF list.length (Nat.le_refl _)
  have h2 := pick_sum (sortH list) s (pickTo (sortH list) s list.length) (fun d => (ofTo list costs list.length d).getD 0) (fun j hj => pick_bit hv s j (by rw [← hl]; exact hj)) list.length (by omega)
  rw [List.take_of_length_le (by omega)] at h1 h2
  unfold sumDev cost
  rw [h1, h2]
  exact sum_perm ((sortH_perm list).map _)
/-- One step of the program's search. -/
def chStep (list : List Hold) (costs : List Int) (acc : List Int × Int) (s : BitVec 64) : List Int × Int :=
  if acc.2 < 0 ∨ sumDev (ofTo list costs list.length) (pickTo (sortH list) s.toNat list.length) < acc.2 then (pickTo (sortH list) s.toNat list.length, sumDev (ofTo list costs list.length) (pickTo (sortH list) s.toNat list.length)) else acc
def chTo (g : Goal) (list : List Hold) (costs : List Int) (k : Nat) : List Int × Int := ((setsP g list).take k).foldl (chStep list costs) ([], -1)
def okCosts (list : List Hold) (costs : List Int) : Prop := costs.length = list.length ∧ ∀ x ∈ costs, 0 ≤ x ∧ x ≤ 1099511627776
instance (list : List Hold) (costs : List Int) : Decidable (okCosts list costs) := by unfold okCosts; infer_instance
/-- The error of Cheapest, and what it answers. -/
def cheapE (g : Goal) (list : List Hold) (costs : List Int) : Int := if okCosts list costs then possOf g list else 1
def cheapP (g : Goal) (list : List Hold) (costs : List Int) : List Int × Int := if cheapE g list costs = 0 then (setsP g list).foldl (chStep list costs) ([], -1) else ([], 0)
theorem cost_nn {list : List Hold} {costs : List Int} (hc : okCosts list costs) (devs : List Int) : 0 ≤ cost list devs costs ∧ cost list devs costs ≤ 1099511627776 * list.length := by
  have := costTo_bd (list := list) (devs := devs) hc.2 list.length (by rw [hc.1]; exact Nat.le_refl _)
  exact this
theorem ch_fold {g : Goal} {list : List Hold} (hv : Valid g list) {costs : List Int} (hc : okCosts list costs) : ∀ (M : List Nat), (∀ x ∈ M, x < 2 ^ 64) → ∀ (b best : List Int) (l : Int) (found : Bool), ((found = false ∧ l = -1) ∨ (found = true ∧ b = best ∧ l = cost list best costs)) →
    ∃ r : List Int × Int, ∃ q : List Int × Bool, ((M.filter fun x => decide (psum g list x = 0)).map (BitVec.ofNat 64)).foldl (chStep list costs) (b, l) = r ∧ (M.map fun x => pickTo (sortH list) x list.length).foldl (cheapStep g list costs) (best, found) = q ∧
      ((q.2 = false ∧ r.2 = -1) ∨ (q.2 = true ∧ r.1 = q.1 ∧ r.2 = cost list q.1 costs)) ∧ ((found = true ∨ 0 < (M.filter fun x => decide (psum g list x = 0)).length) → q.2 = true)
  | [], _, b, best, l, found, h => ⟨_, _, rfl, rfl, h, fun h' => h'.elim id fun h2 => by simp at h2⟩
  | x :: M, hx, b, best, l, found, h => by
    have hps := psum_pick hv x
    have hx64 : (BitVec.ofNat 64 x).toNat = x := by
      rw [BitVec.toNat_ofNat, Nat.mod_eq_of_lt (hx x (List.mem_cons_self ..))]
    have ih := ch_fold hv hc M (fun y hy => hx y (List.mem_cons_of_mem _ hy))
    rw [List.map_cons, List.foldl_cons]
    by_cases h0 : psum g list x = 0
    · have e1 : (x :: M).filter (fun x => decide (psum g list x = 0)) = x :: M.filter fun x => decide (psum g list x = 0) := List.filter_cons_of_pos (by simpa using h0)
      rw [e1, List.map_cons, List.foldl_cons]
      have hs0 : lackSum g list (pickTo (sortH list) x list.length) = 0 := by rw [← hps]; exact h0
      have hcp := cost_pick hv costs x
      have hnn := (cost_nn hc (pickTo (sortH list) x list.length)).1
      have upd2 : ∀ c : Prop, [Decidable c] → True := fun _ _ => trivial
      rcases h with ⟨hf, hl⟩ | ⟨hf, hb, hl⟩
      · subst hf hl
        have e2 : chStep list costs (b, -1) (BitVec.ofNat 64 x) = (pickTo (sortH list) x list.length, cost list (pickTo (sortH list) x list.length) costs) := by
          unfold chStep
          rw [hx64, hcp, if_pos (.inl (by show (-1 : Int) < 0; omega))]
        have e3 : cheapStep g list costs (best, false) (pickTo (sortH list) x list.length) = (pickTo (sortH list) x list.length, true) := if_pos ⟨.inl rfl, hs0⟩
        rw [e2, e3]
        obtain ⟨r, q, h1, h2, h3, h4⟩ := ih (pickTo (sortH list) x list.length) (pickTo (sortH list) x list.length) (cost list (pickTo (sortH list) x list.length) costs) true (.inr ⟨rfl, rfl, rfl⟩)
        exact ⟨r, q, h1, h2, h3, fun _ => h4 (.inl rfl)⟩
      · subst hf hb hl
        have hnb := (cost_nn hc b).1
        by_cases hlt : cost list (pickTo (sortH list) x list.length) costs < cost list b costs
        · have e2 : chStep list costs (b, cost list b costs) (BitVec.ofNat 64 x) = (pickTo (sortH list) x list.length, cost list (pickTo (sortH list) x list.length) costs) := by
            unfold chStep
            rw [hx64, hcp, if_pos (.inr hlt)]
          have e3 : cheapStep g list costs (b, true) (pickTo (sortH list) x list.length) = (pickTo (sortH list) x list.length, true) := if_pos ⟨.inr hlt, hs0⟩
          rw [e2, e3]
          obtain ⟨r, q, h1, h2, h3, h4⟩ := ih (pickTo (sortH list) x list.length) (pickTo (sortH list) x list.length) (cost list (pickTo (sortH list) x list.length) costs) true (.inr ⟨rfl, rfl, rfl⟩)
          exact ⟨r, q, h1, h2, h3, fun _ => h4 (.inl rfl)⟩
        · have e2 : chStep list costs (b, cost list b costs) (BitVec.ofNat 64 x) = (b, cost list b costs) := by
            unfold chStep
            rw [hx64, hcp]
            exact if_neg fun h => h.elim (fun h => by have h : cost list b costs < 0 := h; omega) hlt
          have e3 : cheapStep g list costs (b, true) (pickTo (sortH list) x list.length) = (b, true) := if_neg fun h => h.1.elim (fun h => by cases h) hlt
          rw [e2, e3]
          obtain ⟨r, q, h1, h2, h3, h4⟩ := ih b b (cost list b costs) true (.inr ⟨rfl, rfl, rfl⟩)
          exact ⟨r, q, h1, h2, h3, fun _ => h4 (.inl rfl)⟩
    · have e1 : (x :: M).filter (fun x => decide (psum g list x = 0)) = M.filter fun x => decide (psum g list x = 0) := List.filter_cons_of_neg (by simpa using h0)
      have e3 : cheapStep g list costs (best, found) (pickTo (sortH list) x list.length) = (best, found) := if_neg fun h => h0 (by rw [hps]; exact h.2)
      rw [e1, e3]
      exact ih b best l found h
theorem cheap_eq {g : Goal} {list : List Hold} (h0 : possOf g list = 0) {costs : List Int} (hc : okCosts list costs) : cheapP g list costs = (cheapestOf g list costs, cost list (cheapestOf g list costs) costs) := by
  have hv := (possOf_zero h0).1
  have hl12 := hv.ok.hnl
  have hd := devL_len list
  have hpos := setsP_pos h0
  rw [setsP_eq hl12, List.length_map] at hpos
  have hp : (maskTo (devL list) (list.length + 1)).Perm (List.range (2 ^ list.length)) := by
    have := maskTo_perm (devL list) (by omega)
    rwa [hd] at this
  have hlt : ∀ x ∈ maskTo (devL list) (list.length + 1), x < 2 ^ 64 := fun x hx => Nat.lt_of_lt_of_le (List.mem_range.1 (hp.mem_iff.1 hx)) (Nat.pow_le_pow_right (by omega) (by omega))
  obtain ⟨r, q, h1, h2, h3, h4⟩ := ch_fold hv hc (maskTo (devL list) (list.length + 1)) hlt [] (devL list) (-1) false (.inl ⟨rfl, rfl⟩)
  have h5 := h4 (.inr hpos)
  have hE : cheapE g list costs = 0 := by rw [cheapE, if_pos hc, h0]
  rw [cheapP, if_pos hE, setsP_eq hl12, h1, cheapestOf, devL_eq hv, ← all_eq, h2]
  rcases h3 with ⟨h6, _⟩ | ⟨_, h6, h7⟩
  · rw [h5] at h6; cases h6
  · exact Prod.ext h6 h7
theorem cheapE_zero {g : Goal} {list : List Hold} {costs : List Int} (h : cheapE g list costs = 0) : possOf g list = 0 ∧ okCosts list costs := by
  unfold cheapE at h
  by_cases hok : okCosts list costs
  · rw [if_pos hok] at h
    exact ⟨h, hok⟩
  · rw [if_neg hok] at h
    cases h
end Go.Proofs.Ytlinhckgdfhppaa
