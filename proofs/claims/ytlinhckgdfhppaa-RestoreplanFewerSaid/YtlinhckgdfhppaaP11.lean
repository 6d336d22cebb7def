import Derived.Test.YtlinhckgdfhppaaP10
set_option linter.unusedSimpArgs false
set_option linter.unusedVariables false
namespace Go.Proofs.Ytlinhckgdfhppaa
open Go Go.RowKit Go.Proofs.YtlinhckgdfhppaaK

/-! The fewest devices: what the law RestoreplanFewer says of them. -/
theorem pick_cnt (L : List Hold) (s : Nat) : ∀ k, (pickTo L s k).length = cntB s.testBit k
  | 0 => rfl
  | k + 1 => by
    have ih := pick_cnt L s k
    rw [pickTo, cntB]
    by_cases h : s.testBit k = true
    · rw [if_pos h, List.length_append, List.length_singleton, ih, h]; rfl
    · rw [if_neg h, ih, Bool.eq_false_iff.2 h]; rfl
theorem cntB_high (f : Nat → Bool) (m : Nat) (h : ∀ j, m ≤ j → f j = false) : ∀ n, m ≤ n → cntB f n = cntB f m
  | 0, hn => by rw [show m = 0 by omega]
  | n + 1, hn => by
    rcases Nat.lt_or_ge n m with h1 | h1
    · rw [show n + 1 = m by omega]
    · rw [cntB, cntB_high f m h n h1, h n h1]; rfl
theorem pick_len (list : List Hold) (s : Nat) (hs : s < 2 ^ list.length) (hl : list.length ≤ 12) : (pickTo (sortH list) s list.length).length = cnt64 (BitVec.ofNat 64 s) := by
  have h12 : 2 ^ list.length ≤ 2 ^ 12 := Nat.pow_le_pow_right (by omega) hl
  rw [pick_cnt, (cnt64_of (a := s) (by omega)).1, cntB_high s.testBit list.length (fun j hj => Nat.testBit_lt_two_pow (Nat.lt_of_lt_of_le hs (Nat.pow_le_pow_right (by omega) hj))) 64 (by omega)]
theorem nodup_len : ∀ (a b : List Int), a.Nodup → (∀ x ∈ a, x ∈ b) → a.length ≤ b.length
  | [], b, _, _ => Nat.zero_le _
  | x :: a, b, hn, hs => by
    have hx := hs x (List.mem_cons_self ..)
    obtain ⟨h1, h2⟩ := List.nodup_cons.1 hn
    have := nodup_len a (b.erase x) h2 fun y hy => (List.mem_erase_of_ne (fun e => h1 (by rw [← e]; exact hy))).2 (hs y (List.mem_cons_of_mem _ hy))
    have h3 := List.length_erase_of_mem hx
    have h4 := List.length_pos_of_mem hx
    rw [List.length_cons]
    omega
section
variable {g : Goal} {list : List Hold}
theorem set_at (h0 : possOf g list = 0) (k : Nat) (hk : k < (setsP g list).length) : ∃ s, s < 2 ^ list.length ∧ psum g list s = 0 ∧ ug (setsP g list) k = BitVec.ofNat 64 s ∧ (ug (setsP g list) k).toNat = s := by
  have hl := (possOf_zero h0).1.ok.hnl
  have h12 : 2 ^ list.length ≤ 2 ^ 12 := Nat.pow_le_pow_right (by omega) hl
  obtain ⟨s, h1, h2, h3⟩ := (setsP_mem g list (ug (setsP g list) k)).1 (by rw [ug_eq _ _ hk]; exact List.getElem_mem hk)
  exact ⟨s, h1, h2, h3.symm, by rw [← h3, BitVec.toNat_ofNat, Nat.mod_eq_of_lt (by omega)]⟩
theorem sets_cnt (k : Nat) (hk : k < (setsP g list).length) : cnt64 (ug (setsP g list) 0) ≤ cnt64 (ug (setsP g list) k) := by
  rcases Nat.eq_zero_or_pos k with h | h
  · rw [h]; exact Nat.le_refl _
  · have h1 := List.pairwise_iff_getElem.1 (sortU_sorted (selTo g list (2 ^ list.length))) 0 k (show 0 < (setsP g list).length by omega) hk h
    rw [ug_eq _ _ hk, ug_eq _ _ (by omega)]
    have h2 : ¬ ltU (setsP g list)[k] ((setsP g list)[0]'(by omega)) := h1
    unfold ltU at h2
    omega
/-- The fewest devices, their number, and that they suffice. -/
theorem fewest_is (h0 : possOf g list = 0) : fewestP g list = pickTo (sortH list) (ug (setsP g list) 0).toNat list.length := if_pos h0
theorem fewest_len (h0 : possOf g list = 0) : (fewestP g list).length ≤ list.length := by
  rw [fewest_is h0]
  exact pickTo_len _ _ _
theorem fewest_suf (h0 : possOf g list = 0) : sufP g list (fewestP g list) = true := by
  obtain ⟨s, h1, h2, h3, h4⟩ := set_at h0 0 (setsP_pos h0)
  have hv := (possOf_zero h0).1
  rw [fewest_is h0, h4]
  exact decide_eq_true ⟨hv, by rw [← psum_pick hv]; exact h2⟩
theorem fewest_least (h0 : possOf g list = 0) {other : List Int} (hs : sufP g list other = true) : (fewestP g list).length ≤ other.length := by
  have hv := (possOf_zero h0).1
  have hl := hv.ok.hnl
  have h12 : 2 ^ list.length ≤ 2 ^ 12 := Nat.pow_le_pow_right (by omega) hl
  have hx := setTo_lt (sortH list) other list.length
  have hp : psum g list (setTo (sortH list) other list.length) = 0 := by rw [psum_set hv]; exact (of_decide_eq_true hs).2
  have hm := (setsP_mem g list (BitVec.ofNat 64 (setTo (sortH list) other list.length))).2 ⟨_, hx, hp, rfl⟩
  obtain ⟨k, hk, e⟩ := List.mem_iff_getElem.1 hm
  have h1 := sets_cnt k hk
  rw [ug_eq _ _ hk, e, ← pick_len list _ hx hl] at h1
  obtain ⟨s, s1, s2, s3, s4⟩ := set_at h0 0 (setsP_pos h0)
  have h2 : (fewestP g list).length = cnt64 (ug (setsP g list) 0) := by rw [fewest_is h0, s4, pick_len list s s1 hl, s3]
  rw [h2]
  refine Nat.le_trans h1 (nodup_len _ _ (pickTo_nodup hv _ _ (Nat.le_refl _)) fun d hd => ?_)
  obtain ⟨j, hj, hb, rfl⟩ := (pickTo_mem _ _ _ _).1 hd
  exact ((setTo_bit _ _ _ _).1 hb).2
theorem fewest_each (h0 : possOf g list = 0) (i : Nat) (hi : i < (fewestP g list).length) : sufP g list ((fewestP g list).eraseIdx i) = false := by
  refine Bool.eq_false_iff.2 fun h => ?_
  have h1 := fewest_least h0 h
  rw [List.length_eraseIdx_of_lt hi] at h1
  omega
theorem greedy_suf (h0 : possOf g list = 0) {out : List Int} (h : IsGreedy g list out) : sufP g list out = true := by
  have hv := (possOf_zero h0).1
  have hz := (possOf_zero h0).2
  obtain ⟨m, h1, rfl⟩ := h.1 h0
  exact decide_eq_true ⟨hv, by rw [← psum_gr hv hz]; exact h1⟩
/-- With equal costs the cheapest set is the one with the fewest devices. -/
def threes (list : List Hold) : List Int := List.replicate list.length 3
theorem threes_ok (list : List Hold) : okCosts list (threes list) := ⟨List.length_replicate, fun x hx => by rw [(List.mem_replicate.1 hx).2]; omega⟩
theorem sum_threes (hv : Valid g list) (s : Nat) : sumDev (ofTo list (threes list) list.length) (pickTo (sortH list) s list.length) = 3 * ((pickTo (sortH list) s list.length).length : Int) := by
  have key : ∀ ds : List Int, (∀ d ∈ ds, ∃ h ∈ list, h.dev = d) → sumDev (ofTo list (threes list) list.length) ds = 3 * (ds.length : Int) := by
    intro ds
    induction ds with
    | nil => exact fun _ => rfl
    | cons d ds ih =>
      intro hd
      have h1 := ih fun x hx => hd x (List.mem_cons_of_mem _ hx)
      obtain ⟨h, hm, rfl⟩ := hd d (List.mem_cons_self ..)
      obtain ⟨i, hi, rfl⟩ := List.mem_iff_getElem.1 hm
      have h2 : ofTo list (threes list) list.length list[i].dev = some 3 := by
        have := ofTo_at list (threes list) hv.nodup list.length (Nat.le_refl _) i hi
        rw [hgt_eq _ _ hi, ig_eq _ _ (by rw [threes, List.length_replicate]; exact hi)] at this
        rw [this]
        simp [threes]
      unfold sumDev at h1 ⊢
      rw [List.map_cons, List.sum_cons, h1, h2, List.length_cons]
      show (3 : Int) + 3 * (ds.length : Int) = 3 * ((ds.length + 1 : Nat) : Int)
      omega
  refine key _ fun d hd => ?_
  obtain ⟨j, hj, _, rfl⟩ := (pickTo_mem _ _ _ _).1 hd
  exact ⟨_, hgt_mem hj, rfl⟩
theorem cheap_threes (h0 : possOf g list = 0) : cheapP g list (threes list) = (fewestP g list, 3 * ((fewestP g list).length : Int)) := by
  have hv := (possOf_zero h0).1
  have hl := hv.ok.hnl
  have hE : cheapE g list (threes list) = 0 := by rw [cheapE, if_pos (threes_ok list), h0]
  have hpos := setsP_pos h0
  have key : ∀ k, k < (setsP g list).length → chTo g list (threes list) (k + 1) = (fewestP g list, 3 * ((fewestP g list).length : Int)) := by
    intro k
    induction k with
    | zero =>
      intro hk
      have h1 : chTo g list (threes list) 1 = chStep list (threes list) ([], -1) (ug (setsP g list) 0) := foldl_take_succ (chStep list (threes list)) ([], -1) (setsP g list) 0 _ hk (ug_eq _ 0 hk).symm
      rw [h1, chStep, if_pos (.inl (by show (-1 : Int) < 0; omega)), sum_threes hv, ← fewest_is h0]
    | succ k ih =>
      intro hk
      have h1 : chTo g list (threes list) (k + 2) = chStep list (threes list) (chTo g list (threes list) (k + 1)) (ug (setsP g list) (k + 1)) := foldl_take_succ (chStep list (threes list)) ([], -1) (setsP g list) (k + 1) _ hk (ug_eq _ _ hk).symm
      obtain ⟨s, s1, s2, s3, s4⟩ := set_at h0 (k + 1) hk
      have h2 := fewest_least h0 (other := pickTo (sortH list) s list.length) (decide_eq_true ⟨hv, by rw [← psum_pick hv]; exact s2⟩)
      rw [h1, ih (by omega), chStep, sum_threes hv, s4]
      refine if_neg fun h => ?_
      rcases h with h | h
      · have h : 3 * ((fewestP g list).length : Int) < 0 := h
        omega
      · have h : 3 * ((pickTo (sortH list) s list.length).length : Int) < 3 * ((fewestP g list).length : Int) := h
        omega
  have h1 := key ((setsP g list).length - 1) (by omega)
  rw [show (setsP g list).length - 1 + 1 = (setsP g list).length by omega, chTo, List.take_length] at h1
  rw [cheapP, if_pos hE, h1]
end
end Go.Proofs.Ytlinhckgdfhppaa
