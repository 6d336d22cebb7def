/- A part of the proof: what the functions do, and plain laws. -/
import Derived.Test.YtlinhckgdfhppaaP2
namespace Go.Proofs.Ytlinhckgdfhppaa
open Go Go.Proofs.YtlinhckgdfhppaaK

/-! The program's sets and their devices. -/
theorem devs_inj {list : List Hold} (hd : (list.map (·.dev)).Nodup) {i j : Nat} (hi : i < list.length) (hj : j < list.length) (h : (hgt (sortH list) i).dev = (hgt (sortH list) j).dev) : i = j := by
  have hl := sortH_len list
  have hd2 : ((sortH list).map (·.dev)).Nodup := ((sortH_perm list).map _).nodup_iff.2 hd
  rw [hgt_eq _ _ (by omega), hgt_eq _ _ (by omega)] at h
  rcases Nat.lt_trichotomy i j with h1 | h1 | h1
  · exact absurd (by rw [List.getElem_map, List.getElem_map]; exact h) ((List.pairwise_iff_getElem.1 hd2) i j (by simp; omega) (by simp; omega) h1)
  · exact h1
  · exact absurd (by rw [List.getElem_map, List.getElem_map]; exact h.symm) ((List.pairwise_iff_getElem.1 hd2) j i (by simp; omega) (by simp; omega) h1)
theorem pickTo_mem (L : List Hold) (s : Nat) (d : Int) : ∀ k, d ∈ pickTo L s k ↔ ∃ j, j < k ∧ s.testBit j = true ∧ (hgt L j).dev = d
  | 0 => by simp [pickTo]
  | k + 1 => by
    have ih := pickTo_mem L s d k
    rw [pickTo]
    by_cases ht : s.testBit k = true
    · rw [if_pos ht, List.mem_append, ih, List.mem_singleton]
      constructor
      · rintro (⟨j, h1, h2⟩ | h)
        · exact ⟨j, by omega, h2⟩
        · exact ⟨k, by omega, ht, h.symm⟩
      · rintro ⟨j, h1, h2, h3⟩
        rcases Nat.lt_or_ge j k with h4 | h4
        · exact .inl ⟨j, h4, h2, h3⟩
        · obtain rfl : j = k := by omega
          exact .inr h3.symm
    · rw [if_neg ht, ih]
      constructor
      · rintro ⟨j, h1, h2⟩
        exact ⟨j, by omega, h2⟩
      · rintro ⟨j, h1, h2, h3⟩
        rcases Nat.lt_or_ge j k with h4 | h4
        · exact ⟨j, h4, h2, h3⟩
        · obtain rfl : j = k := by omega
          exact absurd h2 ht
section
variable {g : Goal} {list : List Hold}
theorem pick_bit (hv : Valid g list) (s j : Nat) (hj : j < list.length) : s.testBit j = true ↔ (hgt (sortH list) j).dev ∈ pickTo (sortH list) s list.length := by
  rw [pickTo_mem]
  constructor
  · exact fun h => ⟨j, hj, h, rfl⟩
  · rintro ⟨i, h1, h2, h3⟩
    rwa [← devs_inj hv.nodup h1 hj h3]
theorem psum_pick (hv : Valid g list) (s : Nat) : psum g list s = lackSum g list (pickTo (sortH list) s list.length) := psum_eq hv s _ (pick_bit hv s)
theorem or_bit (s i j : Nat) : (s ||| 2 ^ i).testBit j = true ↔ s.testBit j = true ∨ i = j := by
  rw [Nat.testBit_or, Bool.or_eq_true, Nat.testBit_two_pow, decide_eq_true_eq]
theorem psum_or (hv : Valid g list) (s i : Nat) (hi : i < list.length) : psum g list (s ||| 2 ^ i) = lackSum g list ((hgt (sortH list) i).dev :: pickTo (sortH list) s list.length) := by
  refine psum_eq hv _ _ fun j hj => ?_
  rw [or_bit, List.mem_cons, ← pick_bit hv s j hj]
  constructor
  · rintro (h | h)
    · exact .inr h
    · exact .inl (by rw [h])
  · rintro (h | h)
    · exact .inr (devs_inj hv.nodup hj hi h).symm
    · exact .inl h
theorem psum_full (hv : Valid g list) (devs : List Int) (hd : ∀ x ∈ list, x.dev ∈ devs) : psum g list (2 ^ list.length - 1) = lackSum g list devs := by
  refine psum_eq hv _ _ fun j hj => ?_
  rw [Nat.testBit_two_pow_sub_one, decide_eq_true hj]
  simp only [true_iff]
  exact hd _ ((sortH_perm list).mem_iff.1 (by rw [hgt_eq _ _ (by rw [sortH_len]; exact hj)]; exact List.getElem_mem _))
/-- The gain of holding i beside the set s. -/
def gainV (g : Goal) (list : List Hold) (s i : Nat) : Int := psum g list s - psum g list (s ||| 2 ^ i)
theorem gainV_nn (hv : Valid g list) (s i : Nat) (hi : i < list.length) : 0 ≤ gainV g list s i := by
  unfold gainV
  rw [psum_or hv s i hi, psum_pick hv s]
  have := lackSum_mono (g := g) (list := list) (a := pickTo (sortH list) s list.length) (b := (hgt (sortH list) i).dev :: pickTo (sortH list) s list.length) (fun x _ h => List.mem_cons_of_mem _ h)
  omega
/-- The holding with the greatest gain among the first k, and that gain. -/
def nextTo (g : Goal) (list : List Hold) (s : Nat) : Nat → Nat × Int
  | 0 => (0, -1)
  | k + 1 => if (nextTo g list s k).2 < gainV g list s k then (k, gainV g list s k) else nextTo g list s k
theorem nextTo_ge (s : Nat) : ∀ k i, i < k → gainV g list s i ≤ (nextTo g list s k).2
  | k + 1, i, hi => by
    rw [nextTo]
    by_cases h : (nextTo g list s k).2 < gainV g list s k
    · rw [if_pos h]
      show gainV g list s i ≤ gainV g list s k
      rcases Nat.lt_or_ge i k with h1 | h1
      · have := nextTo_ge s k i h1
        omega
      · rw [show i = k by omega]
        exact Int.le_refl _
    · rw [if_neg h]
      rcases Nat.lt_or_ge i k with h1 | h1
      · exact nextTo_ge s k i h1
      · rw [show i = k by omega]
        omega
theorem nextTo_is (hv : Valid g list) (s : Nat) : ∀ k, k ≤ list.length → (k = 0 ∧ nextTo g list s k = (0, -1)) ∨ ((nextTo g list s k).1 < k ∧ (nextTo g list s k).2 = gainV g list s (nextTo g list s k).1)
  | 0, _ => .inl ⟨rfl, rfl⟩
  | k + 1, hk => by
    right
    rw [nextTo]
    by_cases h : (nextTo g list s k).2 < gainV g list s k
    · rw [if_pos h]
      exact ⟨Nat.lt_succ_self _, rfl⟩
    · rw [if_neg h]
      rcases nextTo_is hv s k (by omega) with ⟨h1, h2⟩ | ⟨h1, h2⟩
      · rw [h2] at h
        have := gainV_nn hv s k (by omega)
        exact absurd (by omega) h
      · exact ⟨by omega, h2⟩
def nxt (g : Goal) (list : List Hold) (s : Nat) : Nat := (nextTo g list s list.length).1
theorem nxt_less (hv : Valid g list) (h0 : psum g list (2 ^ list.length - 1) = 0) (s : Nat) (hs : psum g list s ≠ 0) : nxt g list s < list.length ∧ psum g list (s ||| 2 ^ nxt g list s) < psum g list s := by
  have hp := psum_bd hv s
  rw [psum_full hv (list.map (·.dev)) (fun x hx => List.mem_map_of_mem hx)] at h0
  have h1 : 0 < lackSum g list (pickTo (sortH list) s list.length) := by rw [← psum_pick hv]; omega
  obtain ⟨x, hx, hlt⟩ := gain_ex h1 h0
  obtain ⟨i, hi, rfl⟩ := List.mem_iff_getElem.1 ((sortH_perm list).mem_iff.2 hx)
  have hi' : i < list.length := by rw [← sortH_len]; exact hi
  rw [← hgt_eq _ _ hi, ← psum_or hv s i hi', ← psum_pick hv s] at hlt
  have hg := nextTo_ge (g := g) (list := list) s list.length i hi'
  rcases nextTo_is hv s list.length (Nat.le_refl _) with ⟨h2, _⟩ | ⟨h2, h3⟩
  · omega
  · refine ⟨h2, ?_⟩
    unfold nxt
    rw [h3] at hg
    unfold gainV at hg
    omega
/-- The first m steps of Greedy: the set and the devices. -/
def grTo (g : Goal) (list : List Hold) : Nat → Nat × List Int
  | 0 => (0, [])
  | m + 1 => if psum g list (grTo g list m).1 = 0 then grTo g list m else ((grTo g list m).1 ||| 2 ^ nxt g list (grTo g list m).1, (grTo g list m).2 ++ [(hgt (sortH list) (nxt g list (grTo g list m).1)).dev])
theorem grTo_stay (m : Nat) (h : psum g list (grTo g list m).1 = 0) : ∀ j, grTo g list (m + j) = grTo g list m
  | 0 => rfl
  | j + 1 => by
    have ih := grTo_stay m h j
    rw [← Nat.add_assoc, grTo, ih, if_pos h]
theorem grTo_one (m k : Nat) (hm : psum g list (grTo g list m).1 = 0) (hk : psum g list (grTo g list k).1 = 0) : grTo g list m = grTo g list k := by
  rcases Nat.le_total m k with h | h
  · have := grTo_stay m hm (k - m)
    rwa [Nat.add_sub_cancel' h, eq_comm] at this
  · have := grTo_stay k hk (m - k)
    rwa [Nat.add_sub_cancel' h] at this
theorem grTo_lt (hv : Valid g list) (h0 : psum g list (2 ^ list.length - 1) = 0) : ∀ m, (grTo g list m).1 < 2 ^ list.length ∧ (grTo g list m).2.length ≤ m
  | 0 => ⟨Nat.pow_pos (by omega), Nat.le_refl _⟩
  | m + 1 => by
    have ih := grTo_lt hv h0 m
    rw [grTo]
    by_cases h : psum g list (grTo g list m).1 = 0
    · rw [if_pos h]
      exact ⟨ih.1, by omega⟩
    · rw [if_neg h]
      have h1 := nxt_less hv h0 _ h
      refine ⟨Nat.or_lt_two_pow ih.1 (Nat.pow_lt_pow_right (by omega) h1.1), ?_⟩
      show ((grTo g list m).2 ++ _).length ≤ _
      rw [List.length_append, List.length_singleton]
      omega
theorem grTo_sum (hv : Valid g list) (h0 : psum g list (2 ^ list.length - 1) = 0) : ∀ m, psum g list (grTo g list m).1 ≠ 0 → psum g list (grTo g list m).1 + m ≤ 66000
  | 0, _ => by have := (psum_bd hv (grTo g list 0).1).2; omega
  | m + 1, h => by
    rw [grTo] at h ⊢
    by_cases h1 : psum g list (grTo g list m).1 = 0
    · rw [if_pos h1] at h
      exact absurd h1 h
    · rw [if_neg h1]
      have ih := grTo_sum hv h0 m h1
      have h2 := (nxt_less hv h0 _ h1).2
      show psum g list ((grTo g list m).1 ||| 2 ^ nxt g list (grTo g list m).1) + _ ≤ _
      omega
end
end Go.Proofs.Ytlinhckgdfhppaa
