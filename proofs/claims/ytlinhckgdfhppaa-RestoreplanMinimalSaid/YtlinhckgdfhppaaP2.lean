/- A part of the proof: what the functions do, and plain laws. -/
import Derived.Test.YtlinhckgdfhppaaP1
namespace Go.Proofs.Ytlinhckgdfhppaa
open Go Go.Proofs.YtlinhckgdfhppaaK

/-! More devices lack less; where something lacks that all devices have, one device helps. -/
section
variable {g : Goal} {list : List Hold} {a b : List Int}
theorem there_mono (h : ∀ x ∈ list, x.dev ∈ a → x.dev ∈ b) {p : Piece} (ht : there g list a p) : there g list b p := by
  rcases ht with h1 | ⟨x, h1, h2, h3⟩
  · exact .inl h1
  · exact .inr ⟨x, h1, h x h1 h2, h3⟩
theorem has_mono (h : ∀ x ∈ list, x.dev ∈ a → x.dev ∈ b) {p : Int} (ht : hasShare g list a p) : hasShare g list b p := by
  rcases ht with h1 | ⟨x, h1, h2, h3⟩
  · exact .inl h1
  · exact .inr ⟨x, h1, h x h1 h2, h3⟩
theorem cntTo_mono (h : ∀ x ∈ list, x.dev ∈ a → x.dev ∈ b) (n : ByteArray) : ∀ k, cntTo g list a n k ≤ cntTo g list b n k
  | 0 => Nat.le_refl _
  | k + 1 => by
    rw [cntTo, cntTo]
    have := cntTo_mono h n k
    by_cases h1 : there g list a (n, (k : Int))
    · rw [if_pos h1, if_pos (there_mono h h1)]; omega
    · rw [if_neg h1]; omega
theorem shrTo_mono (h : ∀ x ∈ list, x.dev ∈ a → x.dev ∈ b) : ∀ k, shrTo g list a k ≤ shrTo g list b k
  | 0 => Nat.le_refl _
  | k + 1 => by
    rw [shrTo, shrTo]
    have := shrTo_mono h k
    by_cases h1 : hasShare g list a ((k : Int) + 1)
    · rw [if_pos h1, if_pos (has_mono h h1)]; omega
    · rw [if_neg h1]; omega
theorem subN_anti (d : Int) {c c' : Nat} (h : c ≤ c') : subN d c' ≤ subN d c := by unfold subN; omega
theorem lackNeed_mono (h : ∀ x ∈ list, x.dev ∈ a → x.dev ∈ b) (n : Need) : lackNeed g list b n ≤ lackNeed g list a n := subN_anti _ (cntTo_mono h n.1 16)
theorem lackShares_mono (h : ∀ x ∈ list, x.dev ∈ a → x.dev ∈ b) : lackShares g list b ≤ lackShares g list a := subN_anti _ (shrTo_mono h 255)
theorem lackIdx_mono (h : ∀ x ∈ list, x.dev ∈ a → x.dev ∈ b) : lackIdx g list b ≤ lackIdx g list a := by
  unfold lackIdx
  by_cases h1 : lacksIdx g list b
  · rw [if_pos h1, if_pos]
    · omega
    · exact ⟨h1.1, fun ⟨x, h2, h3, h4⟩ => h1.2 ⟨x, h2, h x h2 h3, h4⟩⟩
  · rw [if_neg h1]
    split <;> omega
theorem sum_map_le {α : Type} (f f' : α → Int) : ∀ xs : List α, (∀ x ∈ xs, f x ≤ f' x) → (xs.map f).sum ≤ (xs.map f').sum
  | [], _ => by simp
  | x :: xs, h => by
    have h1 := sum_map_le f f' xs (fun y hy => h y (List.mem_cons_of_mem _ hy))
    have h2 := h x (List.mem_cons_self ..)
    simp only [List.map_cons, List.sum_cons]
    omega
theorem sum_map_lt {α : Type} (f f' : α → Int) : ∀ xs : List α, (∀ x ∈ xs, f x ≤ f' x) → ∀ x ∈ xs, f x < f' x → (xs.map f).sum < (xs.map f').sum
  | x :: xs, h, y, hy, hlt => by
    have h2 := h x (List.mem_cons_self ..)
    have hr := fun z hz => h z (List.mem_cons_of_mem x hz)
    simp only [List.map_cons, List.sum_cons]
    rcases List.mem_cons.1 hy with rfl | hy
    · have := sum_map_le f f' xs hr
      omega
    · have := sum_map_lt f f' xs hr y hy hlt
      omega
theorem lackSum_mono (h : ∀ x ∈ list, x.dev ∈ a → x.dev ∈ b) : lackSum g list b ≤ lackSum g list a := by
  have h1 := sum_map_le (lackNeed g list b) (lackNeed g list a) g.needs (fun n _ => lackNeed_mono h n)
  have h2 := lackShares_mono (g := g) h
  have h3 := lackIdx_mono (g := g) h
  unfold lackSum lackNeeds
  omega
theorem lackSum_same (h : ∀ x ∈ list, x.dev ∈ a ↔ x.dev ∈ b) : lackSum g list a = lackSum g list b :=
  Int.le_antisymm (lackSum_mono fun x hx => (h x hx).2) (lackSum_mono fun x hx => (h x hx).1)
theorem cntTo_grow {n : ByteArray} : ∀ k, cntTo g list a n k < cntTo g list b n k → ∃ i, i < k ∧ ¬ there g list a (n, (i : Int)) ∧ there g list b (n, (i : Int))
  | 0, h => by simp [cntTo] at h
  | k + 1, h => by
    rw [cntTo, cntTo] at h
    by_cases h1 : there g list b (n, (k : Int)) ∧ ¬ there g list a (n, (k : Int))
    · exact ⟨k, by omega, h1.2, h1.1⟩
    · have h2 : cntTo g list a n k < cntTo g list b n k := by
        by_cases h3 : there g list b (n, (k : Int))
        · have h4 : there g list a (n, (k : Int)) := Decidable.byContradiction fun h4 => h1 ⟨h3, h4⟩
          rw [if_pos h3, if_pos h4] at h
          omega
        · rw [if_neg h3] at h
          omega
      obtain ⟨i, hi, h5⟩ := cntTo_grow k h2
      exact ⟨i, by omega, h5⟩
theorem shrTo_grow : ∀ k, shrTo g list a k < shrTo g list b k → ∃ i, i < k ∧ ¬ hasShare g list a ((i : Int) + 1) ∧ hasShare g list b ((i : Int) + 1)
  | 0, h => by simp [shrTo] at h
  | k + 1, h => by
    rw [shrTo, shrTo] at h
    by_cases h1 : hasShare g list b ((k : Int) + 1) ∧ ¬ hasShare g list a ((k : Int) + 1)
    · exact ⟨k, by omega, h1.2, h1.1⟩
    · have h2 : shrTo g list a k < shrTo g list b k := by
        by_cases h3 : hasShare g list b ((k : Int) + 1)
        · have h4 : hasShare g list a ((k : Int) + 1) := Decidable.byContradiction fun h4 => h1 ⟨h3, h4⟩
          rw [if_pos h3, if_pos h4] at h
          omega
        · rw [if_neg h3] at h
          omega
      obtain ⟨i, hi, h5⟩ := shrTo_grow k h2
      exact ⟨i, by omega, h5⟩
theorem cntTo_strict (h : ∀ x ∈ list, x.dev ∈ a → x.dev ∈ b) {n : ByteArray} {i : Nat} (h1 : ¬ there g list a (n, (i : Int))) (h2 : there g list b (n, (i : Int))) : ∀ k, i < k → cntTo g list a n k < cntTo g list b n k
  | k + 1, hk => by
    rw [cntTo, cntTo]
    rcases Nat.lt_or_ge i k with h3 | h3
    · have := cntTo_strict h h1 h2 k h3
      by_cases h4 : there g list a (n, (k : Int))
      · rw [if_pos h4, if_pos (there_mono h h4)]; omega
      · rw [if_neg h4]; omega
    · obtain rfl : i = k := by omega
      have := cntTo_mono (g := g) h n i
      rw [if_neg h1, if_pos h2]
      omega
theorem shrTo_strict (h : ∀ x ∈ list, x.dev ∈ a → x.dev ∈ b) {i : Nat} (h1 : ¬ hasShare g list a ((i : Int) + 1)) (h2 : hasShare g list b ((i : Int) + 1)) : ∀ k, i < k → shrTo g list a k < shrTo g list b k
  | k + 1, hk => by
    rw [shrTo, shrTo]
    rcases Nat.lt_or_ge i k with h3 | h3
    · have := shrTo_strict h h1 h2 k h3
      by_cases h4 : hasShare g list a ((k : Int) + 1)
      · rw [if_pos h4, if_pos (has_mono h h4)]; omega
      · rw [if_neg h4]; omega
    · obtain rfl : i = k := by omega
      have := shrTo_mono (g := g) h i
      rw [if_neg h1, if_pos h2]
      omega
theorem sum_nn {α : Type} (f : α → Int) (hf : ∀ x, 0 ≤ f x) (xs : List α) : 0 ≤ (xs.map f).sum := by
  induction xs with
  | nil => simp
  | cons x xs ih =>
    have := hf x
    simp only [List.map_cons, List.sum_cons]
    omega
theorem sum_zero_each {α : Type} (f : α → Int) (hf : ∀ x, 0 ≤ f x) : ∀ xs : List α, (xs.map f).sum = 0 → ∀ x ∈ xs, f x = 0
  | x :: xs, h, y, hy => by
    have h1 := sum_nn f hf xs
    have h2 := hf x
    simp only [List.map_cons, List.sum_cons] at h
    rcases List.mem_cons.1 hy with rfl | hy
    · omega
    · exact sum_zero_each f hf xs (by omega) y hy
theorem sum_pos_some {α : Type} (f : α → Int) (hf : ∀ x, 0 ≤ f x) : ∀ xs : List α, 0 < (xs.map f).sum → ∃ x ∈ xs, 0 < f x
  | x :: xs, h => by
    by_cases h1 : 0 < f x
    · exact ⟨x, List.mem_cons_self .., h1⟩
    · simp only [List.map_cons, List.sum_cons] at h
      obtain ⟨y, hy, h2⟩ := sum_pos_some f hf xs (by omega)
      exact ⟨y, List.mem_cons_of_mem _ hy, h2⟩
/-- What lacks and all have, one device more makes less. -/
theorem gain_ex (h0 : 0 < lackSum g list a) (hb : lackSum g list b = 0) : ∃ x ∈ list, lackSum g list (x.dev :: a) < lackSum g list a := by
  have nn : ∀ (d : List Int) (n : Need), 0 ≤ lackNeed g list d n := fun d n => subN_nn _ _
  have nb := sum_nn (lackNeed g list b) (nn b) g.needs
  have ns : 0 ≤ lackShares g list b := subN_nn _ _
  have ni : 0 ≤ lackIdx g list b := by unfold lackIdx; split <;> omega
  have grow : ∀ x : Hold, ∀ y ∈ list, y.dev ∈ a → y.dev ∈ x.dev :: a := fun x y _ h => List.mem_cons_of_mem _ h
  have le1 := fun x : Hold => sum_map_le (lackNeed g list (x.dev :: a)) (lackNeed g list a) g.needs (fun n _ => lackNeed_mono (grow x) n)
  have le2 := fun x : Hold => lackShares_mono (g := g) (grow x)
  have le3 := fun x : Hold => lackIdx_mono (g := g) (grow x)
  unfold lackSum lackNeeds at *
  have z1 : (g.needs.map (lackNeed g list b)).sum = 0 := by omega
  have z2 : lackShares g list b = 0 := by omega
  have z3 : lackIdx g list b = 0 := by omega
  have ms : 0 ≤ lackShares g list a := subN_nn _ _
  have mi : 0 ≤ lackIdx g list a := by unfold lackIdx; split <;> omega
  by_cases c1 : 0 < (g.needs.map (lackNeed g list a)).sum
  · obtain ⟨n, hn, hp⟩ := sum_pos_some _ (nn a) _ c1
    have hz := sum_zero_each _ (nn b) _ z1 n hn
    have hlt : cntTo g list a n.1 16 < cntTo g list b n.1 16 := by
      unfold lackNeed subN at hp hz
      omega
    obtain ⟨i, hi, h1, h2⟩ := cntTo_grow 16 hlt
    rcases h2 with h2 | ⟨x, hx, _, h3⟩
    · exact absurd (.inl h2) h1
    · refine ⟨x, hx, ?_⟩
      have hst := cntTo_strict (grow x) h1 (.inr ⟨x, hx, List.mem_cons_self .., h3⟩) 16 hi
      have hl : lackNeed g list (x.dev :: a) n < lackNeed g list a n := by
        unfold lackNeed subN at *
        omega
      have := sum_map_lt (lackNeed g list (x.dev :: a)) (lackNeed g list a) g.needs (fun n _ => lackNeed_mono (grow x) n) n hn hl
      have := le2 x
      have := le3 x
      omega
  · have n1 := sum_nn (lackNeed g list a) (nn a) g.needs
    by_cases c2 : 0 < lackShares g list a
    · have hlt : shrTo g list a 255 < shrTo g list b 255 := by
        unfold lackShares subN at c2 z2
        omega
      obtain ⟨i, hi, h1, h2⟩ := shrTo_grow 255 hlt
      rcases h2 with h2 | ⟨x, hx, _, h3⟩
      · exact absurd (.inl h2) h1
      · refine ⟨x, hx, ?_⟩
        have hst := shrTo_strict (grow x) h1 (.inr ⟨x, hx, List.mem_cons_self .., h3⟩) 255 hi
        have hl : lackShares g list (x.dev :: a) < lackShares g list a := by
          unfold lackShares subN at *
          omega
        have := le1 x
        have := le3 x
        omega
    · have c3 : lackIdx g list a = 1 := by
        have : lackIdx g list a ≤ 1 := by unfold lackIdx; split <;> omega
        omega
      have hl : lacksIdx g list a := by
        unfold lackIdx at c3
        split at c3
        · assumption
        · cases c3
      have hnb : ¬ lacksIdx g list b := fun h => by
        unfold lackIdx at z3
        rw [if_pos h] at z3
        cases z3
      have : ∃ x ∈ list, x.dev ∈ b ∧ x.index = true := Decidable.byContradiction fun h => hnb ⟨hl.1, h⟩
      obtain ⟨x, hx, _, h3⟩ := this
      refine ⟨x, hx, ?_⟩
      have h4 : lackIdx g list (x.dev :: a) = 0 := by
        unfold lackIdx
        rw [if_neg]
        exact fun h => h.2 ⟨x, hx, List.mem_cons_self .., h3⟩
      have := le1 x
      have := le2 x
      omega
end
end Go.Proofs.Ytlinhckgdfhppaa
