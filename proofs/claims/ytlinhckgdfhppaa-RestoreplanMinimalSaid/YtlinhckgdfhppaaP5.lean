/- A part of the proof: what the functions do, and plain laws. -/
import Derived.Test.YtlinhckgdfhppaaC44
namespace Go.Proofs.Ytlinhckgdfhppaa
open Go Go.RowKit Go.Proofs.YtlinhckgdfhppaaK Go.Sort

/-! The program's order of sets is the document's. -/
/-- The sets of m of the places from off on, as bits, in the document's order. -/
def maskSets : List Int → Nat → Nat → List Nat
  | _, _, 0 => [0]
  | [], _, _ + 1 => []
  | _ :: ds, off, m + 1 => (maskSets ds (off + 1) m).map (2 ^ off ||| ·) ++ maskSets ds (off + 1) (m + 1)
/-- The devices whose places from off on are set. -/
def pickFrom : List Int → Nat → Nat → List Int
  | [], _, _ => []
  | d :: ds, off, x => if x.testBit off = true then d :: pickFrom ds (off + 1) x else pickFrom ds (off + 1) x
/-- No bit below off. -/
def Above (off x : Nat) : Prop := ∀ j, j < off → x.testBit j = false
theorem above_or {off x : Nat} (h : Above (off + 1) x) : Above off (2 ^ off ||| x) := fun j hj => by
  rw [Nat.testBit_or, h j (by omega), Nat.testBit_two_pow, Bool.or_false]
  exact decide_eq_false (by omega)
theorem above_zero (off : Nat) : Above off 0 := fun j _ => by simp
theorem maskSets_above : ∀ (ds : List Int) (off m : Nat), ∀ x ∈ maskSets ds off m, Above off x
  | _, off, 0, x, h => by
    obtain rfl : x = 0 := by simpa [maskSets] using h
    exact above_zero off
  | [], off, m + 1, x, h => by simp [maskSets] at h
  | d :: ds, off, m + 1, x, h => by
    rw [maskSets, List.mem_append, List.mem_map] at h
    rcases h with ⟨y, hy, rfl⟩ | h
    · exact above_or (maskSets_above ds (off + 1) m y hy)
    · exact fun j hj => maskSets_above ds (off + 1) (m + 1) x h j (by omega)
theorem pickFrom_or (ds : List Int) : ∀ (off o x : Nat), o < off → pickFrom ds off (2 ^ o ||| x) = pickFrom ds off x := by
  induction ds with
  | nil => exact fun _ _ _ _ => rfl
  | cons d ds ih =>
    intro off o x h
    have e : (2 ^ o ||| x).testBit off = x.testBit off := by
      rw [Nat.testBit_or, Nat.testBit_two_pow, decide_eq_false (by omega), Bool.false_or]
    rw [pickFrom, pickFrom, e, ih (off + 1) o x (by omega)]
theorem pickFrom_zero : ∀ (ds : List Int) (off : Nat), pickFrom ds off 0 = []
  | [], _ => rfl
  | d :: ds, off => by rw [pickFrom, if_neg (by simp), pickFrom_zero ds (off + 1)]
theorem maskSets_pick : ∀ (ds : List Int) (off m : Nat), (maskSets ds off m).map (pickFrom ds off) = setsOf ds m
  | [], off, 0 => by simp [maskSets, setsOf, pickFrom]
  | d :: ds, off, 0 => by simp [maskSets, setsOf, pickFrom_zero]
  | [], off, m + 1 => by simp [maskSets, setsOf]
  | d :: ds, off, m + 1 => by
    rw [maskSets, setsOf, List.map_append, List.map_map, ← maskSets_pick ds (off + 1) m, ← maskSets_pick ds (off + 1) (m + 1), List.map_map]
    congr 1
    · refine List.map_congr_left fun x hx => ?_
      show pickFrom (d :: ds) off (2 ^ off ||| x) = d :: pickFrom ds (off + 1) x
      rw [pickFrom, if_pos (by rw [Nat.testBit_or, Nat.testBit_two_pow_self, Bool.true_or]), pickFrom_or ds (off + 1) off x (by omega)]
    · refine List.map_congr_left fun x hx => ?_
      rw [pickFrom, if_neg (by rw [maskSets_above ds (off + 1) (m + 1) x hx off (by omega)]; decide)]
/-- a comes first: at the lowest place where they differ, it has the bit. -/
def Fst (a b : Nat) : Prop := ∃ i, i < 64 ∧ a.testBit i = true ∧ b.testBit i = false ∧ ∀ j, j < i → a.testBit j = b.testBit j
theorem maskSets_fst : ∀ (ds : List Int) (off m : Nat), off + ds.length ≤ 64 → (maskSets ds off m).Pairwise Fst
  | _, _, 0, _ => by simp [maskSets]
  | [], _, _ + 1, _ => by simp [maskSets]
  | d :: ds, off, m + 1, h => by
    simp only [List.length_cons] at h
    rw [maskSets, List.pairwise_append]
    refine ⟨?_, maskSets_fst ds (off + 1) (m + 1) (by omega), ?_⟩
    · rw [List.pairwise_map]
      refine (maskSets_fst ds (off + 1) m (by omega)).imp_of_mem fun {a b} ha hb hf => ?_
      obtain ⟨i, h0, h1, h2, h3⟩ := hf
      have hio : off ≠ i := fun e => by
        subst e
        rw [maskSets_above ds (off + 1) m a ha off (by omega)] at h1
        cases h1
      refine ⟨i, h0, by rw [Nat.testBit_or, h1, Bool.or_true], by rw [Nat.testBit_or, h2, Nat.testBit_two_pow, decide_eq_false hio]; rfl, fun j hj => by rw [Nat.testBit_or, Nat.testBit_or, h3 j hj]⟩
    · intro a ha b hb
      obtain ⟨x, hx, rfl⟩ := List.mem_map.1 ha
      have hb0 := maskSets_above ds (off + 1) (m + 1) b hb
      have ha0 := above_or (maskSets_above ds (off + 1) m x hx)
      refine ⟨off, by omega, by rw [Nat.testBit_or, Nat.testBit_two_pow_self, Bool.true_or], hb0 off (by omega), fun j hj => by rw [ha0 j hj, hb0 j (by omega)]⟩
theorem cntB_or (x o : Nat) (h : x.testBit o = false) : ∀ n, cntB (2 ^ o ||| x).testBit n = cntB x.testBit n + if o < n then 1 else 0
  | 0 => rfl
  | n + 1 => by
    rw [cntB, cntB, cntB_or x o h n, Nat.testBit_or, Nat.testBit_two_pow]
    by_cases e : o = n
    · subst e
      rw [h, decide_eq_true rfl, if_neg (by omega), if_pos (by omega)]
      rfl
    · rw [decide_eq_false e, Bool.false_or]
      by_cases h1 : o < n
      · rw [if_pos h1, if_pos (by omega)]; omega
      · rw [if_neg h1, if_neg (by omega)]; omega
theorem cntB_zero : ∀ n, cntB (0 : Nat).testBit n = 0
  | 0 => rfl
  | n + 1 => by rw [cntB, cntB_zero n]; simp
theorem maskSets_cnt : ∀ (ds : List Int) (off m : Nat), off + ds.length ≤ 64 → ∀ x ∈ maskSets ds off m, cntB x.testBit 64 = m
  | _, _, 0, _, x, h => by
    obtain rfl : x = 0 := by simpa [maskSets] using h
    exact cntB_zero 64
  | [], _, m + 1, _, x, h => by simp [maskSets] at h
  | d :: ds, off, m + 1, hl, x, h => by
    simp only [List.length_cons] at hl
    rw [maskSets, List.mem_append, List.mem_map] at h
    rcases h with ⟨y, hy, rfl⟩ | h
    · rw [cntB_or y off (maskSets_above ds (off + 1) m y hy off (by omega)), maskSets_cnt ds (off + 1) m (by omega) y hy, if_pos (by omega)]
    · exact maskSets_cnt ds (off + 1) (m + 1) (by omega) x h
theorem maskSets_lt : ∀ (ds : List Int) (off m : Nat), ∀ x ∈ maskSets ds off m, x < 2 ^ (off + ds.length)
  | _, off, 0, x, h => by
    obtain rfl : x = 0 := by simpa [maskSets] using h
    exact Nat.pow_pos (by omega)
  | [], _, m + 1, x, h => by simp [maskSets] at h
  | d :: ds, off, m + 1, x, h => by
    rw [maskSets, List.mem_append, List.mem_map] at h
    have e : off + 1 + ds.length = off + (d :: ds).length := by simp only [List.length_cons]; omega
    rcases h with ⟨y, hy, rfl⟩ | h
    · have := maskSets_lt ds (off + 1) m y hy
      rw [e] at this
      exact Nat.or_lt_two_pow (Nat.pow_lt_pow_right (by omega) (by simp only [List.length_cons]; omega)) this
    · have := maskSets_lt ds (off + 1) (m + 1) x h
      rwa [e] at this
theorem maskSets_all : ∀ (ds : List Int) (off x : Nat), Above off x → x < 2 ^ (off + ds.length) → ∃ m, m ≤ ds.length ∧ x ∈ maskSets ds off m
  | [], off, x, ha, hx => by
    refine ⟨0, Nat.le_refl _, ?_⟩
    have : x = 0 := Nat.eq_of_testBit_eq fun i => by
      rcases Nat.lt_or_ge i off with h | h
      · rw [ha i h]; simp
      · rw [Nat.testBit_lt_two_pow (Nat.lt_of_lt_of_le hx (Nat.pow_le_pow_right (by omega) (by simpa using h)))]; simp
    subst this
    simp [maskSets]
  | d :: ds, off, x, ha, hx => by
    have e : off + (d :: ds).length = off + 1 + ds.length := by simp only [List.length_cons]; omega
    rw [e] at hx
    by_cases hb : x.testBit off = true
    · obtain ⟨y, hy⟩ : ∃ y, y = x ^^^ 2 ^ off := ⟨_, rfl⟩
      have hyb : ∀ j, y.testBit j = (x.testBit j && decide (off ≠ j)) := fun j => by
        rw [hy, Nat.testBit_xor, Nat.testBit_two_pow]
        by_cases h : off = j
        · subst h; rw [hb]; simp
        · simp [h]
      have hya : Above (off + 1) y := fun j hj => by
        rw [hyb]
        rcases Nat.lt_or_ge j off with h | h
        · rw [ha j h]; rfl
        · rw [show j = off by omega]; simp
      have hyl : y < 2 ^ (off + 1 + ds.length) := by
        rw [hy]
        exact Nat.xor_lt_two_pow hx (Nat.pow_lt_pow_right (by omega) (by omega))
      obtain ⟨m, hm, hmem⟩ := maskSets_all ds (off + 1) y hya hyl
      refine ⟨m + 1, by simp only [List.length_cons]; omega, ?_⟩
      rw [maskSets, List.mem_append, List.mem_map]
      refine .inl ⟨y, hmem, Nat.eq_of_testBit_eq fun j => ?_⟩
      rw [Nat.testBit_or, hyb, Nat.testBit_two_pow]
      by_cases h : off = j
      · subst h; rw [hb]; simp
      · simp [h]
    · have hxa : Above (off + 1) x := fun j hj => by
        rcases Nat.lt_or_ge j off with h | h
        · exact ha j h
        · rw [show j = off by omega]; simpa using hb
      obtain ⟨m, hm, hmem⟩ := maskSets_all ds (off + 1) x hxa hx
      cases m with
      | zero =>
        obtain rfl : x = 0 := by simpa [maskSets] using hmem
        exact ⟨0, Nat.zero_le _, by simp [maskSets]⟩
      | succ m =>
        refine ⟨m + 1, by simp only [List.length_cons]; omega, ?_⟩
        rw [maskSets, List.mem_append]
        exact .inr hmem
/-- All sets of fewer than m places. -/
def maskTo (ds : List Int) : Nat → List Nat
  | 0 => []
  | m + 1 => maskTo ds m ++ maskSets ds 0 m
theorem maskTo_pick (ds : List Int) : ∀ m, (maskTo ds m).map (pickFrom ds 0) = allTo ds m
  | 0 => rfl
  | m + 1 => by rw [maskTo, allTo, List.map_append, maskTo_pick ds m, maskSets_pick ds 0 m]
theorem maskTo_mem (ds : List Int) (x : Nat) : ∀ m, x ∈ maskTo ds m ↔ ∃ k, k < m ∧ x ∈ maskSets ds 0 k
  | 0 => by simp [maskTo]
  | m + 1 => by
    rw [maskTo, List.mem_append, maskTo_mem ds x m]
    constructor
    · rintro (⟨k, h1, h2⟩ | h)
      · exact ⟨k, by omega, h2⟩
      · exact ⟨m, by omega, h⟩
    · rintro ⟨k, h1, h2⟩
      rcases Nat.lt_or_ge k m with h3 | h3
      · exact .inl ⟨k, h3, h2⟩
      · rw [show k = m by omega] at h2
        exact .inr h2
/-- By number, then the one with the lower bit. -/
def Ord2 (a b : Nat) : Prop := cntB a.testBit 64 < cntB b.testBit 64 ∨ (cntB a.testBit 64 = cntB b.testBit 64 ∧ Fst a b)
theorem maskTo_ord (ds : List Int) (hl : ds.length ≤ 64) : ∀ m, (maskTo ds m).Pairwise Ord2
  | 0 => List.Pairwise.nil
  | m + 1 => by
    rw [maskTo, List.pairwise_append]
    refine ⟨maskTo_ord ds hl m, (maskSets_fst ds 0 m (by omega)).imp_of_mem fun {a b} ha hb h => .inr ⟨by rw [maskSets_cnt ds 0 m (by omega) a ha, maskSets_cnt ds 0 m (by omega) b hb], h⟩, fun a ha b hb => .inl ?_⟩
    obtain ⟨k, hk, ha'⟩ := (maskTo_mem ds a m).1 ha
    rw [maskSets_cnt ds 0 k (by omega) a ha', maskSets_cnt ds 0 m (by omega) b hb]
    exact hk
theorem lt_of_bits {x y : Nat} (i : Nat) (hx : x.testBit i = false) (hy : y.testBit i = true) (h : ∀ j, i < j → x.testBit j = y.testBit j) : x < y := by
  rw [Nat.testBit_eq_decide_div_mod_eq] at hx hy
  have hx' : ¬ x / 2 ^ i % 2 = 1 := of_decide_eq_false hx
  have hy' : y / 2 ^ i % 2 = 1 := of_decide_eq_true hy
  have e : x / 2 ^ (i + 1) = y / 2 ^ (i + 1) := Nat.eq_of_testBit_eq fun j => by
    rw [Nat.testBit_div_two_pow, Nat.testBit_div_two_pow]
    exact h _ (by omega)
  rw [Nat.pow_succ, ← Nat.div_div_eq_div_mul, ← Nat.div_div_eq_div_mul] at e
  exact Nat.lt_of_not_le fun hc => by
    have := Nat.div_le_div_right (c := 2 ^ i) hc
    omega
theorem fst_rev {a b : Nat} (ha : a < 2 ^ 64) (hb : b < 2 ^ 64) (h : Fst a b) : rev64 b < rev64 a := by
  obtain ⟨i, h0, h1, h2, h3⟩ := h
  refine lt_of_bits (63 - i) ?_ ?_ fun j hj => ?_
  · rw [rev64_bit b _ (by omega), show 63 - (63 - i) = i by omega]; exact h2
  · rw [rev64_bit a _ (by omega), show 63 - (63 - i) = i by omega]; exact h1
  · rcases Nat.lt_or_ge j 64 with hj64 | hj64
    · rw [rev64_bit b j hj64, rev64_bit a j hj64]
      exact (h3 (63 - j) (by omega)).symm
    · rw [Nat.testBit_lt_two_pow (Nat.lt_of_lt_of_le (rev64_lt b) (Nat.pow_le_pow_right (by omega) hj64)), Nat.testBit_lt_two_pow (Nat.lt_of_lt_of_le (rev64_lt a) (Nat.pow_le_pow_right (by omega) hj64))]
end Go.Proofs.Ytlinhckgdfhppaa
