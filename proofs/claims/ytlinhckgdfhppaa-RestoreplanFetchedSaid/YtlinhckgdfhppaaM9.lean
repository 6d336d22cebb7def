/- A part of the proof: what the functions do, and plain laws. -/
import Derived.Test.YtlinhckgdfhppaaM8
set_option linter.unusedSimpArgs false
set_option linter.unusedVariables false
namespace Go.Proofs.Ytlinhckgdfhppaa
open Go Go.RowKit Go.Proofs.YtlinhckgdfhppaaK Go.Sort

/-! The program's order of sets is the document's. -/
/-- The sets of m of the places from off on, as bits, in the document's order. -/
def maskSets : List Int → Nat → Nat → List Nat
  | _, _, 0 => [0]
  | [], _, _ + 1 => []
  | _ :: ds, off, m + 1 => (maskSets ds (off + 1) m).map (2 ^ off ||| ·) ++ maskSets ds (off + 1) (m + 1)
/-- The devices whose places from off on are set. -/
def pickFrom : List Int → Nat → Nat → List Int
  | [], _, _ => []
  | d :: ds, off, x => if x.testBit off = true then d :: pickFrom ds (off + 1) x else pickFrom ds (off + 1) x
/-- No bit below off. -/
def Above (off x : Nat) : Prop := ∀ j, j < off → x.testBit j = false
theorem above_or {off x : Nat} (h : Above (off + 1) x) : Above off (2 ^ off ||| x) := fun j hj => by
  rw [Nat.testBit_or, h j (by omega), Nat.testBit_two_pow, Bool.or_false]
  exact decide_eq_false (by omega)
theorem above_zero (off : Nat) : Above off 0 := fun j _ => by simp
theorem maskSets_above : ∀ (ds : List Int) (off m : Nat), ∀ x ∈ maskSets ds off m, Above off x
  | _, off, 0, x, h => by
    obtain rfl : x = 0 := by simpa [maskSets] using h
    exact above_zero off
  | [], off, m + 1, x, h => by simp [maskSets] at h
  | d :: ds, off, m + 1, x, h => by
    rw [maskSets, List.mem_append, List.mem_map] at h
    rcases h with ⟨y, hy, rfl⟩ | h
    · exact above_or (maskSets_above ds (off + 1) m y hy)
    · exact fun j hj => maskSets_above ds (off + 1) (m + 1) x h j (by omega)
theorem pickFrom_or (ds : List Int) : ∀ (off o x : Nat), o < off → pickFrom ds off (2 ^ o ||| x) = pickFrom ds off x := by
  induction ds with
  | nil => exact fun _ _ _ _ => rfl
  | cons d ds ih =>
    intro off o x h
    have e : (2 ^ o ||| x).testBit off = x.testBit off := by
      rw [Nat.testBit_or, Nat.testBit_two_pow, decide_eq_false (by omega), Bool.false_or]
    rw [pickFrom, pickFrom, e, ih (off + 1) o x (by omega)]
theorem pickFrom_zero : ∀ (ds : List Int) (off : Nat), pickFrom ds off 0 = []
  | [], _ => rfl
  | d :: ds, off => by rw [pickFrom, if_neg (by simp), pickFrom_zero ds (off + 1)]
theorem maskSets_pick : ∀ (ds : List Int) (off m : Nat), (maskSets ds off m).map (pickFrom ds off) = setsOf ds m
  | [], off, 0 => by simp [maskSets, setsOf, pickFrom]
  | d :: ds, off, 0 => by simp [maskSets, setsOf, pickFrom_zero]
  | [], off, m + 1 => by simp [maskSets, setsOf]
  | d :: ds, off, m + 1 => by
    rw [maskSets, setsOf, List.map_append, List.map_map, ← maskSets_pick ds (off + 1) m, ← maskSets_pick ds (off + 1) (m + 1), List.map_map]
    congr 1
    · refine List.map_congr_left fun x hx => ?_
      show pickFrom (d :: ds) off (2 ^ off ||| x) = d :: pickFrom ds (off + 1) x
      rw [pickFrom, if_pos (by rw [Nat.testBit_or, Nat.testBit_two_pow_self, Bool.true_or]), pickFrom_or ds (off + 1) off x (by omega)]
    · refine List.map_congr_left fun x hx => ?_
      rw [pickFrom, if_neg (by rw [maskSets_above ds (off + 1) (m + 1) x hx off (by omega)]; decide)]
/-- a comes first: at the lowest place where they differ, it has the bit. -/
def Fst (a b : Nat) : Prop := ∃ i, i < 64 ∧ a.testBit i = true ∧ b.testBit i = false ∧ ∀ j, j < i → a.testBit j = b.testBit j
theorem maskSets_fst : ∀ (ds : List Int) (off m : Nat), off + ds.length ≤ 64 → (maskSets ds off m).Pairwise Fst
  | _, _, 0, _ => by simp [maskSets]
  | [], _, _ + 1, _ => by simp [maskSets]
  | d :: ds, off, m + 1, h => by
    simp only [List.length_cons] at h
    rw [maskSets, List.pairwise_append]
    refine ⟨?_, maskSets_fst ds (off + 1) (m + 1) (by omega), ?_⟩
    · rw [List.pairwise_map]
      refine (maskSets_fst ds (off + 1) m (by omega)).imp_of_mem fun {a b} ha hb hf => ?_
      obtain ⟨i, h0, h1, h2, h3⟩ := hf
      have hio : off ≠ i := fun e => by
        subst e
        rw [maskSets_above ds (off + 1) m a ha off (by omega)] at h1
        cases h1
      refine ⟨i, h0, by rw [Nat.testBit_or, h1, Bool.or_true], by rw [Nat.testBit_or, h2, Nat.testBit_two_pow, decide_eq_false hio]; rfl, fun j hj => by rw [Nat.testBit_or, Nat.testBit_or, h3 j hj]⟩
    · intro a ha b hb
      obtain ⟨x, hx, rfl⟩ := List.mem_map.1 ha
      have hb0 := maskSets_above ds (off + 1) (m + 1) b hb
      have ha0 := above_or (maskSets_above ds (off + 1) m x hx)
      refine ⟨off, by omega, by rw [Nat.testBit_or, Nat.testBit_two_pow_self, Bool.true_or], hb0 off (by omega), fun j hj => by rw [ha0 j hj, hb0 j (by omega)]⟩
theorem cntB_or (x o : Nat) (h : x.testBit o = false) : ∀ n, cntB (2 ^ o ||| x).testBit n = cntB x.testBit n + if o < n then 1 else 0
  | 0 => rfl
  | n + 1 => by
    rw [cntB, cntB, cntB_or x o h n, Nat.testBit_or, Nat.testBit_two_pow]
    by_cases e : o = n
    · subst e
      rw [h, decide_eq_true rfl, if_neg (by omega), if_pos (by omega)]
      rfl
    · rw [decide_eq_false e, Bool.false_or]
      by_cases h1 : o < n
      · rw [if_pos h1, if_pos (by omega)]; omega
      · rw [if_neg h1, if_neg (by omega)]; omega
theorem cntB_zero : ∀ n, cntB (0 : Nat).testBit n = 0
  | 0 => rfl
  | n + 1 => by rw [cntB, cntB_zero n]; simp
theorem maskSets_cnt : ∀ (ds : List Int) (off m : Nat), off + ds.length ≤ 64 → ∀ x ∈ maskSets ds off m, cntB x.testBit 64 = m
  | _, _, 0, _, x, h => by
    obtain rfl : x = 0 := by simpa [maskSets] using h
    exact cntB_zero 64
  | [], _, m + 1, _, x, h => by simp [maskSets] at h
  | d :: ds, off, m + 1, hl, x, h => by
    simp only [List.length_cons] at hl
    rw [maskSets, List.mem_append, List.mem_map] at h
    rcases h with ⟨y, hy, rfl⟩ | h
    · rw [cntB_or y off (maskSets_above ds (off + 1) m y hy off (by omega)), maskSets_cnt ds (off + 1) m (by omega) y hy, if_pos (by omega)]
    · exact maskSets_cnt ds (off + 1) (m + 1) (by omega) x h
theorem maskSets_lt : ∀ (ds : List Int) (off m : Nat), ∀ x ∈ maskSets ds off m, x < 2 ^ (off + ds.length)
  | _, off, 0, x, h => by
    obtain rfl : x = 0 := by simpa [maskSets] using h
    exact Nat.pow_pos (by omega)
  | [], _, m + 1, x, h => by simp [maskSets] at h
  | d :: ds, off, m + 1, x, h => by
    rw [maskSets, List.mem_append, List.mem_map] at h
    have e : off + 1 + ds.length = off + (d :: ds).length := by simp only [List.length_cons]; omega
    rcases h with ⟨y, hy, rfl⟩ | h
    · have := maskSets_lt ds (off + 1) m y hy
      rw [e] at this
      exact Nat.or_lt_two_pow (Nat.pow_lt_pow_right (by omega) (by simp only [List.length_cons]; omega)) this
    · have := maskSets_lt ds (off + 1) (m + 1) x h
      rwa [e] at this
theorem maskSets_all : ∀ (ds : List Int) (off x : Nat), Above off x → x < 2 ^ (off + ds.length) → ∃ m, m ≤ ds.length ∧ x ∈ maskSets ds off m
  | [], off, x, ha, hx => by
    refine ⟨0, Nat.le_refl _, ?_⟩
    have : x = 0 := Nat.eq_of_testBit_eq fun i => by
      rcases Nat.lt_or_ge i off with h | h
      · rw [ha i h]; simp
      · rw [Nat.testBit_lt_two_pow (Nat.lt_of_lt_of_le hx (Nat.pow_le_pow_right (by omega) (by simpa using h)))]; simp
    subst this
    simp [maskSets]
  | d :: ds, off, x, ha, hx => by
    have e : off + (d :: ds).length = off + 1 + ds.length := by simp only [List.length_cons]; omega
    rw [e] at hx
    by_cases hb : x.testBit off = true
    · obtain ⟨y, hy⟩ : ∃ y, y = x ^^^ 2 ^ off := ⟨_, rfl⟩
      have hyb : ∀ j, y.testBit j = (x.testBit j && decide (off ≠ j)) := fun j => by
        rw [hy, Nat.testBit_xor, Nat.testBit_two_pow]
        by_cases h : off = j
        · subst h; rw [hb]; simp
        · simp [h]
      have hya : Above (off + 1) y := fun j hj => by
        rw [hyb]
        rcases Nat.lt_or_ge j off with h | h
        · rw [ha j h]; rfl
        · rw [show j = off by omega]; simp
      have hyl : y < 2 ^ (off + 1 + ds.length) := by
        rw [hy]
        exact Nat.xor_lt_two_pow hx (Nat.pow_lt_pow_right (by omega) (by omega))
      obtain ⟨m, hm, hmem⟩ := maskSets_all ds (off + 1) y hya hyl
      refine ⟨m + 1, by simp only [List.length_cons]; omega, ?_⟩
      rw [maskSets, List.mem_append, List.mem_map]
      refine .inl ⟨y, hmem, Nat.eq_of_testBit_eq fun j => ?_⟩
      rw [Nat.testBit_or, hyb, Nat.testBit_two_pow]
      by_cases h : off = j
      · subst h; rw [hb]; simp
      · simp [h]
    · have hxa : Above (off + 1) x := fun j hj => by
        rcases Nat.lt_or_ge j off with h | h
        · exact ha j h
        · rw [show j = off by omega]; simpa using hb
      obtain ⟨m, hm, hmem⟩ := maskSets_all ds (off + 1) x hxa hx
      cases m with
      | zero =>
        obtain rfl : x = 0 := by simpa [maskSets] using hmem
        exact ⟨0, Nat.zero_le _, by simp [maskSets]⟩
      | succ m =>
        refine ⟨m + 1, by simp only [List.length_cons]; omega, ?_⟩
        rw [maskSets, List.mem_append]
        exact .inr hmem
/-- All sets of fewer than m places. -/
def maskTo (ds : List Int) : Nat → List Nat
  | 0 => []
  | m + 1 => maskTo ds m ++ maskSets ds 0 m
theorem maskTo_pick (ds : List Int) : ∀ m, (maskTo ds m).map (pickFrom ds 0) = allTo ds m
  | 0 => rfl
  | m + 1 => by rw [maskTo, allTo, List.map_append, maskTo_pick ds m, maskSets_pick ds 0 m]
theorem maskTo_mem (ds : List Int) (x : Nat) : ∀ m, x ∈ maskTo ds m ↔ ∃ k, k < m ∧ x ∈ maskSets ds 0 k
  | 0 => by simp [maskTo]
  | m + 1 => by
    rw [maskTo, List.mem_append, maskTo_mem ds x m]
    constructor
    · rintro (⟨k, h1, h2⟩ | h)
      · exact ⟨k, by omega, h2⟩
      · exact ⟨m, by omega, h⟩
    · rintro ⟨k, h1, h2⟩
      rcases Nat.lt_or_ge k m with h3 | h3
      · exact .inl ⟨k, h3, h2⟩
      · rw [show k = m by omega] at h2
        exact .inr h2
/-- By number, then the one with the lower bit. -/
def Ord2 (a b : Nat) : Prop := cntB a.testBit 64 < cntB b.testBit 64 ∨ (cntB a.testBit 64 = cntB b.testBit 64 ∧ Fst a b)
theorem maskTo_ord (ds : List Int) (hl : ds.length ≤ 64) : ∀ m, (maskTo ds m).Pairwise Ord2
  | 0 => List.Pairwise.nil
  | m + 1 => by
    rw [maskTo, List.pairwise_append]
    refine ⟨maskTo_ord ds hl m, (maskSets_fst ds 0 m (by omega)).imp_of_mem fun {a b} ha hb h => .inr ⟨by rw [maskSets_cnt ds 0 m (by omega) a ha, maskSets_cnt ds 0 m (by omega) b hb], h⟩, fun a ha b hb => .inl ?_⟩
    obtain ⟨k, hk, ha'⟩ := (maskTo_mem ds a m).1 ha
    rw [maskSets_cnt ds 0 k (by omega) a ha', maskSets_cnt ds 0 m (by omega) b hb]
    exact hk
theorem lt_of_bits {x y : Nat} (i : Nat) (hx : x.testBit i = false) (hy : y.testBit i = true) (h : ∀ j, i < j → x.testBit j = y.testBit j) : x < y := by
  rw [Nat.testBit_eq_decide_div_mod_eq] at hx hy
  have hx' : ¬ x / 2 ^ i % 2 = 1 := of_decide_eq_false hx
  have hy' : y / 2 ^ i % 2 = 1 := of_decide_eq_true hy
  have e : x / 2 ^ (i + 1) = y / 2 ^ (i + 1) := Nat.eq_of_testBit_eq fun j => by
    rw [Nat.testBit_div_two_pow, Nat.testBit_div_two_pow]
    exact h _ (by omega)
  rw [Nat.pow_succ, ← Nat.div_div_eq_div_mul, ← Nat.div_div_eq_div_mul] at e
  exact Nat.lt_of_not_le fun hc => by
    have := Nat.div_le_div_right (c := 2 ^ i) hc
    omega
theorem fst_rev {a b : Nat} (ha : a < 2 ^ 64) (hb : b < 2 ^ 64) (h : Fst a b) : rev64 b < rev64 a := by
  obtain ⟨i, h0, h1, h2, h3⟩ := h
  refine lt_of_bits (63 - i) ?_ ?_ fun j hj => ?_
  · rw [rev64_bit b _ (by omega), show 63 - (63 - i) = i by omega]; exact h2
  · rw [rev64_bit a _ (by omega), show 63 - (63 - i) = i by omega]; exact h1
  · rcases Nat.lt_or_ge j 64 with hj64 | hj64
    · rw [rev64_bit b j hj64, rev64_bit a j hj64]
      exact (h3 (63 - j) (by omega)).symm
    · rw [Nat.testBit_lt_two_pow (Nat.lt_of_lt_of_le (rev64_lt b) (Nat.pow_le_pow_right (by omega) hj64)), Nat.testBit_lt_two_pow (Nat.lt_of_lt_of_le (rev64_lt a) (Nat.pow_le_pow_right (by omega) hj64))]
end Go.Proofs.Ytlinhckgdfhppaa
namespace Go.Proofs.Ytlinhckgdfhppaa
open Go Go.RowKit Go.Proofs.YtlinhckgdfhppaaK Go.Sort

theorem fst_irrefl {a : Nat} : ¬ Fst a a := fun ⟨_, _, h1, h2, _⟩ => by rw [h1] at h2; cases h2
/-- The devices, ascending. -/
def devL (list : List Hold) : List Int := (sortH list).map (·.dev)
theorem devL_len (list : List Hold) : (devL list).length = list.length := by rw [devL, List.length_map, sortH_len]
theorem maskTo_perm (ds : List Int) (h : ds.length ≤ 64) : (maskTo ds (ds.length + 1)).Perm (List.range (2 ^ ds.length)) := by
  refine (List.perm_ext_iff_of_nodup ((maskTo_ord ds h _).imp fun {a b} ho e => ?_) List.nodup_range).2 fun x => ?_
  · subst e
    rcases ho with h1 | ⟨_, h1⟩
    · omega
    · exact fst_irrefl h1
  · rw [maskTo_mem, List.mem_range]
    constructor
    · rintro ⟨k, _, hx⟩
      simpa using maskSets_lt ds 0 k x hx
    · intro hx
      obtain ⟨m, hm, hmem⟩ := maskSets_all ds 0 x (fun j hj => by omega) (by simpa using hx)
      exact ⟨m, by omega, hmem⟩
section
variable {g : Goal} {list : List Hold}
theorem cnt64_of {a : Nat} (h : a < 2 ^ 64) : cnt64 (BitVec.ofNat 64 a) = cntB a.testBit 64 ∧ rv64 (BitVec.ofNat 64 a) = rev64 a := by
  unfold cnt64 rv64
  rw [BitVec.toNat_ofNat, Nat.mod_eq_of_lt h]
  exact ⟨rfl, rfl⟩
theorem setsP_eq (hl : list.length ≤ 12) : setsP g list = ((maskTo (devL list) (list.length + 1)).filter fun x => decide (psum g list x = 0)).map (BitVec.ofNat 64) := by
  have hd := devL_len list
  have hp : (maskTo (devL list) (list.length + 1)).Perm (List.range (2 ^ list.length)) := by
    have := maskTo_perm (devL list) (by omega)
    rwa [hd] at this
  have hlt : ∀ x ∈ maskTo (devL list) (list.length + 1), x < 2 ^ 64 := fun x hx => by
    have h1 := List.mem_range.1 (hp.mem_iff.1 hx)
    exact Nat.lt_of_lt_of_le h1 (Nat.pow_le_pow_right (by omega) (by omega))
  refine (sortU_unique _ _ ((hp.filter _).map _) ?_).symm
  rw [List.pairwise_map]
  refine ((maskTo_ord (devL list) (by omega) _).filter _).imp_of_mem fun {a b} ha hb ho => ?_
  have ha' := hlt a (List.mem_filter.1 ha).1
  have hb' := hlt b (List.mem_filter.1 hb).1
  obtain ⟨ca, ra⟩ := cnt64_of ha'
  obtain ⟨cb, rb⟩ := cnt64_of hb'
  unfold ltU
  rw [ca, cb, ra, rb]
  rcases ho with h1 | ⟨h1, h2⟩
  · omega
  · have := fst_rev ha' hb' h2
    omega
theorem devL_eq (hv : Valid g list) : devsTo list 12 = devL list := by
  have h8 := hv.2.2.2.2.2.2.2
  have hdn : (devL list).Nodup := ((sortH_perm list).map _).nodup_iff.2 hv.nodup
  have hdp : (devL list).Pairwise fun a b => a ≤ b := by
    rw [devL, List.pairwise_map]
    exact sortH_sorted list
  have hep : (devsTo list 12).Pairwise fun a b => a < b := by
    unfold devsTo
    refine List.Pairwise.filter _ ?_
    rw [List.pairwise_map]
    exact List.pairwise_lt_range.imp fun h => by omega
  have hmem : ∀ d, d ∈ devsTo list 12 ↔ d ∈ devL list := fun d => by
    have h1 : d ∈ devL list ↔ d ∈ list.map (·.dev) := ((sortH_perm list).map _).mem_iff
    rw [h1]
    unfold devsTo
    rw [List.mem_filter, decide_eq_true_eq]
    constructor
    · exact fun h => h.2
    · intro h
      refine ⟨?_, h⟩
      obtain ⟨x, hx, rfl⟩ := List.mem_map.1 h
      have := h8.1 x hx
      exact List.mem_map.2 ⟨x.dev.toNat, List.mem_range.2 (by omega), by omega⟩
  have hen : (devsTo list 12).Nodup := hep.imp fun h e => by omega
  exact List.Perm.eq_of_pairwise (le := fun a b => a ≤ b) (fun a b _ _ h1 h2 => by omega) (hep.imp fun h => by omega) hdp ((List.perm_ext_iff_of_nodup hen hdn).2 hmem)
theorem pickFrom_snoc (d : Int) (s : Nat) : ∀ (ds : List Int) (off : Nat), pickFrom (ds ++ [d]) off s = pickFrom ds off s ++ if s.testBit (off + ds.length) = true then [d] else []
  | [], off => by
    show pickFrom [d] off s = _
    by_cases h : s.testBit off = true <;> simp [pickFrom, h]
  | x :: ds, off => by
    rw [List.cons_append, pickFrom, pickFrom, pickFrom_snoc d s ds (off + 1), List.length_cons, show off + 1 + ds.length = off + (ds.length + 1) by omega]
    split <;> simp
theorem pickTo_from (L : List Hold) (s : Nat) : ∀ k, k ≤ L.length → pickTo L s k = pickFrom ((L.map (·.dev)).take k) 0 s
  | 0, _ => by simp [pickTo, pickFrom]
  | k + 1, hk => by
    have hkl : k < (L.map (·.dev)).length := by simp; omega
    rw [pickTo, pickTo_from L s k (by omega), List.take_succ_eq_append_getElem hkl, pickFrom_snoc, List.length_take, List.getElem_map, ← hgt_eq L k (by omega)]
    have e : 0 + min k (L.map (·.dev)).length = k := by omega
    rw [e]
    by_cases h : s.testBit k = true <;> simp [h]
theorem pick_all (s : Nat) : pickTo (sortH list) s list.length = pickFrom (devL list) 0 s := by
  rw [pickTo_from _ _ _ (by rw [sortH_len]; exact Nat.le_refl _), List.take_of_length_le (by rw [List.length_map, sortH_len]; exact Nat.le_refl _)]
  rfl
theorem all_eq : (maskTo (devL list) (list.length + 1)).map (fun x => pickTo (sortH list) x list.length) = allOf (devL list) := by
  have e : (fun x => pickTo (sortH list) x list.length) = pickFrom (devL list) 0 := funext fun x => pick_all x
  rw [e, maskTo_pick, allOf, devL_len]
theorem pickTo_nodup (hv : Valid g list) (s : Nat) : ∀ k, k ≤ list.length → (pickTo (sortH list) s k).Nodup
  | 0, _ => List.nodup_nil
  | k + 1, hk => by
    rw [pickTo]
    have ih := pickTo_nodup hv s k (by omega)
    split
    · refine List.nodup_append.2 ⟨ih, by simp, fun a ha b hb e => ?_⟩
      obtain ⟨j, hj, _, hd⟩ := (pickTo_mem _ _ _ _).1 ha
      rw [List.mem_singleton] at hb
      have := devs_inj hv.nodup (by omega) (by omega) (hd.trans (e.trans hb))
      omega
    · exact ih
theorem mem_erase {s : List Int} (hn : s.Nodup) (q : Nat) (hq : q < s.length) (a : Int) : a ∈ s.eraseIdx q ↔ a ∈ s ∧ a ≠ s[q] := by
  have e : s = s.take q ++ s[q] :: s.drop (q + 1) := by rw [List.getElem_cons_drop, List.take_append_drop]
  have hn' := hn
  rw [e, List.nodup_append, List.nodup_cons] at hn'
  rw [List.eraseIdx_eq_take_drop_succ, List.mem_append]
  have hm : a ∈ s ↔ a ∈ s.take q ∨ a = s[q] ∨ a ∈ s.drop (q + 1) := by
    conv => lhs; rw [e]
    rw [List.mem_append, List.mem_cons]
  rw [hm]
  constructor
  · rintro (h | h)
    · exact ⟨.inl h, fun e2 => hn'.2.2 a h s[q] (List.mem_cons_self ..) e2⟩
    · exact ⟨.inr (.inr h), fun e2 => hn'.2.1.1 (e2 ▸ h)⟩
  · rintro ⟨h | h | h, h2⟩
    · exact .inl h
    · exact absurd h h2
    · exact .inr h
theorem clr_bit (x i j : Nat) (hx : x < 2 ^ 64) (hi : i < 64) : (clrB (BitVec.ofNat 64 x) i).toNat.testBit j = true ↔ x.testBit j = true ∧ j ≠ i := by
  unfold clrB
  show (BitVec.ofNat 64 x &&& ~~~ BitVec.ofNat 64 (2 ^ i)).getLsbD j = true ↔ _
  rw [BitVec.getLsbD_and, BitVec.getLsbD_not, BitVec.getLsbD_ofNat, BitVec.getLsbD_ofNat, Nat.testBit_two_pow]
  rcases Nat.lt_or_ge j 64 with h | h
  · rw [decide_eq_true h]
    by_cases e : i = j
    · subst e; simp
    · simp [e, Ne.symm e]
  · rw [decide_eq_false (by omega), Nat.testBit_lt_two_pow (Nat.lt_of_lt_of_le hx (Nat.pow_le_pow_right (by omega) h))]
    simp
theorem isMin_iff (hv : Valid g list) (x : Nat) (hx : x < 2 ^ 64) : isMin g list (pickTo (sortH list) x list.length) ↔ psum g list x = 0 ∧ minOK g list list.length (BitVec.ofNat 64 x) := by
  have hn := pickTo_nodup hv x list.length (Nat.le_refl _)
  have hl := hv.ok.hnl
  have hxn : (BitVec.ofNat 64 x).toNat = x := by rw [BitVec.toNat_ofNat, Nat.mod_eq_of_lt hx]
  have key : ∀ i q, i < list.length → (hq : q < (pickTo (sortH list) x list.length).length) → (pickTo (sortH list) x list.length)[q] = (hgt (sortH list) i).dev → psum g list (clrB (BitVec.ofNat 64 x) i).toNat = lackSum g list ((pickTo (sortH list) x list.length).eraseIdx q) := fun i q hi hq he => by
    refine psum_eq hv _ _ fun j hj => ?_
    rw [clr_bit x i j hx (by omega), mem_erase hn q hq, ← pick_bit hv x j hj, he]
    constructor
    · rintro ⟨h1, h2⟩
      exact ⟨h1, fun e => h2 (devs_inj hv.nodup hj hi e)⟩
    · rintro ⟨h1, h2⟩
      exact ⟨h1, fun e => h2 (by rw [e])⟩
  unfold isMin minOK
  rw [← psum_pick hv, hxn]
  refine and_congr_right fun _ => ?_
  constructor
  · intro h i hi hb
    have hm := (pick_bit hv x i hi).1 hb
    obtain ⟨q, hq, he⟩ := List.mem_iff_getElem.1 hm
    rw [key i q hi hq he]
    have := h q hq
    omega
  · intro h q hq
    obtain ⟨i, hi, hb, hd⟩ := (pickTo_mem _ _ _ _).1 (List.getElem_mem hq)
    have h1 := h i hi hb
    rw [key i q hi hq hd.symm] at h1
    have h2 := (psum_bd hv (clrB (BitVec.ofNat 64 x) i).toNat).1
    rw [key i q hi hq hd.symm] at h2
    omega
/-- **The program's minimal sets are the document's.** -/
theorem minimal_eq (hv : Valid g list) (h0 : possOf g list = 0) : minimalP g list = minimalOf g list := by
  have hl := hv.ok.hnl
  have hd := devL_len list
  have hp : (maskTo (devL list) (list.length + 1)).Perm (List.range (2 ^ list.length)) := by
    have := maskTo_perm (devL list) (by omega)
    rwa [hd] at this
  have hlt : ∀ x ∈ maskTo (devL list) (list.length + 1), x < 2 ^ 64 := fun x hx => by
    have h1 := List.mem_range.1 (hp.mem_iff.1 hx)
    exact Nat.lt_of_lt_of_le h1 (Nat.pow_le_pow_right (by omega) (by omega))
  unfold minimalP minimalOf minTo
  rw [if_pos h0, List.take_length, setsP_eq hl, devL_eq hv, ← all_eq, List.filter_map, List.filter_map, List.filter_filter, List.map_map]
  have e1 : (maskTo (devL list) (list.length + 1)).filter (fun a => ((fun x => decide (minOK g list list.length x)) ∘ BitVec.ofNat 64) a && decide (psum g list a = 0)) = (maskTo (devL list) (list.length + 1)).filter ((fun s => decide (isMin g list s)) ∘ fun x => pickTo (sortH list) x list.length) := by
    refine List.filter_congr fun x hx => ?_
    show (decide (minOK g list list.length (BitVec.ofNat 64 x)) && decide (psum g list x = 0)) = decide (isMin g list (pickTo (sortH list) x list.length))
    have := isMin_iff hv x (hlt x hx)
    by_cases h1 : psum g list x = 0 <;> by_cases h2 : minOK g list list.length (BitVec.ofNat 64 x) <;> simp [h1, h2, this]
  rw [e1]
  refine List.map_congr_left fun x hx => ?_
  show pickTo (sortH list) (BitVec.ofNat 64 x).toNat list.length = _
  rw [BitVec.toNat_ofNat, Nat.mod_eq_of_lt (hlt x (List.mem_filter.1 hx).1)]
end
end Go.Proofs.Ytlinhckgdfhppaa
namespace Go.Proofs.Ytlinhckgdfhppaa
open Go Go.RowKit Go.Proofs.YtlinhckgdfhppaaK Go.Sort

section
variable {g : Goal} {list : List Hold}
theorem cnt_clr (x : BitVec 64) (i : Nat) (hi : i < 64) (hb : x.toNat.testBit i = true) : cnt64 (clrB x i) < cnt64 x := by
  have hc : ∀ j, (clrB x i).toNat.testBit j = true ↔ x.toNat.testBit j = true ∧ j ≠ i := fun j => by
    have := clr_bit x.toNat i j x.isLt hi
    rwa [BitVec.ofNat_toNat, BitVec.setWidth_eq] at this
  have e : x.toNat = 2 ^ i ||| (clrB x i).toNat := Nat.eq_of_testBit_eq fun j => by
    rw [Nat.testBit_or, Nat.testBit_two_pow]
    by_cases h : i = j
    · subst h; rw [hb]; simp
    · rw [decide_eq_false h, Bool.false_or]
      cases h1 : x.toNat.testBit j with
      | true => exact ((hc j).2 ⟨h1, Ne.symm h⟩).symm
      | false =>
        cases h2 : (clrB x i).toNat.testBit j with
        | true => have := ((hc j).1 h2).1; rw [h1] at this; cases this
        | false => rfl
  have h0 : (clrB x i).toNat.testBit i = false := by
    cases h2 : (clrB x i).toNat.testBit i with
    | true => exact absurd rfl ((hc i).1 h2).2
    | false => rfl
  have := cntB_or (clrB x i).toNat i h0 64
  rw [← e, if_pos hi] at this
  unfold cnt64
  omega
theorem sortU_sorted (xs : List (BitVec 64)) : (sortU xs).Pairwise fun a b => ¬ ltU b a := by
  have := List.pairwise_mergeSort (le := fun x y => !(ltOf cfU) y x) (by
    intro a b c h1 h2
    simp only [Bool.not_eq_true'] at *
    exact swoU.ntrans _ _ _ h2 h1) (by
    intro a b
    rw [Bool.or_eq_true, Bool.not_eq_true', Bool.not_eq_true', ltU_no, ltU_no]
    unfold ltU
    omega) xs
  exact this.imp fun h => ltU_no.1 (by simpa using h)
/-- The first set that suffices is minimal. -/
theorem first_min (hv : Valid g list) (x : BitVec 64) (rest : List (BitVec 64)) (h : setsP g list = x :: rest) : minOK g list list.length x := by
  intro i hi hb hp
  have hl := hv.ok.hnl
  have hlt := cnt_clr x i (by omega) hb
  have hx : x ∈ setsP g list := by rw [h]; exact List.mem_cons_self ..
  obtain ⟨s, hs, _, hsx⟩ := (setsP_mem g list x).1 hx
  have h2 : 2 ^ list.length ≤ 2 ^ 12 := Nat.pow_le_pow_right (by omega) hl
  have hxs : x.toNat = s := by rw [← hsx, BitVec.toNat_ofNat, Nat.mod_eq_of_lt (by omega)]
  have hcl : (clrB x i).toNat < 2 ^ list.length := by
    have h3 : (clrB x i).toNat ≤ x.toNat := by
      unfold clrB
      rw [BitVec.toNat_and]
      exact Nat.and_le_left
    omega
  have hm : clrB x i ∈ setsP g list := (setsP_mem g list _).2 ⟨(clrB x i).toNat, hcl, hp, by rw [BitVec.ofNat_toNat, BitVec.setWidth_eq]⟩
  have hso := sortU_sorted (selTo g list (2 ^ list.length))
  rw [show sortU (selTo g list (2 ^ list.length)) = setsP g list from rfl, h, List.pairwise_cons] at hso
  rw [h, List.mem_cons] at hm
  rcases hm with e | e
  · rw [e] at hlt; omega
  · exact hso.1 _ e (.inl hlt)
theorem fewest_eq (hv : Valid g list) (h0 : possOf g list = 0) : ∃ rest, minimalOf g list = fewestP g list :: rest := by
  rw [← minimal_eq hv h0]
  have hpos := setsP_pos h0
  unfold minimalP fewestP minTo
  rw [if_pos h0, if_pos h0, List.take_length]
  cases hS : setsP g list with
  | nil => rw [hS] at hpos; simp at hpos
  | cons x rest =>
    rw [List.filter_cons_of_pos (by exact decide_eq_true (first_min hv x rest hS))]
    exact ⟨_, rfl⟩
/-- What the law's own sufficient answers is what possible answers. -/
theorem possOf_eq : possOf g list = if Valid g list then (if 0 < lackSum g list (devsTo list 12) then 10 else 0) else 1 := by
  unfold possOf
  by_cases hv : Valid g list
  · rw [if_pos hv, if_pos hv]
    have e : psum g list (2 ^ list.length - 1) = lackSum g list (devsTo list 12) := psum_full hv _ fun x hx => by
      rw [devL_eq hv, devL]
      exact List.mem_map_of_mem ((sortH_perm list).mem_iff.2 hx)
    have hb := (psum_bd hv (2 ^ list.length - 1)).1
    rw [e] at hb ⊢
    by_cases h : lackSum g list (devsTo list 12) = 0
    · rw [if_pos h, if_neg (by omega)]
    · rw [if_neg h, if_pos (by omega)]
  · rw [if_neg hv, if_neg hv]
end
end Go.Proofs.Ytlinhckgdfhppaa
namespace Go.Proofs.Ytlinhckgdfhppaa
open Go Go.RowKit Go.Proofs.YtlinhckgdfhppaaK

section
variable (g : Goal) (A1 : Option Addr) (c1 : Nat) (A2 : Option Addr) (c2 : Nat) (A3 : Option Addr) (c3 : Nat) (A4 : Option Addr) (n c4 : Nat) (list : List Hold) (w : World)
theorem Valid.modest {g : Goal} {list : List Hold} (h : Valid g list) : Modest g := ⟨fun n hn => by have := h.2.2.2.2.2.2.1.1 n hn; omega, ⟨h.2.1, by have := h.2.2.1; omega⟩, h.1⟩
set_option maxRecDepth 100000 in
set_option maxHeartbeats 1000000 in
theorem sufficient_any (hg : GoalIn w (fun k => k < w.heap.size) g A1 c1 A2 c2 A3 c3) (hl : Row kHold w (fun k => k < w.heap.size) A4 n list) (hc4 : n ≤ c4) :
    Calls Try.prog 16 #[.agg (goalCells g A1 c1 A2 c2 A3 c3), .slice A4 n c4] w fun e w' => e = .returned (.int .i64 (possOf g list)) ∧ Below w.heap.size w w' := by
  have HG := As.mk hg
  have HL := As.mk hl
  have CHK : As (∀ W : World, Below w.heap.size w W → Calls Try.prog 20 #[.agg (goalCells g A1 c1 A2 c2 A3 c3), .slice A4 n c4] W fun e w' => e = .returned (.bool (decide (Valid g list))) ∧ Below W.heap.size W w') := ⟨fun W hW => refCheck_any g A1 c1 A2 c2 A3 c3 A4 n c4 list W _ (HG.o.below hW) (HL.o.below hW) hc4⟩
  have HB0 : As (Below w.heap.size w (w.alloc (.cells (goalCells g A1 c1 A2 c2 A3 c3) 38))) := ⟨(Below.refl _ _).alloc (Nat.le_refl _) _⟩
  have BOX : As (∀ W : World, Below (w.alloc (.cells (goalCells g A1 c1 A2 c2 A3 c3) 38)).heap.size (w.alloc (.cells (goalCells g A1 c1 A2 c2 A3 c3) 38)) W → W.cell? ⟨w.heap.size, 0, none⟩ = some (.slice A1 g.needs.length c1) ∧ W.cell? ⟨w.heap.size, 1, none⟩ = some (.int .i64 g.thr) ∧ W.cell? ⟨w.heap.size, 2, none⟩ = some (.bool g.index) ∧ W.cell? ⟨w.heap.size, 3, none⟩ = some (.slice A2 g.pieces.length c2) ∧ W.cell? ⟨w.heap.size, 4, none⟩ = some (.slice A3 g.shares.length c3) ∧ w.heap.size < W.heap.size) := ⟨fun W hW => by
    have e : ∀ i, W.cell? ⟨w.heap.size, i, none⟩ = (goalCells g A1 c1 A2 c2 A3 c3)[i]? := fun i => (hW.cell (p := ⟨w.heap.size, i, none⟩) (by simp)).trans (cell_of_row _ _ i _ _ _ (heap_alloc_new w _))
    exact ⟨e 0, e 1, e 2, e 3, e 4, by have := hW.size; simp at this; omega⟩⟩
  have HPO := As.mk (possOf_eq (g := g) (list := list))
  have hs0 : (w.alloc (.cells (goalCells g A1 c1 A2 c2 A3 c3) 38)).heap.size = w.heap.size + 1 := by simp
  clear hg hl
  generalize possOf g list = r at *
  by_cases hv : Valid g list
  · rw [decide_eq_true hv] at CHK
    rw [if_pos hv] at HPO
    have HM := As.mk hv.modest
    have DEV : As (∀ W, Below w.heap.size w W → Calls Try.prog 40 #[.slice A4 n c4] W fun e w' => ∃ B c, e = .returned (.slice B (devsTo list 12).length c) ∧ Row (Kn.int .i64) w' (fun _ => True) B (devsTo list 12).length (devsTo list 12) ∧ Below W.heap.size W w') :=
      ⟨fun W hW => (devices_any A4 n c4 _ list W (HL.o.below hW)).mono fun e w' ⟨v, he, ho, hb⟩ => by
        obtain ⟨B, c, rfl, hc, hr⟩ := ho.shape
        exact ⟨B, c, he, hr.mono fun _ _ => trivial, hb⟩⟩
    have SUM : As (∀ W, Below w.heap.size w W → ∀ (B : Option Addr) (m c : Nat) (s : List Int), Row (Kn.int .i64) W (fun _ => True) B m s → Calls Try.prog 27 #[.agg (goalCells g A1 c1 A2 c2 A3 c3), .slice A4 n c4, .slice B m c] W fun e w' => e = .returned (.int .i64 (lackSum g list s)) ∧ Below W.heap.size W w') :=
      ⟨fun W hW B m c s hr => sum_any g A1 c1 A2 c2 A3 c3 A4 n c4 list B m c s (fun _ => True) W ⟨(HG.o.below hW).n.mono fun _ _ => trivial, HG.o.cn, (HG.o.below hW).p.mono fun _ _ => trivial, HG.o.cp, (HG.o.below hW).s.mono fun _ _ => trivial, HG.o.cs⟩ ((HL.o.below hW).mono fun _ _ => trivial) hr HM.o⟩
    clear hv
    generalize devsTo list 12 = D at *
    by_cases hp : 0 < lackSum g list D
    · rw [if_pos hp] at HPO
      have d0 : decide (0 < lackSum g list D) = true := decide_eq_true hp
      go_enter Try.func16, Try.ntmps16
      go_wp2_with (go_at_call 20; refine (CHK.o _ HB0.o).mono ?_; rintro e w1 ⟨rfl, hb1⟩; obtain ⟨a0, a1, a2, a3, a4, al⟩ := BOX.o w1 hb1)
      have hB1 : Below w.heap.size w w1 := bthen HB0.o hb1 (by omega)
      go_region_with (first
        | (go_at_call 40; refine (DEV.o _ hB1.drew).mono ?_; rintro e w2 ⟨B, c, rfl, hr2, hb2⟩; obtain ⟨z0, z1, z2, z3, z4, zl⟩ := BOX.o w2 (bthen hb1.drew hb2 (Nat.le_refl _)))
        | (go_at_call 27; refine (SUM.o _ (bthen hB1.drew hb2 (Nat.le_refl _)) _ _ _ _ hr2).mono ?_; rintro e w3 ⟨rfl, hb3⟩))
      all_goals
        go_wp2
        go_ret
        exact ⟨by rw [HPO.o]; rfl, bthen (bthen hB1.drew hb2 (Nat.le_refl _)) hb3 (Nat.le_refl _)⟩
    · rw [if_neg hp] at HPO
      have d0 : decide (0 < lackSum g list D) = false := decide_eq_false hp
      go_enter Try.func16, Try.ntmps16
      go_wp2_with (go_at_call 20; refine (CHK.o _ HB0.o).mono ?_; rintro e w1 ⟨rfl, hb1⟩; obtain ⟨a0, a1, a2, a3, a4, al⟩ := BOX.o w1 hb1)
      have hB1 : Below w.heap.size w w1 := bthen HB0.o hb1 (by omega)
      go_region_with (first
        | (go_at_call 40; refine (DEV.o _ hB1.drew).mono ?_; rintro e w2 ⟨B, c, rfl, hr2, hb2⟩; obtain ⟨z0, z1, z2, z3, z4, zl⟩ := BOX.o w2 (bthen hb1.drew hb2 (Nat.le_refl _)))
        | (go_at_call 27; refine (SUM.o _ (bthen hB1.drew hb2 (Nat.le_refl _)) _ _ _ _ hr2).mono ?_; rintro e w3 ⟨rfl, hb3⟩))
      all_goals
        go_wp2
        go_ret
        exact ⟨by rw [HPO.o]; rfl, bthen (bthen hB1.drew hb2 (Nat.le_refl _)) hb3 (Nat.le_refl _)⟩
  · rw [decide_eq_false hv] at CHK
    rw [if_neg hv] at HPO
    clear hv
    go_enter Try.func16, Try.ntmps16
    go_wp2_with (go_at_call 20; refine (CHK.o _ HB0.o).mono ?_; rintro e w1 ⟨rfl, hb1⟩)
    go_ret
    exact ⟨by rw [HPO.o]; rfl, bthen HB0.o hb1 (by omega)⟩
end
end Go.Proofs.Ytlinhckgdfhppaa
namespace Go.Proofs.Ytlinhckgdfhppaa
open Go Go.RowKit Go.Proofs.YtlinhckgdfhppaaK

section
variable (g : Goal) (A1 : Option Addr) (c1 : Nat) (A2 : Option Addr) (c2 : Nat) (A3 : Option Addr) (c3 : Nat) (A4 : Option Addr) (c4 : Nat) (list : List Hold) (w : World)
theorem goal_wide {W0 W : World} (h : GoalIn W0 (fun k => k < W0.heap.size) g A1 c1 A2 c2 A3 c3) (hb : Below W0.heap.size W0 W) : GoalIn W (fun k => k < W.heap.size) g A1 c1 A2 c2 A3 c3 :=
  ⟨(h.n.below hb).mono fun _ hk => Nat.lt_of_lt_of_le hk hb.size, h.cn, (h.p.below hb).mono fun _ hk => Nat.lt_of_lt_of_le hk hb.size, h.cp, (h.s.below hb).mono fun _ hk => Nat.lt_of_lt_of_le hk hb.size, h.cs⟩
set_option maxRecDepth 100000 in
set_option maxHeartbeats 2000000 in
theorem law3 (hg : GoalIn w (fun k => k < w.heap.size) g A1 c1 A2 c2 A3 c3) (hl : Row kHold w (fun k => k < w.heap.size) A4 list.length list) :
    Calls Try.prog 3 #[.agg (goalCells g A1 c1 A2 c2 A3 c3), .slice A4 list.length c4] w fun e w' => e = .returned (.bool true) ∧ Below w.heap.size w w' := by
  obtain ⟨W0, hW0⟩ : ∃ W0 : World, W0 = w.alloc (.cells (goalCells g A1 c1 A2 c2 A3 c3) 26) := ⟨_, rfl⟩
  have hB0 : Below w.heap.size w W0 := by rw [hW0]; exact (Below.refl _ _).alloc (Nat.le_refl _) _
  have hs0 : W0.heap.size = w.heap.size + 1 := by rw [hW0]; simp
  have X0 : W0.heap[w.heap.size]? = some (.cells (goalCells g A1 c1 A2 c2 A3 c3) 26 (0, 0)) := by rw [hW0]; exact heap_alloc_new w _
  have HB0 := As.mk hB0
  have BOX : As (∀ W : World, Below W0.heap.size W0 W → W.cell? ⟨w.heap.size, 0, none⟩ = some (.slice A1 g.needs.length c1) ∧ W.cell? ⟨w.heap.size, 1, none⟩ = some (.int .i64 g.thr) ∧ W.cell? ⟨w.heap.size, 2, none⟩ = some (.bool g.index) ∧ W.cell? ⟨w.heap.size, 3, none⟩ = some (.slice A2 g.pieces.length c2) ∧ W.cell? ⟨w.heap.size, 4, none⟩ = some (.slice A3 g.shares.length c3) ∧ w.heap.size < W.heap.size) := ⟨fun W hW => by
    have e : ∀ i, W.cell? ⟨w.heap.size, i, none⟩ = (goalCells g A1 c1 A2 c2 A3 c3)[i]? := fun i => (hW.cell (p := ⟨w.heap.size, i, none⟩) (show w.heap.size < W0.heap.size by omega)).trans (cell_of_row _ _ i _ _ _ X0)
    exact ⟨e 0, e 1, e 2, e 3, e 4, by have := hW.size; omega⟩⟩
  have G0 := As.mk (goal_wide g A1 c1 A2 c2 A3 c3 (W := W0) hg hB0)
  have GG : As (∀ W : World, Below W0.heap.size W0 W → GoalIn W (fun k => k < W.heap.size) g A1 c1 A2 c2 A3 c3) := ⟨fun W hW => goal_wide g A1 c1 A2 c2 A3 c3 G0.o hW⟩
  have LL : As (∀ W : World, Below W0.heap.size W0 W → Row kHold W (fun k => k < W.heap.size) A4 list.length list) := ⟨fun W hW => (hl.below (hB0.trans (hW.mono (by omega)))).mono fun _ hk => Nat.lt_of_lt_of_le hk (Nat.le_trans hB0.size hW.size)⟩
  have FEW : As (∀ W : World, Below W0.heap.size W0 W → Calls Try.prog 10 #[.agg (goalCells g A1 c1 A2 c2 A3 c3), .slice A4 list.length c4] W fun e w' => e = .returned (.bool (decide (Few g list))) ∧ Below W0.heap.size W0 w') := ⟨fun W hW => (few_any g A1 c1 A2 c2 A3 c3 A4 list.length c4 list W _ (GG.o W hW) (LL.o W hW)).mono fun e w' ⟨he, hb⟩ => ⟨he, bthen hW hb (Nat.le_refl _)⟩⟩
  have AWK : As (∀ W : World, Below W0.heap.size W0 W → Calls Try.prog 11 #[] W fun e w' => e = .returned (.bool true) ∧ Below W0.heap.size W0 w' ∧ Below W.heap.size W w') := ⟨fun W hW => (awake_any W).mono fun e w' ⟨he, hb⟩ => ⟨he, bthen hW hb (Nat.le_refl _), hb⟩⟩
  have r0 : Below W0.heap.size W0 W0 := Below.refl _ _
  have HW0 := As.mk hW0
  obtain ⟨a0, a1, a2, a3, a4, al⟩ := BOX.o W0 r0
  clear hB0 X0 G0 hW0 hg
  by_cases hf : Few g list
  · rw [decide_eq_true hf] at FEW
    have hn6 := hf.2.1
    have hl13 : list.length ≤ 13 := by have := hf.2.2.2.2; omega
    have GOF : As (∀ W : World, Below W0.heap.size W0 W → Calls Try.prog 14 #[.agg (goalCells g A1 c1 A2 c2 A3 c3)] W fun e w' => ∃ B d, e = .returned (.agg (goalCells g B d A2 c2 A3 c3)) ∧ GoalIn w' (fun k => k < w'.heap.size) g B d A2 c2 A3 c3 ∧ Below W0.heap.size W0 w' ∧ Below W.heap.size W w') := ⟨fun W hW => (goalOf_any g A1 c1 A2 c2 A3 c3 W (GG.o W hW) (by omega)).mono fun e w' ⟨v, he, ho, hb⟩ => by
      obtain ⟨B, d, rfl, hd, hr⟩ := ho.shape
      have h1 := GG.o _ (bthen hW hb (Nat.le_refl _))
      exact ⟨B, d, he, ⟨hr, hd, h1.p, h1.cp, h1.s, h1.cs⟩, bthen hW hb (Nat.le_refl _), hb⟩⟩
    have HOF : As (∀ W : World, Below W0.heap.size W0 W → Calls Try.prog 15 #[.slice A4 list.length c4] W fun e w' => ∃ B d, e = .returned (.slice B list.length d) ∧ list.length ≤ d ∧ Row kHold w' (fun k => k < w'.heap.size) B list.length list ∧ Below W0.heap.size W0 w' ∧ Below W.heap.size W w') := ⟨fun W hW => (holdingsOf_any A4 list.length c4 list W (LL.o W hW) (by omega)).mono fun e w' ⟨v, he, ho, hb⟩ => by
      obtain ⟨B, d, rfl, hd, hr⟩ := ho.shape
      exact ⟨B, d, he, hd, hr, bthen hW hb (Nat.le_refl _), hb⟩⟩
    have SUFF : As (∀ (W : World) (B : Option Addr) (d : Nat) (B4 : Option Addr) (d4 : Nat), GoalIn W (fun k => k < W.heap.size) g B d A2 c2 A3 c3 → Row kHold W (fun k => k < W.heap.size) B4 list.length list → list.length ≤ d4 → Calls Try.prog 16 #[.agg (goalCells g B d A2 c2 A3 c3), .slice B4 list.length d4] W fun e w' => e = .returned (.int .i64 (possOf g list)) ∧ Below W.heap.size W w') := ⟨fun W B d B4 d4 h1 h2 h3 => sufficient_any g B d A2 c2 A3 c3 B4 list.length d4 list W h1 h2 h3⟩
    by_cases h0 : possOf g list = 0
    · have hv := (possOf_zero h0).1
      have HMIN := minimal_eq hv h0
      obtain ⟨rest, hrest⟩ := fewest_eq hv h0
      have hli6 : list.length ≤ 6 := by have := hf.2.2.2.2; have := hv.ok.hnl; omega
      have FST : As (∀ W : World, Below W0.heap.size W0 W → Calls Try.prog 12 #[.agg (goalCells g A1 c1 A2 c2 A3 c3), .slice A4 list.length c4] W fun e w' => ∃ A c, e = .returned (.tuple #[.slice A (fewestP g list).length c, .int .i64 0]) ∧ Row (Kn.int .i64) w' (fun _ => True) A (fewestP g list).length (fewestP g list) ∧ Below W0.heap.size W0 w') := ⟨fun W hW => by
        have := fewest_any g A1 c1 A2 c2 A3 c3 A4 c4 list W (GG.o W hW) (LL.o W hW)
        rw [h0] at this
        exact this.mono fun e w' ⟨A, c, he, _, hr, hb⟩ => ⟨A, c, he, hr.mono fun _ _ => trivial, bthen hW hb (Nat.le_refl _)⟩⟩
      have MIN : As (∀ W : World, Below W0.heap.size W0 W → Calls Try.prog 13 #[.agg (goalCells g A1 c1 A2 c2 A3 c3), .slice A4 list.length c4] W fun e w' => ∃ A c, e = .returned (.tuple #[.slice A (minimalOf g list).length c, .int .i64 0]) ∧ Row kInts w' (fun _ => True) A (minimalOf g list).length (minimalOf g list) ∧ Below W0.heap.size W0 w' ∧ Below W.heap.size W w') := ⟨fun W hW => by
        have := minimal_any g A1 c1 A2 c2 A3 c3 A4 c4 list W (GG.o W hW) (LL.o W hW) (fun _ => hli6)
        rw [h0, HMIN] at this
        exact this.mono fun e w' ⟨A, c, he, hr, hb⟩ => ⟨A, c, he, hr.mono fun _ _ => trivial, bthen hW hb (Nat.le_refl _), hb⟩⟩
      have REFM : As (∀ (W : World) (B : Option Addr) (d : Nat) (B4 : Option Addr) (d4 : Nat), GoalIn W (fun k => k < W.heap.size) g B d A2 c2 A3 c3 → Row kHold W (fun k => k < W.heap.size) B4 list.length list → Calls Try.prog 17 #[.agg (goalCells g B d A2 c2 A3 c3), .slice B4 list.length d4] W fun e w' => ∃ A c, e = .returned (.slice A (minimalOf g list).length c) ∧ Row kInts w' (fun _ => True) A (minimalOf g list).length (minimalOf g list) ∧ Below W.heap.size W w') := ⟨fun W B d B4 d4 h1 h2 => (refMinimal_any g B d A2 c2 A3 c3 B4 list.length d4 list W h1 h2 hv.modest).mono fun e w' ⟨v, he, ho, hb⟩ => by
        obtain ⟨A, c, rfl, _, hr⟩ := ho.shape
        exact ⟨A, c, he, hr.mono fun _ _ => trivial, hb⟩⟩
      have INT : As (∀ (W : World) (A B : Option Addr) (n c c' : Nat) (xs : List Int), Row (Kn.int .i64) W (fun _ => True) A n xs → Row (Kn.int .i64) W (fun _ => True) B n xs → Calls Try.prog 18 #[.slice A n c, .slice B n c'] W fun e w' => e = .returned (.bool true) ∧ Below W.heap.size W w') := ⟨fun W A B n c c' xs h1 h2 => by
        have := ints_any A B n c n c' _ xs xs W h1 h2
        rwa [decide_eq_true rfl] at this⟩
      rw [h0] at SUFF
      have hml : (minimalOf g list).length ≠ 0 := by rw [hrest]; simp
      have HLG : As (lg (minimalOf g list) 0 = fewestP g list) := ⟨by rw [hrest]; rfl⟩
      clear hf hv h0 HMIN hrest hl
      generalize minimalOf g list = M at *
      generalize fewestP g list = F at *
      go_enter Try.func3, Try.ntmps3
      go_upto_region 1 with (fail)
      rw [← HW0.o]
      go_upto_region 6 with (first
        | (go_at_call 10; refine (FEW.o _ r0).mono ?_; rintro e w1 ⟨rfl, h1⟩; obtain ⟨a0, a1, a2, a3, a4, al⟩ := BOX.o w1 h1)
        | (go_at_call 12; refine (FST.o _ h1).mono ?_; rintro e w2 ⟨Af, cf, rfl, hrf, h2⟩; obtain ⟨a0, a1, a2, a3, a4, al⟩ := BOX.o w2 h2)
        | (go_at_call 13; refine (MIN.o _ h2).mono ?_; rintro e w3 ⟨Am, cm, rfl, hrm, h3, h23⟩; obtain ⟨a0, a1, a2, a3, a4, al⟩ := BOX.o w3 h3)
        | (go_at_call 14; refine (GOF.o _ h3).mono ?_; rintro e w4 ⟨Bg, dg, rfl, hg4, h4, h34⟩)
        | (go_at_call 15; refine (HOF.o _ h4).mono ?_; rintro e w5 ⟨Bh, dh, rfl, hdh, hl5, h5, h45⟩))
      obtain ⟨W6, hW6⟩ : ∃ W6 : World, W6 = w5.alloc (.cells (goalCells g Bg dg A2 c2 A3 c3) 38) := ⟨_, rfl⟩
      rw [← hW6]
      have h56 : Below w5.heap.size w5 W6 := by rw [hW6]; exact (Below.refl _ _).alloc (Nat.le_refl _) _
      have hs6 : W6.heap.size = w5.heap.size + 1 := by rw [hW6]; simp
      have X6 : W6.heap[w5.heap.size]? = some (.cells (goalCells g Bg dg A2 c2 A3 c3) 38 (0, 0)) := by rw [hW6]; exact heap_alloc_new w5 _
      have h6 := bthen h5 h56 (Nat.le_refl _)
      have BX6 : As (∀ W : World, Below W6.heap.size W6 W → W.cell? ⟨w5.heap.size, 0, none⟩ = some (.slice Bg g.needs.length dg) ∧ W.cell? ⟨w5.heap.size, 1, none⟩ = some (.int .i64 g.thr) ∧ W.cell? ⟨w5.heap.size, 2, none⟩ = some (.bool g.index) ∧ W.cell? ⟨w5.heap.size, 3, none⟩ = some (.slice A2 g.pieces.length c2) ∧ W.cell? ⟨w5.heap.size, 4, none⟩ = some (.slice A3 g.shares.length c3)) := ⟨fun W hW => by
        have e : ∀ i, W.cell? ⟨w5.heap.size, i, none⟩ = (goalCells g Bg dg A2 c2 A3 c3)[i]? := fun i => (hW.cell (p := ⟨w5.heap.size, i, none⟩) (show w5.heap.size < W6.heap.size by omega)).trans (cell_of_row _ _ i _ _ _ X6)
        exact ⟨e 0, e 1, e 2, e 3, e 4⟩⟩
      have G6 := goal_wide g Bg dg A2 c2 A3 c3 hg4 (bthen h45 h56 (Nat.le_refl _))
      have L6 : Row kHold W6 (fun k => k < W6.heap.size) Bh list.length list := (hl5.below h56).mono fun _ hk => Nat.lt_of_lt_of_le hk h56.size
      obtain ⟨b0, b1, b2, b3, b4⟩ := BX6.o W6 (Below.refl _ _)
      have SU6 := As.mk (SUFF.o W6 Bg dg Bh dh G6 L6 hdh)
      clear hW6 hs6 X6
      have REF6 := As.mk (fun W (hW : Below W6.heap.size W6 W) => REFM.o W Bg dg Bh dh (goal_wide g Bg dg A2 c2 A3 c3 G6 hW) ((L6.below hW).mono fun _ hk => Nat.lt_of_lt_of_le hk hW.size))
      have dml : ((M.length : Int) == 0) = false := by
        have : (M.length : Int) ≠ 0 := by omega
        simpa using this
      go_wp2_with (first
        | (go_at_call 16; refine SU6.o.mono ?_; rintro e w7 ⟨rfl, h7⟩; obtain ⟨b0, b1, b2, b3, b4⟩ := BX6.o w7 h7)
        | (go_at_call 17; refine (REF6.o _ h7).mono ?_; rintro e w8 ⟨Aw, cw, rfl, hrw, h8⟩))
      have c38 : Below w3.heap.size w3 w8 := bthen (bthen (bthen (bthen h34 h45 (Nat.le_refl _)) h56 (Nat.le_refl _)) h7 (Nat.le_refl _)) h8 (Nat.le_refl _)
      have HRM := As.mk (hrm.below c38)
      have HRF := As.mk ((hrf.below h23).below c38)
      have HRW := As.mk hrw
      have HB8 : As (Below W0.heap.size W0 w8) := ⟨bthen h3 c38 (Nat.le_refl _)⟩
      have hMm := hrw.2.1
      clear hrm hrf hrw c38 b0 b1 b2 b3 b4 BX6 REF6 SU6 REFM SUFF G6 L6
      go_loopw [13] (fun i' wr => ∃ k : Nat, k ≤ M.length ∧ i' = .int .i64 k ∧ As (Below w8.heap.size w8 wr)) (fun i' _ => M.length - (intOf i').toNat)
      case atStart => exact ⟨0, Nat.zero_le _, rfl, ⟨Below.refl _ _⟩⟩
      case round =>
        obtain ⟨k, hk, rfl, HB⟩ := hrel
        by_cases hlt : k < M.length
        · obtain ⟨ad, Bs, cs, e1, _, q1, _, rs1⟩ := rowInts (HRM.o.below HB.o) k hlt
          obtain ⟨ad', Bs', cs', e2, _, q2, _, rs2⟩ := rowInts (HRW.o.below HB.o) k hlt
          subst e1
          subst e2
          have hk1 : (k : Int) < (M.length : Int) := by omega
          have RS1 := As.mk (rs1.below (Below.refl _ _).drew)
          have RS2 := As.mk (rs2.below (Below.refl _ _).drew)
          generalize lg M k = s at *
          have IK := As.mk (INT.o wr.drew Bs Bs' s.length cs cs' s RS1.o RS2.o)
          clear rs1 rs2
          go_wp2
          go_region_with (go_at_call 18; refine IK.o.mono ?_; rintro e w9 ⟨rfl, h9⟩)
          all_goals
            go_wp2
            go_roundw
            case rel => exact ⟨k + 1, by omega, by go_num, ⟨bthen HB.o.drew h9 (Nat.le_refl _)⟩⟩
            case measure => simp [intOf]; omega
        · have e : k = M.length := by omega
          subst e
          have AW := As.mk (AWK.o wr (bthen HB8.o HB.o (Nat.le_refl _)))
          have hM0 : 0 < M.length := by omega
          have hM1 : (0 : Int) < (M.length : Int) := by omega
          have FIN : As (∀ W : World, Below wr.heap.size wr W → ∃ ad Bs cs, Aw = some ad ∧ W.cell? ad = some (.slice Bs F.length cs) ∧ Row (Kn.int .i64) W (fun _ => True) Bs F.length F) := ⟨fun W hW => by
            obtain ⟨ad, Bs, cs, e1, _, q1, _, rs1⟩ := rowInts ((HRW.o.below HB.o).below hW) 0 hM0
            rw [HLG.o] at q1 rs1
            exact ⟨ad, Bs, cs, e1, q1, rs1⟩⟩
          have HRF2 := As.mk (HRF.o.below HB.o)
          go_wp2_with (first
            | (go_at_call 11; refine AW.o.mono ?_; rintro e w9 ⟨rfl, h9, h9'⟩; obtain ⟨ad, Bs, cs, e1, q1, rs1⟩ := FIN.o w9 h9'; subst e1)
            | (go_at_call 18; refine (INT.o _ _ _ _ _ _ F (HRF2.o.below h9') rs1).mono ?_; rintro e w10 ⟨rfl, h10⟩))
          go_ret
          exact ⟨rfl, (HB0.o.trans (h9.mono (by omega))).trans (h10.mono (by have := h9.size; omega))⟩
    · have FST : As (∀ W : World, Below W0.heap.size W0 W → Calls Try.prog 12 #[.agg (goalCells g A1 c1 A2 c2 A3 c3), .slice A4 list.length c4] W fun e w' => ∃ A c, e = .returned (.tuple #[.slice A 0 c, .int .i64 (possOf g list)]) ∧ Below W0.heap.size W0 w') := ⟨fun W hW => by
        have := fewest_any g A1 c1 A2 c2 A3 c3 A4 c4 list W (GG.o W hW) (LL.o W hW)
        rw [show fewestP g list = [] from if_neg h0] at this
        exact this.mono fun e w' ⟨A, c, he, _, _, hb⟩ => ⟨A, c, he, bthen hW hb (Nat.le_refl _)⟩⟩
      have MIN : As (∀ W : World, Below W0.heap.size W0 W → Calls Try.prog 13 #[.agg (goalCells g A1 c1 A2 c2 A3 c3), .slice A4 list.length c4] W fun e w' => ∃ A c, e = .returned (.tuple #[.slice A 0 c, .int .i64 (possOf g list)]) ∧ Below W0.heap.size W0 w') := ⟨fun W hW => by
        have := minimal_any g A1 c1 A2 c2 A3 c3 A4 c4 list W (GG.o W hW) (LL.o W hW) (fun h => absurd h h0)
        rw [show minimalP g list = [] from if_neg h0] at this
        exact this.mono fun e w' ⟨A, c, he, _, hb⟩ => ⟨A, c, he, bthen hW hb (Nat.le_refl _)⟩⟩
      have d0 : (possOf g list == 0) = false := by simp [h0]
      generalize possOf g list = r at *
      clear hl
      go_enter Try.func3, Try.ntmps3
      go_upto_region 1 with (fail)
      rw [← HW0.o]
      go_upto_region 6 with (first
        | (go_at_call 10; refine (FEW.o _ r0).mono ?_; rintro e w1 ⟨rfl, h1⟩; obtain ⟨a0, a1, a2, a3, a4, al⟩ := BOX.o w1 h1)
        | (go_at_call 12; refine (FST.o _ h1).mono ?_; rintro e w2 ⟨Af, cf, rfl, h2⟩; obtain ⟨a0, a1, a2, a3, a4, al⟩ := BOX.o w2 h2)
        | (go_at_call 13; refine (MIN.o _ h2).mono ?_; rintro e w3 ⟨Am, cm, rfl, h3⟩; obtain ⟨a0, a1, a2, a3, a4, al⟩ := BOX.o w3 h3)
        | (go_at_call 14; refine (GOF.o _ h3).mono ?_; rintro e w4 ⟨Bg, dg, rfl, hg4, h4, h34⟩)
        | (go_at_call 15; refine (HOF.o _ h4).mono ?_; rintro e w5 ⟨Bh, dh, rfl, hdh, hl5, h5, h45⟩))
      obtain ⟨W6, hW6⟩ : ∃ W6 : World, W6 = w5.alloc (.cells (goalCells g Bg dg A2 c2 A3 c3) 38) := ⟨_, rfl⟩
      rw [← hW6]
      have h56 : Below w5.heap.size w5 W6 := by rw [hW6]; exact (Below.refl _ _).alloc (Nat.le_refl _) _
      have hs6 : W6.heap.size = w5.heap.size + 1 := by rw [hW6]; simp
      have X6 : W6.heap[w5.heap.size]? = some (.cells (goalCells g Bg dg A2 c2 A3 c3) 38 (0, 0)) := by rw [hW6]; exact heap_alloc_new w5 _
      have h6 := bthen h5 h56 (Nat.le_refl _)
      have BX6 : As (∀ W : World, Below W6.heap.size W6 W → W.cell? ⟨w5.heap.size, 0, none⟩ = some (.slice Bg g.needs.length dg) ∧ W.cell? ⟨w5.heap.size, 1, none⟩ = some (.int .i64 g.thr) ∧ W.cell? ⟨w5.heap.size, 2, none⟩ = some (.bool g.index) ∧ W.cell? ⟨w5.heap.size, 3, none⟩ = some (.slice A2 g.pieces.length c2) ∧ W.cell? ⟨w5.heap.size, 4, none⟩ = some (.slice A3 g.shares.length c3)) := ⟨fun W hW => by
        have e : ∀ i, W.cell? ⟨w5.heap.size, i, none⟩ = (goalCells g Bg dg A2 c2 A3 c3)[i]? := fun i => (hW.cell (p := ⟨w5.heap.size, i, none⟩) (show w5.heap.size < W6.heap.size by omega)).trans (cell_of_row _ _ i _ _ _ X6)
        exact ⟨e 0, e 1, e 2, e 3, e 4⟩⟩
      have G6 := goal_wide g Bg dg A2 c2 A3 c3 hg4 (bthen h45 h56 (Nat.le_refl _))
      have L6 : Row kHold W6 (fun k => k < W6.heap.size) Bh list.length list := (hl5.below h56).mono fun _ hk => Nat.lt_of_lt_of_le hk h56.size
      obtain ⟨b0, b1, b2, b3, b4⟩ := BX6.o W6 (Below.refl _ _)
      have SU6 := As.mk (SUFF.o W6 Bg dg Bh dh G6 L6 hdh)
      clear hW6 hs6 X6
      go_wp2_with (first
        | (go_at_call 16; refine SU6.o.mono ?_; rintro e w7 ⟨rfl, h7⟩)
        | (go_at_call 11; refine (AWK.o _ (bthen h6 h7 (Nat.le_refl _))).mono ?_; rintro e w8 ⟨rfl, h8, _⟩))
      go_ret
      exact ⟨rfl, HB0.o.trans (h8.mono (by omega))⟩
  · rw [decide_eq_false hf] at FEW
    clear hf hl
    go_enter Try.func3, Try.ntmps3
    go_upto_region 1 with (fail)
    rw [← HW0.o]
    go_wp2_with (first
      | (go_at_call 10; refine (FEW.o _ r0).mono ?_; rintro e w1 ⟨rfl, h1⟩)
      | (go_at_call 11; refine (AWK.o _ h1).mono ?_; rintro e w2 ⟨rfl, h2, _⟩))
    go_ret
    exact ⟨rfl, HB0.o.trans (h2.mono (by omega))⟩
end
end Go.Proofs.Ytlinhckgdfhppaa
