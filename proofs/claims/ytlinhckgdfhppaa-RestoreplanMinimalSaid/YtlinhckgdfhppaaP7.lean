/- A part of the proof: what the functions do, and plain laws. -/
import Derived.Test.YtlinhckgdfhppaaP6
namespace Go.Proofs.Ytlinhckgdfhppaa
open Go Go.RowKit Go.Proofs.YtlinhckgdfhppaaK Go.Sort

section
variable {g : Goal} {list : List Hold}
theorem cnt_clr (x : BitVec 64) (i : Nat) (hi : i < 64) (hb : x.toNat.testBit i = true) : cnt64 (clrB x i) < cnt64 x := by
  have hc : ∀ j, (clrB x i).toNat.testBit j = true ↔ x.toNat.testBit j = true ∧ j ≠ i := fun j => by
    have := clr_bit x.toNat i j x.isLt hi
    rwa [BitVec.ofNat_toNat, BitVec.setWidth_eq] at this
  have e : x.toNat = 2 ^ i ||| (clrB x i).toNat := Nat.eq_of_testBit_eq fun j => by
    rw [Nat.testBit_or, Nat.testBit_two_pow]
    by_cases h : i = j
    · subst h; rw [hb]; simp
    · rw [decide_eq_false h, Bool.false_or]
      cases h1 : x.toNat.testBit j with
      | true => exact ((hc j).2 ⟨h1, Ne.symm h⟩).symm
      | false =>
        cases h2 : (clrB x i).toNat.testBit j with
        | true => have := ((hc j).1 h2).1; rw [h1] at this; cases this
        | false => rfl
  have h0 : (clrB x i).toNat.testBit i = false := by
    cases h2 : (clrB x i).toNat.testBit i with
    | true => exact absurd rfl ((hc i).1 h2).2
    | false => rfl
  have := cntB_or (clrB x i).toNat i h0 64
  rw [← e, if_pos hi] at this
  unfold cnt64
  omega
theorem sortU_sorted (xs : List (BitVec 64)) : (sortU xs).Pairwise fun a b => ¬ ltU b a := by
  have := List.pairwise_mergeSort (le := fun x y => !(ltOf cfU) y x) (by
    intro a b c h1 h2
    simp only [Bool.not_eq_true'] at *
    exact swoU.ntrans _ _ _ h2 h1) (by
    intro a b
    rw [Bool.or_eq_true, Bool.not_eq_true', Bool.not_eq_true', ltU_no, ltU_no]
    unfold ltU
    omega) xs
  exact this.imp fun h => ltU_no.1 (by simpa using h)
/-- The first set that suffices is minimal. -/
theorem first_min (hv : Valid g list) (x : BitVec 64) (rest : List (BitVec 64)) (h : setsP g list = x :: rest) : minOK g list list.length x := by
  intro i hi hb hp
  have hl := hv.ok.hnl
  have hlt := cnt_clr x i (by omega) hb
  have hx : x ∈ setsP g list := by rw [h]; exact List.mem_cons_self ..
  obtain ⟨s, hs, _, hsx⟩ := (setsP_mem g list x).1 hx
  have h2 : 2 ^ list.length ≤ 2 ^ 12 := Nat.pow_le_pow_right (by omega) hl
  have hxs : x.toNat = s := by rw [← hsx, BitVec.toNat_ofNat, Nat.mod_eq_of_lt (by omega)]
  have hcl : (clrB x i).toNat < 2 ^ list.length := by
    have h3 : (clrB x i).toNat ≤ x.toNat := by
      unfold clrB
      rw [BitVec.toNat_and]
      exact Nat.and_le_left
    omega
  have hm : clrB x i ∈ setsP g list := (setsP_mem g list _).2 ⟨(clrB x i).toNat, hcl, hp, by rw [BitVec.ofNat_toNat, BitVec.setWidth_eq]⟩
  have hso := sortU_sorted (selTo g list (2 ^ list.length))
  rw [show sortU (selTo g list (2 ^ list.length)) = setsP g list from rfl, h, List.pairwise_cons] at hso
  rw [h, List.mem_cons] at hm
  rcases hm with e | e
  · rw [e] at hlt; omega
  · exact hso.1 _ e (.inl hlt)
theorem fewest_eq (hv : Valid g list) (h0 : possOf g list = 0) : ∃ rest, minimalOf g list = fewestP g list :: rest := by
  rw [← minimal_eq hv h0]
  have hpos := setsP_pos h0
  unfold minimalP fewestP minTo
  rw [if_pos h0, if_pos h0, List.take_length]
  cases hS : setsP g list with
  | nil => rw [hS] at hpos; simp at hpos
  | cons x rest =>
    rw [List.filter_cons_of_pos (by exact decide_eq_true (first_min hv x rest hS))]
    exact ⟨_, rfl⟩
/-- What the law's own sufficient answers is what possible answers. -/
theorem possOf_eq : possOf g list = if Valid g list then (if 0 < lackSum g list (devsTo list 12) then 10 else 0) else 1 := by
  unfold possOf
  by_cases hv : Valid g list
  · rw [if_pos hv, if_pos hv]
    have e : psum g list (2 ^ list.length - 1) = lackSum g list (devsTo list 12) := psum_full hv _ fun x hx => by
      rw [devL_eq hv, devL]
      exact List.mem_map_of_mem ((sortH_perm list).mem_iff.2 hx)
    have hb := (psum_bd hv (2 ^ list.length - 1)).1
    rw [e] at hb ⊢
    by_cases h : lackSum g list (devsTo list 12) = 0
    · rw [if_pos h, if_neg (by omega)]
    · rw [if_neg h, if_pos (by omega)]
  · rw [if_neg hv, if_neg hv]
end
end Go.Proofs.Ytlinhckgdfhppaa
