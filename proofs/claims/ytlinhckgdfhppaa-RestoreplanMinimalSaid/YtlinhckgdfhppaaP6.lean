/- A part of the proof: what the functions do, and plain laws. -/
import Derived.Test.YtlinhckgdfhppaaP5
namespace Go.Proofs.Ytlinhckgdfhppaa
open Go Go.RowKit Go.Proofs.YtlinhckgdfhppaaK Go.Sort

theorem fst_irrefl {a : Nat} : ¬ Fst a a := fun ⟨_, _, h1, h2, _⟩ => by rw [h1] at h2; cases h2
/-- The devices, ascending. -/
def devL (list : List Hold) : List Int := (sortH list).map (·.dev)
theorem devL_len (list : List Hold) : (devL list).length = list.length := by rw [devL, List.length_map, sortH_len]
theorem maskTo_perm (ds : List Int) (h : ds.length ≤ 64) : (maskTo ds (ds.length + 1)).Perm (List.range (2 ^ ds.length)) := by
  refine (List.perm_ext_iff_of_nodup ((maskTo_ord ds h _).imp fun {a b} ho e => ?_) List.nodup_range).2 fun x => ?_
  · subst e
    rcases ho with h1 | ⟨_, h1⟩
    · omega
    · exact fst_irrefl h1
  · rw [maskTo_mem, List.mem_range]
    constructor
    · rintro ⟨k, _, hx⟩
      simpa using maskSets_lt ds 0 k x hx
    · intro hx
      obtain ⟨m, hm, hmem⟩ := maskSets_all ds 0 x (fun j hj => by omega) (by simpa using hx)
      exact ⟨m, by omega, hmem⟩
section
variable {g : Goal} {list : List Hold}
theorem cnt64_of {a : Nat} (h : a < 2 ^ 64) : cnt64 (BitVec.ofNat 64 a) = cntB a.testBit 64 ∧ rv64 (BitVec.ofNat 64 a) = rev64 a := by
  unfold cnt64 rv64
  rw [BitVec.toNat_ofNat, Nat.mod_eq_of_lt h]
  exact ⟨rfl, rfl⟩
theorem setsP_eq (hl : list.length ≤ 12) : setsP g list = ((maskTo (devL list) (list.length + 1)).filter fun x => decide (psum g list x = 0)).map (BitVec.ofNat 64) := by
  have hd := devL_len list
  have hp : (maskTo (devL list) (list.length + 1)).Perm (List.range (2 ^ list.length)) := by
    have := maskTo_perm (devL list) (by omega)
    rwa [hd] at this
  have hlt : ∀ x ∈ maskTo (devL list) (list.length + 1), x < 2 ^ 64 := fun x hx => by
    have h1 := List.mem_range.1 (hp.mem_iff.1 hx)
    exact Nat.lt_of_lt_of_le h1 (Nat.pow_le_pow_right (by omega) (by omega))
  refine (sortU_unique _ _ ((hp.filter _).map _) ?_).symm
  rw [List.pairwise_map]
  refine ((maskTo_ord (devL list) (by omega) _).filter _).imp_of_mem fun {a b} ha hb ho => ?_
  have ha' := hlt a (List.mem_filter.1 ha).1
  have hb' := hlt b (List.mem_filter.1 hb).1
  obtain ⟨ca, ra⟩ := cnt64_of ha'
  obtain ⟨cb, rb⟩ := cnt64_of hb'
  unfold ltU
  rw [ca, cb, ra, rb]
  rcases ho with h1 | ⟨h1, h2⟩
  · omega
  · have := fst_rev ha' hb' h2
    omega
theorem devL_eq (hv : Valid g list) : devsTo list 12 = devL list := by
  have h8 := hv.2.2.2.2.2.2.2
  have hdn : (devL list).Nodup := ((sortH_perm list).map _).nodup_iff.2 hv.nodup
  have hdp : (devL list).Pairwise fun a b => a ≤ b := by
    rw [devL, List.pairwise_map]
    exact sortH_sorted list
  have hep : (devsTo list 12).Pairwise fun a b => a < b := by
    unfold devsTo
    refine List.Pairwise.filter _ ?_
    rw [List.pairwise_map]
    exact List.pairwise_lt_range.imp fun h => by omega
  have hmem : ∀ d, d ∈ devsTo list 12 ↔ d ∈ devL list := fun d => by
    have h1 : d ∈ devL list ↔ d ∈ list.map (·.dev) := ((sortH_perm list).map _).mem_iff
    rw [h1]
    unfold devsTo
    rw [List.mem_filter, decide_eq_true_eq]
    constructor
    · exact fun h => h.2
    · intro h
      refine ⟨?_, h⟩
      obtain ⟨x, hx, rfl⟩ := List.mem_map.1 h
      have := h8.1 x hx
      exact List.mem_map.2 ⟨x.dev.toNat, List.mem_range.2 (by omega), by omega⟩
  have hen : (devsTo list 12).Nodup := hep.imp fun h e => by omega
  exact List.Perm.eq_of_pairwise (le := fun a b => a ≤ b) (fun a b _ _ h1 h2 => by omega) (hep.imp fun h => by omega) hdp ((List.perm_ext_iff_of_nodup hen hdn).2 hmem)
theorem pickFrom_snoc (d : Int) (s : Nat) : ∀ (ds : List Int) (off : Nat), pickFrom (ds ++ [d]) off s = pickFrom ds off s ++ if s.testBit (off + ds.length) = true then [d] else []
  | [], off => by
    show pickFrom [d] off s = _
    by_cases h : s.testBit off = true <;> simp [pickFrom, h]
  | x :: ds, off => by
    rw [List.cons_append, pickFrom, pickFrom, pickFrom_snoc d s ds (off + 1), List.length_cons, show off + 1 + ds.length = off + (ds.length + 1) by omega]
    split <;> simp
theorem pickTo_from (L : List Hold) (s : Nat) : ∀ k, k ≤ L.length → pickTo L s k = pickFrom ((L.map (·.dev)).take k) 0 s
  | 0, _ => by simp [pickTo, pickFrom]
  | k + 1, hk => by
    have hkl : k < (L.map (·.dev)).length := by simp; omega
    rw [pickTo, pickTo_from L s k (by omega), List.take_succ_eq_append_getElem hkl, pickFrom_snoc, List.length_take, List.getElem_map, ← hgt_eq L k (by omega)]
    have e : 0 + min k (L.map (·.dev)).length = k := by omega
    rw [e]
    by_cases h : s.testBit k = true <;> simp [h]
theorem pick_all (s : Nat) : pickTo (sortH list) s list.length = pickFrom (devL list) 0 s := by
  rw [pickTo_from _ _ _ (by rw [sortH_len]; exact Nat.le_refl _), List.take_of_length_le (by rw [List.length_map, sortH_len]; exact Nat.le_refl _)]
  rfl
theorem all_eq : (maskTo (devL list) (list.length + 1)).map (fun x => pickTo (sortH list) x list.length) = allOf (devL list) := by
  have e : (fun x => pickTo (sortH list) x list.length) = pickFrom (devL list) 0 := funext fun x => pick_all x
  rw [e, maskTo_pick, allOf, devL_len]
theorem pickTo_nodup (hv : Valid g list) (s : Nat) : ∀ k, k ≤ list.length → (pickTo (sortH list) s k).Nodup
  | 0, _ => List.nodup_nil
  | k + 1, hk => by
    rw [pickTo]
    have ih := pickTo_nodup hv s k (by omega)
    split
    · refine List.nodup_append.2 ⟨ih, by simp, fun a ha b hb e => ?_⟩
      obtain ⟨j, hj, _, hd⟩ := (pickTo_mem _ _ _ _).1 ha
      rw [List.mem_singleton] at hb
      have := devs_inj hv.nodup (by omega) (by omega) (hd.trans (e.trans hb))
      omega
    · exact ih
theorem mem_erase {s : List Int} (hn : s.Nodup) (q : Nat) (hq : q < s.length) (a : Int) : a ∈ s.eraseIdx q ↔ a ∈ s ∧ a ≠ s[q] := by
  have e : s = s.take q ++ s[q] :: s.drop (q + 1) := by rw [List.getElem_cons_drop, List.take_append_drop]
  have hn' := hn
  rw [e, List.nodup_append, List.nodup_cons] at hn'
  rw [List.eraseIdx_eq_take_drop_succ, List.mem_append]
  have hm : a ∈ s ↔ a ∈ s.take q ∨ a = s[q] ∨ a ∈ s.drop (q + 1) := by
    conv => lhs; rw [e]
    rw [List.mem_append, List.mem_cons]
  rw [hm]
  constructor
  · rintro (h | h)
    · exact ⟨.inl h, fun e2 => hn'.2.2 a h s[q] (List.mem_cons_self ..) e2⟩
    · exact ⟨.inr (.inr h), fun e2 => hn'.2.1.1 (e2 ▸ h)⟩
  · rintro ⟨h | h | h, h2⟩
    · exact .inl h
    · exact absurd h h2
    · exact .inr h
theorem clr_bit (x i j : Nat) (hx : x < 2 ^ 64) (hi : i < 64) : (clrB (BitVec.ofNat 64 x) i).toNat.testBit j = true ↔ x.testBit j = true ∧ j ≠ i := by
  unfold clrB
  show (BitVec.ofNat 64 x &&& ~~~ BitVec.ofNat 64 (2 ^ i)).getLsbD j = true ↔ _
  rw [BitVec.getLsbD_and, BitVec.getLsbD_not, BitVec.getLsbD_ofNat, BitVec.getLsbD_ofNat, Nat.testBit_two_pow]
  rcases Nat.lt_or_ge j 64 with h | h
  · rw [decide_eq_true h]
    by_cases e : i = j
    · subst e; simp
    · simp [e, Ne.symm e]
  · rw [decide_eq_false (by omega), Nat.testBit_lt_two_pow (Nat.lt_of_lt_of_le hx (Nat.pow_le_pow_right (by omega) h))]
    simp
theorem isMin_iff (hv : Valid g list) (x : Nat) (hx : x < 2 ^ 64) : isMin g list (pickTo (sortH list) x list.length) ↔ psum g list x = 0 ∧ minOK g list list.length (BitVec.ofNat 64 x) := by
  have hn := pickTo_nodup hv x list.length (Nat.le_refl _)
  have hl := hv.ok.hnl
  have hxn : (BitVec.ofNat 64 x).toNat = x := by rw [BitVec.toNat_ofNat, Nat.mod_eq_of_lt hx]
  have key : ∀ i q, i < list.length → (hq : q < (pickTo (sortH list) x list.length).length) → (pickTo (sortH list) x list.length)[q] = (hgt (sortH list) i).dev → psum g list (clrB (BitVec.ofNat 64 x) i).toNat = lackSum g list ((pickTo (sortH list) x list.length).eraseIdx q) := fun i q hi hq he => by
    refine psum_eq hv _ _ fun j hj => ?_
    rw [clr_bit x i j hx (by omega), mem_erase hn q hq, ← pick_bit hv x j hj, he]
    constructor
    · rintro ⟨h1, h2⟩
      exact ⟨h1, fun e => h2 (devs_inj hv.nodup hj hi e)⟩
    · rintro ⟨h1, h2⟩
      exact ⟨h1, fun e => h2 (by rw [e])⟩
  unfold isMin minOK
  rw [← psum_pick hv, hxn]
  refine and_congr_right fun _ => ?_
  constructor
  · intro h i hi hb
    have hm := (pick_bit hv x i hi).1 hb
    obtain ⟨q, hq, he⟩ := List.mem_iff_getElem.1 hm
    rw [key i q hi hq he]
    have := h q hq
    omega
  · intro h q hq
    obtain ⟨i, hi, hb, hd⟩ := (pickTo_mem _ _ _ _).1 (List.getElem_mem hq)
    have h1 := h i hi hb
    rw [key i q hi hq hd.symm] at h1
    have h2 := (psum_bd hv (clrB (BitVec.ofNat 64 x) i).toNat).1
    rw [key i q hi hq hd.symm] at h2
    omega
/-- **The program's minimal sets are the document's.** -/
theorem minimal_eq (hv : Valid g list) (h0 : possOf g list = 0) : minimalP g list = minimalOf g list := by
  have hl := hv.ok.hnl
  have hd := devL_len list
  have hp : (maskTo (devL list) (list.length + 1)).Perm (List.range (2 ^ list.length)) := by
    have := maskTo_perm (devL list) (by omega)
    rwa [hd] at this
  have hlt : ∀ x ∈ maskTo (devL list) (list.length + 1), x < 2 ^ 64 := fun x hx => by
    have h1 := List.mem_range.1 (hp.mem_iff.1 hx)
    exact Nat.lt_of_lt_of_le h1 (Nat.pow_le_pow_right (by omega) (by omega))
  unfold minimalP minimalOf minTo
  rw [if_pos h0, List.take_length, setsP_eq hl, devL_eq hv, ← all_eq, List.filter_map, List.filter_map, List.filter_filter, List.map_map]
  have e1 : (maskTo (devL list) (list.length + 1)).filter (fun a => ((fun x => decide (minOK g list list.length x)) ∘ BitVec.ofNat 64) a && decide (psum g list a = 0)) = (maskTo (devL list) (list.length + 1)).filter ((fun s => decide (isMin g list s)) ∘ fun x => pickTo (sortH list) x list.length) := by
    refine List.filter_congr fun x hx => ?_
    show (decide (minOK g list list.length (BitVec.ofNat 64 x)) && decide (psum g list x = 0)) = decide (isMin g list (pickTo (sortH list) x list.length))
    have := isMin_iff hv x (hlt x hx)
    by_cases h1 : psum g list x = 0 <;> by_cases h2 : minOK g list list.length (BitVec.ofNat 64 x) <;> simp [h1, h2, this]
  rw [e1]
  refine List.map_congr_left fun x hx => ?_
  show pickTo (sortH list) (BitVec.ofNat 64 x).toNat list.length = _
  rw [BitVec.toNat_ofNat, Nat.mod_eq_of_lt (hlt x (List.mem_filter.1 hx).1)]
end
end Go.Proofs.Ytlinhckgdfhppaa
