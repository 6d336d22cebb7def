/- A part of the proof: what the functions do, and plain laws. -/
import Derived.Test.YtlinhckgdfhppaaC37
namespace Go.Proofs.Ytlinhckgdfhppaa
open Go Go.Proofs.YtlinhckgdfhppaaK

/-! What the program's masks and words say: plain laws, no program in sight. -/
theorem maskAt_set (ms : List (BitVec 16)) (i j : Nat) (v : BitVec 16) (hj : j < ms.length) : maskAt (ms.set i v) j = if i = j then v else maskAt ms j := by
  unfold maskAt
  simp only [List.getD_eq_getElem?_getD, List.getElem?_set]
  by_cases h : i = j
  · subst h
    simp [hj]
  · simp [h]
theorem giveP_bit (nf : ByteArray → Option Nat) (ms : List (BitVec 16)) (p : Piece) (i b : Nat) (hi : i < ms.length) (hp : 0 ≤ p.2 ∧ p.2 < 16) :
    (maskAt (giveP nf ms p) i).getLsbD b = true ↔ (maskAt ms i).getLsbD b = true ∨ (nf p.1 = some i ∧ (b : Int) = p.2) := by
  cases h : nf p.1 with
  | none => simp [giveP_none h]
  | some i' =>
    rw [giveP_some h, maskAt_set _ _ _ _ hi]
    by_cases e : i' = i
    · subst e
      rw [if_pos rfl, BitVec.getLsbD_or, BitVec.getLsbD_twoPow]
      simp only [Bool.or_eq_true, Bool.and_eq_true, decide_eq_true_eq, beq_iff_eq, true_and]
      constructor
      · rintro (h1 | ⟨_, h2⟩)
        · exact .inl h1
        · exact .inr (by omega)
      · rintro (h1 | h2)
        · exact .inl h1
        · exact .inr ⟨by omega, by omega⟩
    · rw [if_neg e]
      simp [e]
theorem giveM_bit (nf : ByteArray → Option Nat) (i b : Nat) : ∀ (ps : List Piece) (ms : List (BitVec 16)), i < ms.length → (∀ p ∈ ps, 0 ≤ p.2 ∧ p.2 < 16) →
    ((maskAt (giveM nf ms ps) i).getLsbD b = true ↔ (maskAt ms i).getLsbD b = true ∨ ∃ p ∈ ps, nf p.1 = some i ∧ (b : Int) = p.2)
  | [], ms, _, _ => by simp [giveM]
  | p :: ps, ms, hi, hp => by
    have h1 := giveM_bit nf i b ps (giveP nf ms p) (by rw [giveP_len]; exact hi) (fun q hq => hp q (List.mem_cons_of_mem _ hq))
    have h2 := giveP_bit nf ms p i b hi (hp p (List.mem_cons_self ..))
    rw [show giveM nf ms (p :: ps) = giveM nf (giveP nf ms p) ps from rfl, h1, h2]
    simp only [List.mem_cons, or_and_right, exists_or, exists_eq_left, or_assoc]
theorem withM_bit (nf : ByteArray → Option Nat) (L : List Hold) (s i b : Nat) (ms : List (BitVec 16)) (hi : i < ms.length) (hp : ∀ h ∈ L, ∀ p ∈ h.pieces, 0 ≤ p.2 ∧ p.2 < 16) : ∀ k, k ≤ L.length →
    ((maskAt (withM nf L s ms k) i).getLsbD b = true ↔ (maskAt ms i).getLsbD b = true ∨ ∃ j, j < k ∧ s.testBit j = true ∧ ∃ p ∈ (hgt L j).pieces, nf p.1 = some i ∧ (b : Int) = p.2)
  | 0, _ => by simp [withM]
  | k + 1, hk => by
    have ih := withM_bit nf L s i b ms hi hp k (by omega)
    have hm : hgt L k ∈ L := by rw [hgt_eq L k (by omega)]; exact List.getElem_mem _
    rw [withM]
    by_cases ht : s.testBit k = true
    · rw [if_pos ht, giveM_bit nf i b _ _ (by rw [withM_len]; exact hi) (hp _ hm), ih]
      constructor
      · rintro ((h | ⟨j, h1, h2⟩) | h)
        · exact .inl h
        · exact .inr ⟨j, by omega, h2⟩
        · exact .inr ⟨k, by omega, ht, h⟩
      · rintro (h | ⟨j, h1, h2, h3⟩)
        · exact .inl (.inl h)
        · rcases Nat.lt_or_ge j k with h4 | h4
          · exact .inl (.inr ⟨j, h4, h2, h3⟩)
          · obtain rfl : j = k := by omega
            exact .inr h3
    · rw [if_neg ht, ih]
      constructor
      · rintro (h | ⟨j, h1, h2⟩)
        · exact .inl h
        · exact .inr ⟨j, by omega, h2⟩
      · rintro (h | ⟨j, h1, h2, h3⟩)
        · exact .inl h
        · rcases Nat.lt_or_ge j k with h4 | h4
          · exact .inr ⟨j, h4, h2, h3⟩
          · obtain rfl : j = k := by omega
            exact absurd h2 ht
/-- Share x among the words. -/
def bitW (f : Nat → BitVec 64) (x : Nat) : Bool := (f (x / 64)).getLsbD (x % 64)
theorem addW_bit (f : Nat → BitVec 64) (y : Int) (x : Nat) (hy : 0 ≤ y) : bitW (addW f y) x = true ↔ bitW f x = true ∨ (x : Int) = y := by
  obtain ⟨m, rfl⟩ := Int.eq_ofNat_of_zero_le hy
  unfold bitW addW
  rw [show ((m : Int) / 64).toNat = m / 64 by omega, show ((m : Int) % 64).toNat = m % 64 by omega]
  by_cases e : x / 64 = m / 64
  · rw [if_pos e, BitVec.getLsbD_or, BitVec.getLsbD_twoPow]
    simp only [Bool.or_eq_true, Bool.and_eq_true, decide_eq_true_eq, beq_iff_eq]
    constructor
    · rintro (h | ⟨_, h⟩)
      · exact .inl h
      · exact .inr (by omega)
    · rintro (h | h)
      · exact .inl h
      · exact .inr ⟨by omega, by omega⟩
  · rw [if_neg e]
    constructor
    · exact .inl
    · rintro (h | h)
      · exact h
      · exact absurd (by omega) e
theorem addWs_bit (x : Nat) : ∀ (ys : List Int) (f : Nat → BitVec 64), (∀ y ∈ ys, 0 ≤ y) → (bitW (addWs f ys) x = true ↔ bitW f x = true ∨ (x : Int) ∈ ys)
  | [], f, _ => by simp [addWs]
  | y :: ys, f, h => by
    have h1 := addWs_bit x ys (addW f y) (fun z hz => h z (List.mem_cons_of_mem _ hz))
    rw [show addWs f (y :: ys) = addWs (addW f y) ys from rfl, h1, addW_bit f y x (h y (List.mem_cons_self ..)), List.mem_cons, or_assoc]
theorem withW_bit (L : List Hold) (s x : Nat) (f : Nat → BitVec 64) (hp : ∀ h ∈ L, ∀ y ∈ h.shares, (0 : Int) ≤ y) : ∀ k, k ≤ L.length →
    (bitW (withW L s f k) x = true ↔ bitW f x = true ∨ ∃ j, j < k ∧ s.testBit j = true ∧ (x : Int) ∈ (hgt L j).shares)
  | 0, _ => by simp [withW]
  | k + 1, hk => by
    have ih := withW_bit L s x f hp k (by omega)
    have hm : hgt L k ∈ L := by rw [hgt_eq L k (by omega)]; exact List.getElem_mem _
    rw [withW]
    by_cases ht : s.testBit k = true
    · rw [if_pos ht, addWs_bit x _ _ (hp _ hm), ih]
      constructor
      · rintro ((h | ⟨j, h1, h2⟩) | h)
        · exact .inl h
        · exact .inr ⟨j, by omega, h2⟩
        · exact .inr ⟨k, by omega, ht, h⟩
      · rintro (h | ⟨j, h1, h2, h3⟩)
        · exact .inl (.inl h)
        · rcases Nat.lt_or_ge j k with h4 | h4
          · exact .inl (.inr ⟨j, h4, h2, h3⟩)
          · obtain rfl : j = k := by omega
            exact .inr h3
    · rw [if_neg ht, ih]
      constructor
      · rintro (h | ⟨j, h1, h2⟩)
        · exact .inl h
        · exact .inr ⟨j, by omega, h2⟩
      · rintro (h | ⟨j, h1, h2, h3⟩)
        · exact .inl h
        · rcases Nat.lt_or_ge j k with h4 | h4
          · exact .inr ⟨j, h4, h2, h3⟩
          · obtain rfl : j = k := by omega
            exact absurd h2 ht
theorem withI_bit (L : List Hold) (s : Nat) (ix : Bool) : ∀ k, (withI L s ix k = true ↔ ix = true ∨ ∃ j, j < k ∧ s.testBit j = true ∧ (hgt L j).index = true)
  | 0 => by simp [withI]
  | k + 1 => by
    have ih := withI_bit L s ix k
    rw [withI]
    by_cases ht : s.testBit k = true
    · rw [if_pos ht, Bool.or_eq_true, ih]
      constructor
      · rintro ((h | ⟨j, h1, h2⟩) | h)
        · exact .inl h
        · exact .inr ⟨j, by omega, h2⟩
        · exact .inr ⟨k, by omega, ht, h⟩
      · rintro (h | ⟨j, h1, h2, h3⟩)
        · exact .inl (.inl h)
        · rcases Nat.lt_or_ge j k with h4 | h4
          · exact .inl (.inr ⟨j, h4, h2, h3⟩)
          · obtain rfl : j = k := by omega
            exact .inr h3
    · rw [if_neg ht, ih]
      constructor
      · rintro (h | ⟨j, h1, h2⟩)
        · exact .inl h
        · exact .inr ⟨j, by omega, h2⟩
      · rintro (h | ⟨j, h1, h2, h3⟩)
        · exact .inl h
        · rcases Nat.lt_or_ge j k with h4 | h4
          · exact .inr ⟨j, h4, h2, h3⟩
          · obtain rfl : j = k := by omega
            exact absurd h2 ht
/-- The need map, if the names differ. -/
theorem needTo_iff (needs : List Need) (hd : (needs.map (·.1)).Nodup) : ∀ k, k ≤ needs.length → ∀ s i, needTo needs k s = some i ↔ i < k ∧ (pg needs i).1 = s
  | 0, _, s, i => by simp [needTo]
  | k + 1, hk, s, i => by
    have ih := needTo_iff needs hd k (by omega) s i
    rw [needTo, upd]
    have key : ∀ j, j < k → (pg needs j).1 ≠ (pg needs k).1 := by
      intro j hj e
      have h1 : (needs.map (·.1))[j]'(by simp; omega) = (needs.map (·.1))[k]'(by simp; omega) := by
        rw [List.getElem_map, List.getElem_map, ← pg_eq needs j (by omega), ← pg_eq needs k (by omega)]
        exact e
      exact (List.pairwise_iff_getElem.1 hd) j k (by simp; omega) (by simp; omega) hj h1
    by_cases e : s = (pg needs k).1
    · rw [if_pos e]
      constructor
      · intro h
        injection h with h
        subst h
        exact ⟨by omega, e.symm⟩
      · rintro ⟨h1, h2⟩
        rcases Nat.lt_or_ge i k with h3 | h3
        · exact absurd (h2.trans e) (key i h3)
        · rw [show i = k by omega]
    · rw [if_neg e, ih]
      constructor
      · rintro ⟨h1, h2⟩
        exact ⟨by omega, h2⟩
      · rintro ⟨h1, h2⟩
        rcases Nat.lt_or_ge i k with h3 | h3
        · exact ⟨h3, h2⟩
        · exact absurd (by rw [← h2, show i = k by omega]) e
theorem shareCnt_eq (f : Nat → BitVec 64) : shareCnt f = cntB (bitW f) 256 := by
  have h : ∀ j, cntB (fun i => bitW f (64 * j + i)) 64 = wordCnt (f j) := fun j => cntB_congr fun i hi => by
    unfold bitW
    rw [show (64 * j + i) / 64 = j by omega, show (64 * j + i) % 64 = i by omega]
    rfl
  have e : cntB (bitW f) 256 = cntB (bitW f) 64 + cntB (fun i => bitW f (64 + i)) 64 + cntB (fun i => bitW f (128 + i)) 64 + cntB (fun i => bitW f (192 + i)) 64 := by
    rw [show (256 : Nat) = 192 + 64 from rfl, cntB_add, show (192 : Nat) = 128 + 64 from rfl, cntB_add, show (128 : Nat) = 64 + 64 from rfl, cntB_add]
  have h0 := h 0
  simp only [Nat.mul_zero, Nat.zero_add] at h0
  rw [e, shareCnt, ← h0, ← h 1, ← h 2, ← h 3]
theorem cntTo_eq (g : Goal) (list : List Hold) (devs : List Int) (n : ByteArray) (f : Nat → Bool) : ∀ k, (∀ b, b < k → (f b = true ↔ there g list devs (n, (b : Int)))) → cntB f k = cntTo g list devs n k
  | 0, _ => rfl
  | k + 1, h => by
    rw [cntB, cntTo, cntTo_eq g list devs n f k (fun b hb => h b (by omega))]
    have := h k (by omega)
    by_cases e : there g list devs (n, (k : Int))
    · rw [if_pos e, this.2 e]; rfl
    · rw [if_neg e, Bool.eq_false_iff.2 (fun h' => e (this.1 h'))]; rfl
theorem shrTo_eq (g : Goal) (list : List Hold) (devs : List Int) (f : Nat → Bool) (h0 : f 0 = false) : ∀ k, (∀ b, b < k → (f (b + 1) = true ↔ hasShare g list devs ((b : Int) + 1))) → cntB f (k + 1) = shrTo g list devs k
  | 0, _ => by rw [cntB, cntB, h0]; rfl
  | k + 1, h => by
    rw [cntB, shrTo, shrTo_eq g list devs f h0 k (fun b hb => h b (by omega))]
    have := h k (by omega)
    by_cases e : hasShare g list devs ((k : Int) + 1)
    · rw [if_pos e, this.2 e]; rfl
    · rw [if_neg e, Bool.eq_false_iff.2 (fun h' => e (this.1 h'))]; rfl
/-- The holdings by place. -/
theorem some_hold {list : List Hold} {P : Hold → Prop} : (∃ h ∈ list, P h) ↔ ∃ j, j < list.length ∧ P (hgt (sortH list) j) := by
  have hl := sortH_len list
  constructor
  · rintro ⟨h, hm, hp⟩
    obtain ⟨j, hj, rfl⟩ := List.mem_iff_getElem.1 ((sortH_perm list).mem_iff.2 hm)
    exact ⟨j, by omega, by rw [hgt_eq _ _ hj]; exact hp⟩
  · rintro ⟨j, hj, hp⟩
    exact ⟨_, (sortH_perm list).mem_iff.1 (by rw [hgt_eq _ _ (by omega)]; exact List.getElem_mem _), hp⟩
/-- **The program's sum is the specification's, where the set's bits name the devices.** -/
theorem psum_eq {g : Goal} {list : List Hold} (hv : Valid g list) (s : Nat) (devs : List Int) (hm : ∀ j, j < list.length → (s.testBit j = true ↔ (hgt (sortH list) j).dev ∈ devs)) : psum g list s = lackSum g list devs := by
  obtain ⟨v1, v2, v3, v4, v5, v6, v7, v8⟩ := hv
  have hl := sortH_len list
  have hL : ∀ h ∈ sortH list, h ∈ list := fun h hh => (sortH_perm list).mem_iff.1 hh
  have nfi := needTo_iff g.needs v7.2 g.needs.length (Nat.le_refl _)
  unfold psum sumOf maskSum lackSum
  have ea : lackList g.needs (withM (nfOf g) (sortH list) s (ms0 g) list.length) = lackNeeds g list devs := by
    refine List.ext_getElem (by simp [lackList, lackNeeds]) fun i h1 h2 => ?_
    have hi : i < g.needs.length := by simpa [lackList] using h1
    have hms : i < (ms0 g).length := by rw [giveM_len]; simpa using hi
    simp only [lackList, lackNeeds, List.getElem_map, List.getElem_range]
    unfold lackAt lackNeed
    rw [pg_eq g.needs i hi]
    congr 1
    refine cntTo_eq g list devs _ _ 16 fun b hb => ?_
    have e1 := withM_bit (nfOf g) (sortH list) s i b (ms0 g) hms (fun h hh p hp => (v8.1 h (hL h hh)).2.2.1.1 p hp) list.length (by omega)
    have e2 := giveM_bit (nfOf g) i b g.pieces (List.replicate g.needs.length 0) (by simpa using hi) v4.1
    have e3 : (maskAt (List.replicate g.needs.length (0 : BitVec 16)) i).getLsbD b = false := by
      simp [maskAt, List.getD_eq_getElem?_getD, List.getElem?_replicate, hi]
    have hpi : ∀ p : Piece, (nfOf g p.1 = some i ∧ (b : Int) = p.2) ↔ p = (g.needs[i].1, (b : Int)) := fun p => by
      rw [nfi p.1 i, pg_eq g.needs i hi]
      constructor
      · rintro ⟨⟨_, h2⟩, h3⟩
        exact Prod.ext h2.symm h3.symm
      · rintro rfl
        exact ⟨⟨hi, rfl⟩, rfl⟩
    show (maskAt (withM (nfOf g) (sortH list) s (ms0 g) list.length) i).getLsbD b = true ↔ _
    rw [e1, e2, e3]
    unfold there
    rw [some_hold]
    simp only [hpi, exists_eq_right, Bool.false_eq_true, false_or]
    constructor
    · rintro (h | ⟨j, h1, h2, h3⟩)
      · exact .inl h
      · exact .inr ⟨j, h1, (hm j h1).1 h2, h3⟩
    · rintro (h | ⟨j, h1, h2, h3⟩)
      · exact .inl h
      · exact .inr ⟨j, h1, (hm j h1).2 h2, h3⟩
  have eb : shareCnt (withW (sortH list) s (fw0 g) list.length) = shrTo g list devs 255 := by
    have hsh : ∀ x : Nat, bitW (withW (sortH list) s (fw0 g) list.length) x = true ↔ hasShare g list devs (x : Int) := fun x => by
      have e1 := withW_bit (sortH list) s x (fw0 g) (fun h hh y hy => by have := (v8.1 h (hL h hh)).2.2.2.1 y hy; omega) list.length (by omega)
      have e2 := addWs_bit x g.shares zeroW (fun y hy => by have := v5.1 y hy; omega)
      have e3 : bitW zeroW x = false := by simp [bitW, zeroW]
      rw [e1, e2, e3]
      unfold hasShare
      rw [some_hold]
      simp only [Bool.false_eq_true, false_or]
      constructor
      · rintro (h | ⟨j, h1, h2, h3⟩)
        · exact .inl h
        · exact .inr ⟨j, h1, (hm j h1).1 h2, h3⟩
      · rintro (h | ⟨j, h1, h2, h3⟩)
        · exact .inl h
        · exact .inr ⟨j, h1, (hm j h1).2 h2, h3⟩
    rw [shareCnt_eq]
    refine shrTo_eq g list devs _ ?_ 255 fun b _ => by have := hsh (b + 1); simpa using this
    refine Bool.eq_false_iff.2 fun h => ?_
    rcases (hsh 0).1 h with h1 | ⟨h, h1, _, h2⟩
    · have := v5.1 _ h1; omega
    · have := (v8.1 h h1).2.2.2.1 _ h2; omega
  have ec : (if withI (sortH list) s (!g.index) list.length = true then (0 : Int) else 1) = lackIdx g list devs := by
    have e1 := withI_bit (sortH list) s (!g.index) list.length
    have hlx : lacksIdx g list devs ↔ g.index = true ∧ ¬ ∃ j, j < list.length ∧ (hgt (sortH list) j).dev ∈ devs ∧ (hgt (sortH list) j).index = true := by
      unfold lacksIdx
      rw [some_hold]
    unfold lackIdx
    by_cases h : withI (sortH list) s (!g.index) list.length = true
    · rw [if_pos h, if_neg]
      intro hc
      obtain ⟨h1, h2⟩ := hlx.1 hc
      rcases e1.1 h with h3 | ⟨j, h3, h4, h5⟩
      · rw [h1] at h3; cases h3
      · exact h2 ⟨j, h3, (hm j h3).1 h4, h5⟩
    · rw [if_neg h, if_pos]
      refine hlx.2 ⟨?_, ?_⟩
      · cases hx : g.index with
        | true => rfl
        | false => exact absurd (e1.2 (.inl (by rw [hx]; rfl))) h
      · rintro ⟨j, h3, h4, h5⟩
        exact h (e1.2 (.inr ⟨j, h3, (hm j h3).2 h4, h5⟩))
  rw [ea, eb]
  unfold lackShares
  have ec' : (if withI (sortH list) s (!g.index) list.length = true then (0 : Int) else 1) = lackIdx g list devs := ec
  rw [← ec']
  omega
end Go.Proofs.Ytlinhckgdfhppaa
