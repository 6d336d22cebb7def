/- A part of the proof: what the functions do, and plain laws. -/
import Derived.Test.YtlinhckgdfhppaaC43
namespace Go.Proofs.Ytlinhckgdfhppaa
open Go Go.RowKit Go.Proofs.YtlinhckgdfhppaaK Go.Sort

/-! The chapter's example, reckoned. -/
theorem sortU_unique (xs l' : List (BitVec 64)) (hp : l'.Perm xs) (hs : l'.Pairwise fun a b => ¬ ltU b a) : l' = sortU xs := by
  have hq : (sortU xs).Pairwise fun a b => ¬ ltU b a := by
    have := List.pairwise_mergeSort (le := fun x y => !(ltOf cfU) y x) (by
      intro a b c h1 h2
      simp only [Bool.not_eq_true'] at *
      exact swoU.ntrans _ _ _ h2 h1) (by
      intro a b
      rw [Bool.or_eq_true, Bool.not_eq_true', Bool.not_eq_true', ltU_no, ltU_no]
      unfold ltU
      omega) xs
    exact this.imp fun h => ltU_no.1 (by simpa using h)
  exact List.Perm.eq_of_pairwise (le := fun a b => ¬ ltU b a) (fun a b _ _ h1 h2 => totU a b (ltU_no.2 h2) (ltU_no.2 h1)) hs hq (hp.trans (List.mergeSort_perm _ _).symm)
theorem sortEx : sortH exL = exL := (sortH_unique exL exL (by decide +kernel) (List.Perm.refl _) (by decide +kernel)).symm
theorem validEx (thr : Int) (h : thr = 0 ∨ thr = 2) : Valid (exG thr) exL := by rcases h with rfl | rfl <;> decide +kernel
/-- The example's sums. -/
def tab (thr : Int) (s : Nat) : Int := lackSum (exG thr) exL (pickTo exL s 3)
theorem psumEx (thr : Int) (h : thr = 0 ∨ thr = 2) (s : Nat) : psum (exG thr) exL s = tab thr s := by
  have := psum_pick (validEx thr h) s
  rw [sortEx] at this
  exact this
theorem possEx (thr : Int) (h : thr = 0 ∨ thr = 2) : possOf (exG thr) exL = 0 := by
  refine possOf_yes (validEx thr h) ?_
  rw [psumEx thr h]
  rcases h with rfl | rfl <;> decide +kernel
theorem selEx (thr : Int) (h : thr = 0 ∨ thr = 2) : selTo (exG thr) exL (2 ^ exL.length) = ((List.range 8).filter fun s => decide (tab thr s = 0)).map (BitVec.ofNat 64) := by
  unfold selTo
  congr 1
  show (List.range 8).filter _ = _
  refine List.filter_congr fun s _ => ?_
  rw [psumEx thr h]
theorem setsEx0 : setsP (exG 0) exL = [4#64, 3#64, 5#64, 6#64, 7#64] := by
  unfold setsP
  rw [selEx 0 (.inl rfl)]
  exact (sortU_unique _ _ (by decide +kernel) (by decide +kernel)).symm
theorem setsEx2 : setsP (exG 2) exL = [3#64, 7#64] := by
  unfold setsP
  rw [selEx 2 (.inr rfl)]
  exact (sortU_unique _ _ (by decide +kernel) (by decide +kernel)).symm
theorem fewEx2 : fewestP (exG 2) exL = [1, 2] := by
  unfold fewestP
  rw [if_pos (possEx 2 (.inr rfl)), setsEx2, sortEx]
  decide +kernel
theorem fewEx0 : fewestP (exG 0) exL = [3] := by
  unfold fewestP
  rw [if_pos (possEx 0 (.inl rfl)), setsEx0, sortEx]
  decide +kernel
theorem minOKEx (x : BitVec 64) : minOK (exG 0) exL exL.length x ↔ ∀ i, i < 3 → x.toNat.testBit i = true → tab 0 (clrB x i).toNat ≠ 0 := by
  unfold minOK
  simp only [psumEx 0 (.inl rfl)]
  exact Iff.rfl
theorem minEx : minimalP (exG 0) exL = [[3], [1, 2]] := by
  unfold minimalP minTo
  rw [if_pos (possEx 0 (.inl rfl)), setsEx0, sortEx]
  have e : ([4#64, 3#64, 5#64, 6#64, 7#64].take 5).filter (fun x => decide (minOK (exG 0) exL exL.length x)) = ([4#64, 3#64, 5#64, 6#64, 7#64]).filter fun x => decide (∀ i, i < 3 → x.toNat.testBit i = true → tab 0 (clrB x i).toNat ≠ 0) := by
    refine List.filter_congr fun x _ => ?_
    exact decide_eq_decide.2 (minOKEx x)
  show List.map _ (([4#64, 3#64, 5#64, 6#64, 7#64].take 5).filter _) = _
  rw [e]
  decide +kernel
def nextP (p : Nat → Int) (s : Nat) : Nat → Nat × Int
  | 0 => (0, -1)
  | k + 1 => if (nextP p s k).2 < p s - p (s ||| 2 ^ k) then (k, p s - p (s ||| 2 ^ k)) else nextP p s k
theorem nextP_eq (g : Goal) (list : List Hold) (s : Nat) : ∀ k, nextTo g list s k = nextP (psum g list) s k
  | 0 => rfl
  | k + 1 => by rw [nextTo, nextP, nextP_eq g list s k]; rfl
theorem nxtEx (s : Nat) : nxt (exG 2) exL s = (nextP (tab 2) s 3).1 := by
  unfold nxt
  rw [nextP_eq, show psum (exG 2) exL = tab 2 from funext (psumEx 2 (.inr rfl))]
  rfl
theorem grEx : grTo (exG 2) exL 2 = (3, [1, 2]) := by
  have h1 : grTo (exG 2) exL 1 = (1, [1]) := by
    rw [grTo, if_neg (by rw [psumEx 2 (.inr rfl)]; decide +kernel), nxtEx, sortEx]
    decide +kernel
  rw [grTo, h1, if_neg (by rw [psumEx 2 (.inr rfl)]; decide +kernel), nxtEx, sortEx]
  decide +kernel
theorem greedyEx (out : List Int) (h : IsGreedy (exG 2) exL out) : out = [1, 2] := by
  obtain ⟨m, h1, h2⟩ := h.1 (possEx 2 (.inr rfl))
  have h3 : psum (exG 2) exL (grTo (exG 2) exL 2).1 = 0 := by rw [grEx, psumEx 2 (.inr rfl)]; decide +kernel
  rw [h2, grTo_one m 2 h1 h3, grEx]
theorem fetEx : fetchesP (exG 2) exL [3, 1] = [(3, (strS, 0)), (3, (strS, 1))] := by decide +kernel
end Go.Proofs.Ytlinhckgdfhppaa
