import Derived.Test.YtlinhckgdfhppaaC59
import Derived.Test.YtlinhckgdfhppaaP10
set_option linter.unusedSimpArgs false
set_option linter.unusedVariables false
namespace Go.Proofs.Ytlinhckgdfhppaa
open Go Go.RowKit Go.Proofs.YtlinhckgdfhppaaK

/-! What Fetches fetches: nothing lacks more than with the devices, and every piece counts. -/
theorem cntB_le {f f' : Nat → Bool} : ∀ n, (∀ b, b < n → f b = true → f' b = true) → cntB f n ≤ cntB f' n
  | 0, _ => Nat.le_refl _
  | n + 1, h => by
    rw [cntB, cntB]
    have ih := cntB_le n fun b hb => h b (by omega)
    have := h n (by omega)
    cases e : f n
    · simp; omega
    · rw [this e]; simp; omega
theorem cntB_same {f f' : Nat → Bool} (n : Nat) (h : ∀ b, b < n → (f b = true ↔ f' b = true)) : cntB f n = cntB f' n :=
  Nat.le_antisymm (cntB_le n fun b hb => (h b hb).1) (cntB_le n fun b hb => (h b hb).2)
theorem cntB_more {f f' : Nat → Bool} {c : Nat} (h0 : f c = false) : ∀ n, (∀ b, b < n → (f' b = true ↔ f b = true ∨ b = c)) → cntB f' n = cntB f n + if c < n then 1 else 0
  | 0, _ => by simp [cntB]
  | n + 1, h => by
    have ih := cntB_more h0 n fun b hb => h b (by omega)
    have hn := h n (by omega)
    rw [cntB, cntB, ih]
    by_cases e : n = c
    · subst e
      have e1 : f' n = true := hn.2 (.inr rfl)
      rw [e1, h0, if_neg (by omega), if_pos (by omega)]
      simp
    · have e2 : f' n = f n := Bool.eq_iff_iff.2 (hn.trans ⟨fun h => h.elim id fun h => absurd h e, .inl⟩)
      rw [e2]
      by_cases h3 : c < n
      · rw [if_pos h3, if_pos (by omega)]; omega
      · rw [if_neg h3, if_neg (by omega)]; omega
/-- How many pieces of a stripe there are. -/
def cP (P : List Piece) (s : ByteArray) : Nat := cntB (fun b => decide ((s, (b : Int)) ∈ P)) 16
theorem cP_eq (G : Goal) (list : List Hold) (s : ByteArray) : cntTo G list [] s 16 = cP G.pieces s :=
  (cntTo_eq G list [] s _ 16 fun b _ => by rw [decide_eq_true_iff]; unfold there; simp).symm
theorem cP_le {P P' : List Piece} (s : ByteArray) (h : ∀ p ∈ P, p.1 = s → p ∈ P') : cP P s ≤ cP P' s :=
  cntB_le _ fun b _ => by rw [decide_eq_true_iff, decide_eq_true_iff]; exact fun hb => h _ hb rfl
theorem cP_same {P P' : List Piece} (s : ByteArray) (h : ∀ p, p.1 = s → (p ∈ P ↔ p ∈ P')) : cP P s = cP P' s :=
  Nat.le_antisymm (cP_le s fun p hp e => (h p e).1 hp) (cP_le s fun p hp e => (h p e).2 hp)
theorem cP_more {P P' : List Piece} {p : Piece} (hb : 0 ≤ p.2 ∧ p.2 < 16) (h0 : p ∉ P) (h : ∀ q, q ∈ P' ↔ q ∈ P ∨ q = p) : cP P' p.1 = cP P p.1 + 1 := by
  have e : (p.1, ((p.2.toNat : Nat) : Int)) = p := Prod.ext rfl (by show ((p.2.toNat : Nat) : Int) = p.2; omega)
  have := cntB_more (f := fun b => decide ((p.1, (b : Int)) ∈ P)) (f' := fun b => decide ((p.1, (b : Int)) ∈ P')) (c := p.2.toNat) (by rw [decide_eq_false_iff_not, e]; exact h0) 16 fun b _ => by
    rw [decide_eq_true_iff, decide_eq_true_iff, h]
    refine or_congr_right ⟨fun e2 => ?_, fun e2 => by rw [e2, e]⟩
    have : (b : Int) = p.2 := by rw [← e2]
    omega
  rw [if_pos (by omega)] at this
  exact this
section
variable {g : Goal} {list : List Hold} {devs : List Int}
theorem lack_of (hv : List Piece) (n : Need) : lackNeed (haveG g hv) [] [] n = subN n.2 (cP hv n.1) := by
  unfold lackNeed
  rw [cP_eq]
  rfl
/-- Whether a piece is there, or enough of its stripe. -/
def DoneP (g : Goal) (hv : List Piece) (p : Piece) : Prop := ∀ n ∈ g.needs, n.1 = p.1 → p ∈ hv ∨ n.2 ≤ (cP hv n.1 : Int)
theorem DoneP.up {hv hv' : List Piece} {p : Piece} (h : DoneP g hv p) (hs : ∀ q ∈ hv, q ∈ hv') : DoneP g hv' p := fun n hn e =>
  (h n hn e).imp (hs p) fun h2 => by have := cP_le n.1 (P := hv) (P' := hv') fun q hq _ => hs q hq; omega
structure Inv (g : Goal) (list : List Hold) (devs : List Int) (a : List Piece × List Fetch) : Prop where
  app : a.1 = g.pieces ++ a.2.map (·.2)
  ok : okPieces a.1
  th : ∀ p ∈ a.1, there g list devs p
  le : ∀ n ∈ g.needs, (∃ p ∈ a.2.map (·.2), p.1 = n.1) → (cP a.1 n.1 : Int) ≤ n.2
  nd : ∀ p ∈ a.2.map (·.2), ∃ n ∈ g.needs, n.1 = p.1
theorem Inv.start (hval : Valid g list) : Inv g list devs (g.pieces, []) :=
  ⟨by simp, hval.2.2.2.1, fun p hp => .inl hp, by simp, by simp⟩
theorem needs_one (hval : Valid g list) {n m : Need} (hn : n ∈ g.needs) (hm : m ∈ g.needs) (e : n.1 = m.1) : n = m := by
  obtain ⟨i, hi, rfl⟩ := List.mem_iff_getElem.1 hm
  have := need_one hval hi hn (by rw [pg_eq _ _ hi]; exact e)
  rw [this, pg_eq _ _ hi]
theorem Inv.step (hval : Valid g list) (d : Int) {a : List Piece × List Fetch} (h : Inv g list devs a) {p : Piece} (hb : 0 ≤ p.2 ∧ p.2 < 16) (ht : there g list devs p) :
    Inv g list devs (refStep g d a p) ∧ DoneP g (refStep g d a p).1 p ∧ ∀ q ∈ a.1, q ∈ (refStep g d a p).1 := by
  obtain ⟨hv, out⟩ := a
  by_cases hc : (∃ n ∈ g.needs, n.1 = p.1 ∧ 0 < lackNeed (haveG g hv) [] [] n) ∧ p ∉ hv
  · have e : refStep g d (hv, out) p = (hv ++ [p], out ++ [(d, p)]) := if_pos hc
    obtain ⟨⟨n, hn, e1, h2⟩, h3⟩ := hc
    rw [lack_of] at h2
    rw [e]
    have hmem : ∀ q, q ∈ hv ++ [p] ↔ q ∈ hv ∨ q = p := fun q => by simp
    refine ⟨⟨?_, ⟨?_, ?_⟩, ?_, ?_, ?_⟩, ?_, fun q hq => (hmem q).2 (.inl hq)⟩
    · have := h.app
      simp only at this
      rw [this]
      simp
    · intro q hq
      rcases (hmem q).1 hq with hq | rfl
      · exact h.ok.1 q hq
      · exact hb
    · show (hv ++ [p]).Nodup
      rw [List.nodup_append]
      refine ⟨h.ok.2, by simp, fun x hx y hy => ?_⟩
      rw [List.mem_singleton] at hy
      subst hy
      exact fun e => h3 (e ▸ hx)
    · intro q hq
      rcases (hmem q).1 hq with hq | rfl
      · exact h.th q hq
      · exact ht
    · intro m hm hx
      by_cases em : m.1 = p.1
      · have := needs_one hval hm hn (em.trans e1.symm)
        subst this
        rw [em]
        show ((cP (hv ++ [p]) p.1 : Nat) : Int) ≤ _
        rw [cP_more hb h3 hmem]
        rw [em] at h2
        unfold subN at h2
        omega
      · have h5 := h.le m hm (by
          obtain ⟨q, hq, eq⟩ := hx
          rw [List.map_append, List.mem_append] at hq
          rcases hq with hq | hq
          · exact ⟨q, hq, eq⟩
          · simp at hq
            subst hq
            exact absurd eq.symm em)
        show ((cP (hv ++ [p]) m.1 : Nat) : Int) ≤ _
        rw [← cP_same m.1 (P := hv) (P' := hv ++ [p]) fun q eq => by
          rw [hmem]
          exact ⟨.inl, fun h => h.elim id fun h => absurd (h ▸ eq).symm em⟩]
        exact h5
    · intro q hq
      simp only [List.map_append, List.map_cons, List.map_nil, List.mem_append, List.mem_singleton] at hq
      rcases hq with hq | rfl
      · exact h.nd q hq
      · exact ⟨n, hn, e1⟩
    · exact fun _ _ _ => .inl ((hmem p).2 (.inr rfl))
  · have e : refStep g d (hv, out) p = (hv, out) := if_neg hc
    rw [e]
    refine ⟨h, fun n hn e1 => ?_, fun q hq => hq⟩
    by_cases hp : p ∈ hv
    · exact .inl hp
    · refine .inr ?_
      have : ¬ 0 < lackNeed (haveG g hv) [] [] n := fun h2 => hc ⟨⟨n, hn, e1, h2⟩, hp⟩
      rw [lack_of] at this
      unfold subN at this
      show n.2 ≤ ((cP hv n.1 : Nat) : Int)
      omega
theorem Inv.fold (hval : Valid g list) (d : Int) : ∀ (ps : List Piece), (∀ p ∈ ps, 0 ≤ p.2 ∧ p.2 < 16) → (∀ p ∈ ps, there g list devs p) → ∀ {a : List Piece × List Fetch}, Inv g list devs a →
    Inv g list devs (ps.foldl (refStep g d) a) ∧ (∀ p ∈ ps, DoneP g (ps.foldl (refStep g d) a).1 p) ∧ ∀ q ∈ a.1, q ∈ (ps.foldl (refStep g d) a).1
  | [], _, _, a, h => ⟨h, by simp, fun q hq => hq⟩
  | p :: ps, hb, ht, a, h => by
    rw [List.foldl_cons]
    obtain ⟨h1, h2, h3⟩ := h.step hval d (hb p (List.mem_cons_self ..)) (ht p (List.mem_cons_self ..))
    obtain ⟨h4, h5, h6⟩ := Inv.fold hval d ps (fun q hq => hb q (List.mem_cons_of_mem _ hq)) (fun q hq => ht q (List.mem_cons_of_mem _ hq)) h1
    refine ⟨h4, fun q hq => ?_, fun q hq => h6 q (h3 q hq)⟩
    rcases List.mem_cons.1 hq with rfl | hq
    · exact h2.up h6
    · exact h5 q hq
theorem findDev_dev (hval : Valid g list) {h : Hold} (hh : h ∈ list) : ¬ findDev list h.dev < 0 ∧ hgt list (findDev list h.dev).toNat = h := by
  have hm : h.dev ∈ list.map (·.dev) := List.mem_map_of_mem hh
  obtain ⟨j, hj, rfl⟩ := List.mem_iff_getElem.1 hh
  have e : findDev list list[j].dev = ((list.map (·.dev)).idxOf list[j].dev : Int) := if_pos hm
  have e2 : (list.map (·.dev)).idxOf list[j].dev = j := by
    have := hval.nodup.idxOf_getElem j (by simpa using hj)
    simpa using this
  rw [e, e2]
  exact ⟨by omega, by rw [Int.toNat_natCast, hgt_eq _ _ hj]⟩
theorem Inv.to (hval : Valid g list) : ∀ k, k ≤ devs.length → Inv g list devs (refFetTo g list devs k) ∧ ∀ h ∈ list, h.dev ∈ devs.take k → ∀ p ∈ h.pieces, DoneP g (refFetTo g list devs k).1 p
  | 0, _ => ⟨Inv.start hval, by simp⟩
  | k + 1, hk => by
    obtain ⟨h1, h2⟩ := Inv.to hval k (by omega)
    have htk : devs.take (k + 1) = devs.take k ++ [ig devs k] := by rw [List.take_succ_eq_append_getElem (by omega), ig_eq _ _ (by omega)]
    rw [refFetTo]
    by_cases hx : ig devs k ∈ devs.take k
    · rw [if_pos hx]
      refine ⟨h1, fun h hh hd => h2 h hh ?_⟩
      rw [htk, List.mem_append, List.mem_singleton] at hd
      exact hd.elim id fun e => e ▸ hx
    · rw [if_neg hx]
      unfold refDev
      have hin : ig devs k ∈ devs := ig_mem devs k (by omega)
      by_cases hneg : findDev list (ig devs k) < 0
      · rw [if_pos hneg]
        refine ⟨h1, fun h hh hd => ?_⟩
        rw [htk, List.mem_append, List.mem_singleton] at hd
        rcases hd with hd | hd
        · exact h2 h hh hd
        · rw [← hd] at hneg
          exact absurd hneg (findDev_dev hval hh).1
      · rw [if_neg hneg]
        obtain ⟨j, hj, ej⟩ := findDev_at hneg
        have hdv : (hgt list j).dev = ig devs k := by
          have hmm : ig devs k ∈ list.map (·.dev) := by
            by_cases hc : ig devs k ∈ list.map (·.dev)
            · exact hc
            · exact absurd ((findDev_lt list _).2 hc) hneg
          obtain ⟨h, hh, e⟩ := List.mem_map.1 hmm
          have := (findDev_dev hval hh).2
          rw [e, ej, Int.toNat_natCast] at this
          rw [this]
          exact e
        have hmem : hgt list j ∈ list := by rw [hgt_eq _ _ hj]; exact List.getElem_mem _
        rw [ej, Int.toNat_natCast]
        obtain ⟨h4, h5, h6⟩ := h1.fold hval (ig devs k) (hgt list j).pieces (hval.2.2.2.2.2.2.2.1 _ hmem).2.2.1.1 fun p hp => .inr ⟨_, hmem, by rw [hdv]; exact hin, hp⟩
        refine ⟨h4, fun h hh hd p hp => ?_⟩
        rw [htk, List.mem_append, List.mem_singleton] at hd
        rcases hd with hd | hd
        · exact (h2 h hh hd p hp).up h6
        · have := (findDev_dev hval hh).2
          rw [hd, ej, Int.toNat_natCast] at this
          exact h5 p (by rw [this]; exact hp)
/-- The goal with what was fetched. -/
def gotG (g : Goal) (P : List Piece) : Goal := { g with pieces := P }
theorem got_valid (hval : Valid g list) {P : List Piece} (hP : okPieces P) : Valid (gotG g P) list := by
  obtain ⟨h1, h2, h3, h4, h5⟩ := hval
  exact ⟨h1, h2, h3, hP, h5⟩
theorem got_lack (P : List Piece) (n : Need) : lackNeed (gotG g P) list [] n = subN n.2 (cP P n.1) := by
  unfold lackNeed
  rw [cP_eq]
  rfl
theorem got_same (hval : Valid g list) : lackNeeds (gotG g (g.pieces ++ (fetchesP g list devs).map (·.2))) list [] = lackNeeds g list devs := by
  obtain ⟨hi, hd⟩ := Inv.to (devs := devs) hval devs.length (Nat.le_refl _)
  have ef : (refFetTo g list devs devs.length).2 = fetchesP g list devs := (fetches_eq hval devs).symm
  rw [List.take_length] at hd
  have ha := hi.app
  rw [ef] at ha
  rw [← ha]
  unfold lackNeeds
  show g.needs.map _ = _
  refine List.map_congr_left fun n hn => ?_
  rw [got_lack]
  unfold lackNeed
  have et := cntTo_eq g list devs n.1 (fun b => decide (there g list devs (n.1, (b : Int)))) 16 fun b _ => decide_eq_true_iff
  rw [← et]
  have hle : cP (refFetTo g list devs devs.length).1 n.1 ≤ cntB (fun b => decide (there g list devs (n.1, (b : Int)))) 16 := cntB_le _ fun b _ => by
    rw [decide_eq_true_iff, decide_eq_true_iff]
    exact hi.th _
  by_cases hc : n.2 ≤ (cP (refFetTo g list devs devs.length).1 n.1 : Int)
  · unfold subN
    omega
  · congr 1
    refine cntB_same _ fun b _ => ?_
    rw [decide_eq_true_iff, decide_eq_true_iff]
    refine ⟨hi.th _, fun ht => ?_⟩
    rcases ht with ht | ⟨h, hh, hdv, hp⟩
    · rw [ha]
      exact List.mem_append_left _ ht
    · exact (hd h hh hdv _ hp n hn rfl).elim id fun h => absurd h hc
theorem got_ok (hval : Valid g list) : okPieces (g.pieces ++ (fetchesP g list devs).map (·.2)) := by
  obtain ⟨hi, _⟩ := Inv.to (devs := devs) hval devs.length (Nat.le_refl _)
  have ef : (refFetTo g list devs devs.length).2 = fetchesP g list devs := (fetches_eq hval devs).symm
  have ha := hi.app
  rw [ef] at ha
  rw [← ha]
  exact hi.ok
theorem sum_one (f f' : Need → Int) (n0 : Need) : ∀ (xs : List Need), (xs.map (·.1)).Nodup → n0 ∈ xs → f' n0 = f n0 + 1 → (∀ n ∈ xs, n.1 ≠ n0.1 → f' n = f n) → (xs.map f').sum = (xs.map f).sum + 1
  | [], _, h, _, _ => by simp at h
  | x :: xs, hnd, hm, h0, h => by
    rw [List.map_cons, List.nodup_cons] at hnd
    simp only [List.map_cons, List.sum_cons]
    by_cases e : x.1 = n0.1
    · have ex : x = n0 := by
        rcases List.mem_cons.1 hm with h1 | h1
        · exact h1.symm
        · exact absurd (by rw [e]; exact List.mem_map_of_mem h1) hnd.1
      have hs : xs.map f' = xs.map f := List.map_congr_left fun n hn => h n (List.mem_cons_of_mem _ hn) fun e2 => hnd.1 (by rw [e, ← e2]; exact List.mem_map_of_mem hn)
      rw [hs, ex, h0]
      omega
    · have h1 : n0 ∈ xs := by
        rcases List.mem_cons.1 hm with h1 | h1
        · exact absurd (h1 ▸ rfl) e
        · exact h1
      rw [sum_one f f' n0 xs hnd.2 h1 h0 fun n hn => h n (List.mem_cons_of_mem _ hn), h x (List.mem_cons_self ..) e]
      omega
theorem got_less (hval : Valid g list) (k : Nat) (hk : k < (fetchesP g list devs).length) :
    okPieces ((g.pieces ++ (fetchesP g list devs).map (·.2)).eraseIdx (g.pieces.length + k)) ∧
    (lackNeeds (gotG g ((g.pieces ++ (fetchesP g list devs).map (·.2)).eraseIdx (g.pieces.length + k))) list []).sum = (lackNeeds (gotG g (g.pieces ++ (fetchesP g list devs).map (·.2))) list []).sum + 1 := by
  have hok := got_ok (devs := devs) hval
  obtain ⟨hi, _⟩ := Inv.to (devs := devs) hval devs.length (Nat.le_refl _)
  have ef : (refFetTo g list devs devs.length).2 = fetchesP g list devs := (fetches_eq hval devs).symm
  have ha := hi.app
  have hle := hi.le
  have hnd := hi.nd
  rw [ef] at ha hle hnd
  rw [ha] at hle
  clear hi ha ef
  generalize fetchesP g list devs = x at *
  have hkl : g.pieces.length + k < (g.pieces ++ x.map (·.2)).length := by simp; omega
  have hp : (g.pieces ++ x.map (·.2))[g.pieces.length + k] = x[k].2 := by
    rw [List.getElem_append_right (by omega)]
    simp
  have hpm : x[k].2 ∈ x.map (·.2) := List.mem_map_of_mem (List.getElem_mem hk)
  generalize x[k].2 = p at *
  obtain ⟨n0, hn0, e0⟩ := hnd p hpm
  have hle0 := hle n0 hn0 ⟨p, hpm, e0.symm⟩
  have hb := hok.1 p (List.mem_append_right _ hpm)
  generalize g.pieces ++ x.map (·.2) = P at *
  generalize g.pieces.length + k = q at *
  have hne : p ∉ P.eraseIdx q := by
    rw [← hp, List.mem_eraseIdx_iff_getElem]
    rintro ⟨i, hi, hiq, e⟩
    exact hiq ((List.getElem_inj hok.2).1 e)
  have hmem : ∀ y, y ∈ P ↔ y ∈ P.eraseIdx q ∨ y = p := fun y => by
    constructor
    · intro hy
      obtain ⟨i, hi, rfl⟩ := List.mem_iff_getElem.1 hy
      by_cases e : i = q
      · subst e
        exact .inr hp
      · exact .inl (List.mem_eraseIdx_iff_getElem.2 ⟨i, hi, e, rfl⟩)
    · rintro (hy | rfl)
      · exact (List.eraseIdx_sublist _ _).mem hy
      · rw [← hp]; exact List.getElem_mem _
  refine ⟨⟨fun y hy => hok.1 y ((hmem y).2 (.inl hy)), hok.2.sublist (List.eraseIdx_sublist _ _)⟩, ?_⟩
  have hc := cP_more hb hne hmem
  rw [← e0] at hc
  refine sum_one (lackNeed (gotG g P) list []) (lackNeed (gotG g (P.eraseIdx q)) list []) n0 g.needs hval.2.2.2.2.2.2.1.2 hn0 ?_ fun n _ hn => ?_
  · rw [got_lack, got_lack, hc]
    rw [hc] at hle0
    unfold subN
    omega
  · rw [got_lack, got_lack]
    congr 1
    refine cP_same n.1 fun y ey => ?_
    rw [hmem]
    exact ⟨.inl, fun h => h.elim id fun h => absurd (by rw [← ey, h, e0]) hn⟩
end
/-- The sum of what lacks. -/
def totalP (xs : List Need) : Int := (xs.map (·.2)).sum
theorem lkTo_total (needs : List Need) (ls : List Int) (h : ∀ x ∈ ls, 0 ≤ x) : ∀ k, k ≤ ls.length → totalP (lkTo needs ls k) = (ls.take k).sum
  | 0, _ => by simp [lkTo, totalP]
  | k + 1, hk => by
    have ih := lkTo_total needs ls h k (by omega)
    have h0 := h _ (ig_mem ls k (by omega))
    rw [List.take_succ_eq_append_getElem (by omega), ← ig_eq _ _ (by omega), sum_snoc, lkTo]
    unfold totalP at *
    by_cases hq : 0 < ig ls k
    · rw [if_pos hq, List.map_append, List.map_singleton, sum_snoc, ih]
    · rw [if_neg hq, ih]
      omega
theorem lacking_total {g : Goal} {list : List Hold} {devs : List Int} (hval : Valid g list) : totalP (lackingP g list devs) = (lackNeeds g list devs).sum := by
  have hll : (lackNeeds g list devs).length = g.needs.length := by simp [lackNeeds]
  rw [lackingP, if_pos hval, lkTo_total _ _ (fun x hx => by
    unfold lackNeeds at hx
    obtain ⟨n, _, rfl⟩ := List.mem_map.1 hx
    exact subN_nn _ _) _ (by omega), List.take_of_length_le (by omega)]
end Go.Proofs.Ytlinhckgdfhppaa
