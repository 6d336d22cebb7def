/- Drawn regions by facts, third make: what holds of an operation may speak of the values that it came of. -/
import Derived.Test.YtlinhckgdfhppaaK10
set_option linter.unusedSimpArgs false
set_option linter.unusedVariables false
namespace Go.Proofs.YtlinhckgdfhppaaK
open Go Go.RowKit

section
variable {P : Program} {ops : Array Oper} {Q : Exit → Act → World → Prop}
/-- Who uses the fact of number j. -/
def waits3 (l : List Oper) (nd : Nat → Nat → Bool) (out : Nat → Bool) (listed : Array Bool) (j : Nat) : Prop := out j = true ∨ ∃ k, k < l.length ∧ listed.getD k false = false ∧ nd k j = true
theorem wpAny_facts3 {l : List Oper} {a0 : Act} (sl : Nat → Nat) (nd : Nat → Nat → Bool) (hnd : ∀ i j, i < l.length → nd i j = true → depB l i j = true) (out : Nat → Bool) (G : Nat → (Nat → Value) → World → Prop) (T : Nat → World → World → Prop) (I : World → Prop)
    (ht : ∀ j o, l[j]? = some o → ∀ e ∈ o.after, Region.binds .any e = true → e.on < j)
    (hI : ∀ i w w', T i w w' → I w → I w') (hG : ∀ i j v w w', j ≠ i → (∃ L : Nat → Bool, L j = true ∧ L i = false ∧ ∀ a b, a < l.length → L a = true → depB l a b = true → L b = true) → (out j = true ∨ ∃ k, k < l.length ∧ k ≠ i ∧ depB l i k = false ∧ nd k j = true) → T i w w' → G j v w → G j v w') (hloc : ∀ j v v' w, (∀ k, k = j ∨ depB l j k = true → v k = v' k) → G j v w → G j v' w) (hd : ∀ i j, i < l.length → j < l.length → sl i = sl j → i = j)
    (step : ∀ i o, l[i]? = some o → ∀ a w, HFrame a0 a sl l.length → I w → (∀ j, nd i j = true → G j (fun k => a.tmps.getD (sl k) undef) w) → Region.wanted o (yielded l.toArray a.tmps) = true ∧ Yields P Q o a w (sl i) fun v w' => T i w w' ∧ G i (fun k => if k = i then v else a.tmps.getD (sl k) undef) w')
    (rest : ∀ a w, HFrame a0 a sl l.length → I w → (∀ j, j < l.length → out j = true → G j (fun k => a.tmps.getD (sl k) undef) w) → Q .normal a w) :
    ∀ (f : Nat) (listed : Array Bool) (a : Act) (w : World), HFrame a0 a sl l.length → I w → listed.size = l.length → (∀ j k, j < l.length → listed.getD j false = true → depB l j k = true → listed.getD k false = true) → (∀ j, j < l.length → listed.getD j false = true → waits3 l nd out listed j → G j (fun k => a.tmps.getD (sl k) undef) w) → cntU listed l.length = f →
      wpAny P .any l.toArray Q f listed a w := by
  intro f
  induction f with
  | zero =>
    intro listed a w hF hR hsz hdp hf hcnt
    have hall := cntU_zero hcnt
    refine ⟨?_, rest a w hF hR fun j hj ho => hf j hj (hall j hj) (.inl ho)⟩
    refine List.eq_nil_iff_forall_not_mem.2 fun i hi => ?_
    obtain ⟨hun, o, ho, _⟩ := mem_ready.1 hi
    have hin : i < l.length := by have := (Array.getElem?_eq_some_iff.1 ho).1; simpa using this
    have := hall i hin
    rw [getD_both hun] at this
    cases this
  | succ f ih =>
    intro listed a w hF hR hsz hdp hf hcnt
    obtain ⟨i0, hi0, hf0, hlow⟩ := cntU_pos (listed := listed) (n := l.length) (by omega)
    have hlt0 : i0 < listed.size := by rw [hsz]; exact hi0
    have hun0 : listed.getD i0 true = false := by
      simp only [Array.getD_eq_getD_getElem?, Array.getElem?_eq_getElem hlt0, Option.getD_some] at hf0 ⊢
      exact hf0
    refine ⟨fun h0 => ?_, fun i hi => ?_⟩
    · have hr : i0 ∈ Region.ready .any l.toArray listed := mem_ready.2 ⟨hun0, l[i0], by simp [hi0], fun e he hb => hlow _ (ht i0 _ (List.getElem?_eq_getElem hi0) e he hb)⟩
      rw [h0] at hr
      cases hr
    · obtain ⟨hun, o, ho, hall⟩ := mem_ready.1 hi
      have hol : l[i]? = some o := by simpa using ho
      have hin : i < l.length := (List.getElem?_eq_some_iff.1 hol).1
      have hil : i < listed.size := by rw [hsz]; exact hin
      have hiu := getD_both hun
      have hdi : ∀ j, depB l i j = true → j < i ∧ listed.getD j false = true := by
        intro j hj'
        unfold depB at hj'
        rw [hol] at hj'
        obtain ⟨q, hq1, hb⟩ := Array.any_eq_true.1 hj'
        simp only [Bool.and_eq_true, beq_iff_eq] at hb
        have h1 := ht i o hol _ (Array.getElem_mem hq1) hb.1
        have h2 := hall _ (Array.getElem_mem hq1) hb.1
        rw [hb.2] at h1 h2
        exact ⟨h1, h2⟩
      obtain ⟨hw, hy⟩ := step i o hol a w hF hR fun j hj => hf j (by have := (hdi j (hnd i j hin hj)).1; omega) (hdi j (hnd i j hin hj)).2 (.inr ⟨i, hin, hiu, hj⟩)
      have hdp' : ∀ j k, j < l.length → (listed.setIfInBounds i true).getD j false = true → depB l j k = true → (listed.setIfInBounds i true).getD k false = true := by
        intro j k hj hl hk
        by_cases e : j = i
        · subst e
          have h1 := hdi k hk
          rw [getD_set_ne false (by omega)]
          exact h1.2
        · rw [getD_set_ne false (Ne.symm e)] at hl
          by_cases e2 : k = i
          · subst e2
            simp [hil]
          · rw [getD_set_ne false (Ne.symm e2)]
            exact hdp j k hj hl hk
      have hcs : cntU (listed.setIfInBounds i true) l.length = f := by
        have := cntU_set hil hiu hin
        omega
      have carry : ∀ j, j < l.length → j ≠ i → (listed.setIfInBounds i true).getD j false = true → waits3 l nd out (listed.setIfInBounds i true) j → ∀ w', T i w w' → G j (fun k => a.tmps.getD (sl k) undef) w' := by
        intro j hj hne hl hwt w' hT
        rw [getD_set_ne false (Ne.symm hne)] at hl
        have h1 : waits3 l nd out listed j := by
          rcases hwt with h | ⟨k, hk, hkl, hkd⟩
          · exact .inl h
          · refine .inr ⟨k, hk, ?_, hkd⟩
            by_cases e : k = i
            · rw [e]; exact hiu
            · rwa [getD_set_ne false (Ne.symm e)] at hkl
        refine hG i j _ w w' hne ?_ ?_ hT (hf j hj hl h1)
        · exact ⟨fun k => listed.getD k false, hl, hiu, fun a b ha h1 h2 => hdp a b ha h1 h2⟩
        rcases hwt with h | ⟨k, hk, hkl, hkd⟩
        · exact .inl h
        · have hki : k ≠ i := fun e => by
            rw [e] at hkl
            simp [hil] at hkl
          refine .inr ⟨k, hk, hki, Bool.eq_false_iff.2 fun hc => ?_, hkd⟩
          rw [getD_set_ne false (Ne.symm hki), (hdi k hc).2] at hkl
          cases hkl
      unfold wpOp
      rw [ho]
      simp only [hw, if_true]
      refine .inl ?_
      rcases hy with ⟨hdst, hdl, hwp⟩ | ⟨hdst, hdl, hwp⟩
      · refine hwp _ fun v w' hTG => ?_
        rw [hdst]
        refine ih _ _ _ ⟨put_size.trans hF.size, hF.defers, fun s hsf => (put_far (hsf i hin)).trans (hF.far s hsf)⟩ (hI _ _ _ hTG.1 hR) (by simp [hsz]) hdp' (fun j hj hl hwt => ?_) hcs
        have hval : ∀ k, k < l.length → (a.put (some (sl i)) v).tmps.getD (sl k) undef = if k = i then v else a.tmps.getD (sl k) undef := fun k hk => by
          by_cases e : k = i
          · rw [if_pos e, e, put_same hdl]
          · rw [if_neg e, put_far (fun h => e (hd k i hk hin h.symm))]
        have hdl2 : ∀ k, depB l j k = true → k < l.length := fun k hk => by
          have hk' := hk
          unfold depB at hk'
          rw [List.getElem?_eq_getElem hj] at hk'
          obtain ⟨q, hq1, hb⟩ := Array.any_eq_true.1 hk'
          simp only [Bool.and_eq_true, beq_iff_eq] at hb
          have h1 := ht j _ (List.getElem?_eq_getElem hj) _ (Array.getElem_mem hq1) hb.1
          rw [hb.2] at h1
          omega
        by_cases e : j = i
        · subst e
          refine hloc j _ _ w' (fun k hk => ?_) hTG.2
          rw [hval k (hk.elim (fun e => e ▸ hj) (hdl2 k))]
        · refine hloc j _ _ w' (fun k hk => ?_) (carry j hj e hl hwt w' hTG.1)
          rw [hval k (hk.elim (fun e => e ▸ hj) (hdl2 k)), if_neg]
          intro hki
          rcases hk with hk | hk
          · exact e (hk.symm.trans hki)
          · rw [getD_set_ne false (Ne.symm e)] at hl
            have := hdp j k hj hl hk
            rw [hki, hiu] at this
            cases this
      · refine hwp _ fun w' hTG => ?_
        refine ih _ _ _ hF (hI _ _ _ hTG.1 hR) (by simp [hsz]) hdp' (fun j hj hl hwt => ?_) hcs
        by_cases e : j = i
        · subst e
          refine hloc j _ _ w' (fun k hk => ?_) hTG.2
          by_cases hki : k = j
          · rw [if_pos hki, hki]
            show undef = a.tmps.getD (sl j) undef
            rw [Array.getD_eq_getD_getElem?, Array.getElem?_eq_none hdl]
            rfl
          · rw [if_neg hki]
        · exact carry j hj e hl hwt w' hTG.1
theorem wp_region_facts3 {id : Nat} {a : Act} {w : World} {l : List Oper} (sl : Nat → Nat) (nd : Nat → Nat → Bool) (hnd : ∀ i j, i < l.length → nd i j = true → depB l i j = true) (out : Nat → Bool) (G : Nat → (Nat → Value) → World → Prop) (T : Nat → World → World → Prop) (I : World → Prop) (hm : P.follows .mixedOrders = true)
    (hB : headB2 l = true) (h0 : I w.drew) (hI : ∀ i w w', T i w w' → I w → I w') (hG : ∀ i j v w w', j ≠ i → (∃ L : Nat → Bool, L j = true ∧ L i = false ∧ ∀ a b, a < l.length → L a = true → depB l a b = true → L b = true) → (out j = true ∨ ∃ k, k < l.length ∧ k ≠ i ∧ depB l i k = false ∧ nd k j = true) → T i w w' → G j v w → G j v w') (hloc : ∀ j v v' w, (∀ k, k = j ∨ depB l j k = true → v k = v' k) → G j v w → G j v' w) (hd : ∀ i j, i < l.length → j < l.length → sl i = sl j → i = j)
    (step : ∀ i o, l[i]? = some o → ∀ a' w', HFrame a a' sl l.length → I w' → (∀ j, nd i j = true → G j (fun k => a'.tmps.getD (sl k) undef) w') → Region.wanted o (yielded l.toArray a'.tmps) = true ∧ Yields P Q o a' w' (sl i) fun v w'' => T i w' w'' ∧ G i (fun k => if k = i then v else a'.tmps.getD (sl k) undef) w'')
    (rest : ∀ a' w', HFrame a a' sl l.length → I w' → (∀ j, j < l.length → out j = true → G j (fun k => a'.tmps.getD (sl k) undef) w') → Q .normal a' w') : (Code.region id l.toArray true).wp P Q a w := by
  refine wp_region_any hm ?_
  have T' := wpAny_facts3 (P := P) (Q := Q) (a0 := a) sl nd hnd out G T I (fun j o ho => headB2_spec hB ho) hI hG hloc hd step rest
    (cntU (Array.replicate l.length false) l.length) (Array.replicate l.length false) a w.drew ⟨rfl, rfl, fun _ _ => rfl⟩ h0 (by simp) (fun j k _ hl' => (by rw [getD_replicate_false] at hl'; cases hl')) (fun j _ hl' => (by rw [getD_replicate_false] at hl'; cases hl')) rfl
  have hcn : ∀ k, k ≤ l.length → cntU (Array.replicate l.length false) k = k := by
    intro k
    induction k with
    | zero => exact fun _ => rfl
    | succ k ih =>
      intro h
      rw [cntU, ih (by omega), getD_replicate_false]
      rfl
  rw [hcn _ (Nat.le_refl _)] at T'
  simpa using T'
end
/-- An own row's block holds the row's kind of element. -/
theorem OwnK.kind {α : Type} {ok : Nat → Prop} {d : Kn α} {e : TypeId} {w : World} {base : Nat} {v : Value} {xs : List α} (h : OwnK ok d e w base v xs) {g : Nat} (hg : v.ownBlock = some g) : ∃ cur, w.heap[g]? = some (.cells cur e (0, 0)) := by
  obtain ⟨cs, ho, _⟩ := h
  rcases ho.2 with ⟨rfl, _⟩ | ⟨g', cap, cur, rfl, _, hx, _⟩
  · cases hg
  · injection hg with hg
    exact ⟨cur, by rw [← hg]; exact hx⟩
/-- A block of five cells, for a struct of type t. -/
def IsBox (n : Nat) (t : TypeId) (base : Nat) (v : Value) (w : World) : Prop := ∃ k, v = .pointer (some ⟨k, 0, none⟩) ∧ base ≤ k ∧ ∃ z : Array Value, z.size = n ∧ w.heap[k]? = some (.cells z t (0, 0))
theorem IsBox.below {n : Nat} {t : TypeId} {base : Nat} {v : Value} {w w' : World} (h : IsBox n t base v w) (hb : Below w.heap.size w w') : IsBox n t base v w' := by
  obtain ⟨k, e, hk, z, hz, hx⟩ := h
  exact ⟨k, e, hk, z, hz, (hb.block k (blk_lt hx)).trans hx⟩
/-- A block of the kind t is written, and new blocks are laid. -/
def Wrote (base : Nat) (t : TypeId) (w w' : World) : Prop := ∃ k z, base ≤ k ∧ w.heap[k]? = some (.cells z t (0, 0)) ∧ w.grownBy w' (some k)
theorem Wrote.block {base : Nat} {t t' : TypeId} {w w' : World} (h : Wrote base t w w') (hne : t ≠ t') {k : Nat} {z : Array Value} (hx : w.heap[k]? = some (.cells z t' (0, 0))) : w'.heap[k]? = some (.cells z t' (0, 0)) := by
  obtain ⟨k', z', _, hx', hg⟩ := h
  refine (hg.block k (blk_lt hx) fun e => ?_).trans hx
  injection e with e
  rw [e, hx'] at hx
  injection hx with hx
  injection hx with _ hx
  exact hne hx
theorem Wrote.below {base : Nat} {t : TypeId} {w w' : World} (h : Wrote base t w w') (hb : base ≤ w.heap.size) : Below base w w' := by
  obtain ⟨X, _, hX, _, hg⟩ := h
  exact ⟨hg.os, hg.tape, hg.output, hg.size, fun k hk => hg.block k (by omega) (fun e => by injection e; omega)⟩
theorem AppEmp.wrote {base : Nat} {t : TypeId} {w w' : World} (h : AppEmp base t w w') : Wrote base t w w' := by
  obtain ⟨X, hX, hx, hg⟩ := h
  exact ⟨X, _, hX, hx, hg⟩
theorem IsBox.wrote {n : Nat} {t t' : TypeId} {base : Nat} {v : Value} {w w' : World} (h : IsBox n t base v w) (hb : Wrote base t' w w') (hne : t' ≠ t) : IsBox n t base v w' := by
  obtain ⟨k, e, hk, z, hz, hx⟩ := h
  exact ⟨k, e, hk, z, hz, hb.block hne hx⟩
theorem IsEmp.wrote {t t' : TypeId} {base : Nat} {v : Value} {w w' : World} (h : IsEmp base t v w) (hb : Wrote base t' w w') (hne : t' ≠ t) : IsEmp base t v w' := by
  obtain ⟨k, e, hk, hx⟩ := h
  exact ⟨k, e, hk, hb.block hne hx⟩
theorem OwnK.wrote {α : Type} {ok : Nat → Prop} {d : Kn α} (hf : Flat d) {e t' : TypeId} {w w' : World} {base b' : Nat} {v : Value} {xs : List α} (h : OwnK ok d e w base v xs) (hb : Wrote b' t' w w') (hne : t' ≠ e) : OwnK ok d e w' base v xs := by
  obtain ⟨k', z', _, hx', hg⟩ := hb
  refine h.flat hf hg ?_
  cases hv : v.ownBlock with
  | none => exact .inl rfl
  | some g =>
    refine .inr fun e2 => ?_
    obtain ⟨cur, hx⟩ := h.kind hv
    injection e2 with e2
    rw [e2, hx'] at hx
    injection hx with hx
    injection hx with _ hx
    exact hne hx
end Go.Proofs.YtlinhckgdfhppaaK
