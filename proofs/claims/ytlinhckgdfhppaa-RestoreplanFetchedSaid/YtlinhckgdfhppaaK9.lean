/- Drawn regions by facts: each operation, whenever it comes, yields a value of which a fact holds that the others' steps leave standing. -/
import Derived.Test.YtlinhckgdfhppaaK8
set_option linter.unusedSimpArgs false
set_option linter.unusedVariables false
namespace Go.Proofs.YtlinhckgdfhppaaK
open Go

section
variable {P : Program} {ops : Array Oper} {Q : Exit → Act → World → Prop}
/-- What holds of the frame while the region runs. -/
structure HFrame (a0 a : Act) (sl : Nat → Nat) (n : Nat) : Prop where
  size : a.tmps.size = a0.tmps.size
  defers : a.defers = a0.defers
  far : ∀ s, (∀ j, j < n → sl j ≠ s) → a.tmps.getD s undef = a0.tmps.getD s undef
theorem put_same {a : Act} {d : Nat} {v : Value} (h : d < a.tmps.size) : (a.put (some d) v).tmps.getD d undef = v := by
  simp [Act.put, h]
theorem put_far {a : Act} {d s : Nat} {v : Value} (h : d ≠ s) : (a.put (some d) v).tmps.getD s undef = a.tmps.getD s undef := by
  simp [Act.put, h]
theorem put_size {a : Act} {d : Nat} {v : Value} : (a.put (some d) v).tmps.size = a.tmps.size := by simp [Act.put]
/-- How many of the first n are still to come. -/
def cntU (listed : Array Bool) : Nat → Nat
  | 0 => 0
  | k + 1 => cntU listed k + if listed.getD k false = true then 0 else 1
theorem cntU_zero {listed : Array Bool} : ∀ {n : Nat}, cntU listed n = 0 → ∀ j, j < n → listed.getD j false = true
  | n + 1, h, j, hj => by
    rw [cntU] at h
    by_cases h1 : listed.getD n false = true
    · rcases Nat.lt_or_ge j n with h2 | h2
      · exact cntU_zero (by omega) j h2
      · rw [show j = n by omega]; exact h1
    · rw [if_neg h1] at h
      omega
theorem cntU_pos {listed : Array Bool} : ∀ {n : Nat}, 0 < cntU listed n → ∃ i, i < n ∧ listed.getD i false = false ∧ ∀ j, j < i → listed.getD j false = true
  | n + 1, h => by
    by_cases h1 : 0 < cntU listed n
    · obtain ⟨i, h2, h3⟩ := cntU_pos h1
      exact ⟨i, by omega, h3⟩
    · rw [cntU] at h
      refine ⟨n, by omega, ?_, cntU_zero (by omega)⟩
      by_cases h2 : listed.getD n false = true
      · rw [if_pos h2] at h
        omega
      · simpa using h2
theorem cntU_set_far {listed : Array Bool} {i : Nat} : ∀ {n : Nat}, n ≤ i → cntU (listed.setIfInBounds i true) n = cntU listed n
  | 0, _ => rfl
  | n + 1, h => by rw [cntU, cntU, cntU_set_far (by omega), getD_set_ne false (by omega)]
theorem cntU_set {listed : Array Bool} {i : Nat} (hs : i < listed.size) (hu : listed.getD i false = false) : ∀ {n : Nat}, i < n → cntU (listed.setIfInBounds i true) n + 1 = cntU listed n
  | n + 1, h => by
    rw [cntU, cntU]
    rcases Nat.lt_or_ge i n with h1 | h1
    · have := cntU_set hs hu h1
      rw [getD_set_ne false (by omega)]
      omega
    · obtain rfl : i = n := by omega
      rw [cntU_set_far (Nat.le_refl _), if_pos (by simp [hs]), if_neg (by rw [hu]; decide)]
/-- The operation yields, or it only acts. -/
def Comes (P : Program) (o : Oper) (a : Act) (w : World) (d : Nat) (v : Value) (w' : World) : Prop :=
  (o.dst = some d ∧ d < a.tmps.size ∧ (execOp a.eval o).run P w = .ok (.value v) w') ∨ (o.dst = none ∧ v = undef ∧ a.tmps.size ≤ d ∧ (execOp a.eval o).run P w = .ok .skip w')
theorem wpAny_facts {a0 : Act} (sl : Nat → Nat) (G : Nat → Value → World → Prop) (T : Nat → World → World → Prop) (I : World → Prop)
    (ht : ∀ j o, ops[j]? = some o → o.guard = none ∧ ∀ e ∈ o.after, Region.binds .any e = true → e.on < j)
    (hI : ∀ i w w', T i w w' → I w → I w') (hG : ∀ i j v w w', j ≠ i → T i w w' → G j v w → G j v w') (hd : ∀ i j, i < ops.size → j < ops.size → sl i = sl j → i = j)
    (step : ∀ i o, ops[i]? = some o → ∀ a w, HFrame a0 a sl ops.size → I w → (∀ e ∈ o.after, Region.binds .any e = true → G e.on (a.tmps.getD (sl e.on) undef) w) → ∃ v w', Comes P o a w (sl i) v w' ∧ T i w w' ∧ G i v w')
    (rest : ∀ a w, HFrame a0 a sl ops.size → I w → (∀ j, j < ops.size → G j (a.tmps.getD (sl j) undef) w) → Q .normal a w) :
    ∀ (f : Nat) (listed : Array Bool) (a : Act) (w : World), HFrame a0 a sl ops.size → I w → listed.size = ops.size → (∀ j, j < ops.size → listed.getD j false = true → G j (a.tmps.getD (sl j) undef) w) → cntU listed ops.size = f →
      wpAny P .any ops Q f listed a w := by
  intro f
  induction f with
  | zero =>
    intro listed a w hF hR hsz hf hcnt
    have hall := cntU_zero hcnt
    refine ⟨?_, rest a w hF hR fun j hj => hf j hj (hall j hj)⟩
    refine List.eq_nil_iff_forall_not_mem.2 fun i hi => ?_
    obtain ⟨hun, o, ho, _⟩ := mem_ready.1 hi
    have hin : i < ops.size := (Array.getElem?_eq_some_iff.1 ho).1
    have := hall i hin
    rw [getD_both hun] at this
    cases this
  | succ f ih =>
    intro listed a w hF hR hsz hf hcnt
    obtain ⟨i0, hi0, hf0, hlow⟩ := cntU_pos (listed := listed) (n := ops.size) (by omega)
    have hlt0 : i0 < listed.size := by rw [hsz]; exact hi0
    have hun0 : listed.getD i0 true = false := by
      simp only [Array.getD_eq_getD_getElem?, Array.getElem?_eq_getElem hlt0, Option.getD_some] at hf0 ⊢
      exact hf0
    refine ⟨fun h0 => ?_, fun i hi => ?_⟩
    · have hr : i0 ∈ Region.ready .any ops listed := mem_ready.2 ⟨hun0, ops[i0], Array.getElem?_eq_getElem hi0, fun e he hb => hlow _ ((ht i0 _ (Array.getElem?_eq_getElem hi0)).2 e he hb)⟩
      rw [h0] at hr
      cases hr
    · obtain ⟨hun, o, ho, hall⟩ := mem_ready.1 hi
      have hin : i < ops.size := (Array.getElem?_eq_some_iff.1 ho).1
      obtain ⟨v, w', hrun, hT, hG2⟩ := step i o ho a w hF hR fun e he hb => hf _ (by have := (ht i o ho).2 e he hb; omega) (hall e he hb)
      have hil : i < listed.size := by rw [hsz]; exact hin
      have hcs : cntU (listed.setIfInBounds i true) ops.size = f := by
        have := cntU_set hil (getD_both hun) hin
        omega
      unfold wpOp
      rw [ho]
      have hw : Region.wanted o (yielded ops a.tmps) = true := by simp [Region.wanted, (ht i o ho).1]
      simp only [hw, if_true]
      refine .inl ?_
      show o.upon P a _ _ _
      rcases hrun with ⟨hdst, hdl, hrun⟩ | ⟨hdst, hv, hdl, hrun⟩
      · rw [hrun, Oper.upon_value, hdst]
        refine ih _ _ _ ⟨put_size.trans hF.size, hF.defers, fun s hsf => (put_far (hsf i hin)).trans (hF.far s hsf)⟩ (hI _ _ _ hT hR) (by simp [hsz]) (fun j hj hl => ?_) hcs
        by_cases e : j = i
        · subst e
          rw [put_same hdl]
          exact hG2
        · rw [put_far (fun h => e (hd j i hj hin h.symm))]
          rw [getD_set_ne false (Ne.symm e)] at hl
          exact hG _ _ _ _ _ e hT (hf j hj hl)
      · rw [hrun, Oper.upon_skip, hdst]
        refine ih _ _ _ hF (hI _ _ _ hT hR) (by simp [hsz]) (fun j hj hl => ?_) hcs
        by_cases e : j = i
        · subst e
          rw [show (a.put none undef) = a from rfl, Array.getD_eq_getD_getElem?, Array.getElem?_eq_none hdl]
          subst hv
          exact hG2
        · rw [getD_set_ne false (Ne.symm e)] at hl
          exact hG _ _ _ _ _ e hT (hf j hj hl)
/-- What the law asks of the operations, as one test. -/
def headB (l : List Oper) : Bool := (List.range l.length).all fun i => match l[i]? with
  | some o => o.guard.isNone && o.after.all fun e => !Region.binds .any e || decide (e.on < i)
  | none => false
def depB (l : List Oper) (i j : Nat) : Bool := match l[i]? with
  | some o => o.after.any fun e => Region.binds .any e && (e.on == j)
  | none => false
theorem headB_spec {l : List Oper} (h : headB l = true) {i : Nat} {o : Oper} (ho : l[i]? = some o) : o.guard = none ∧ ∀ e ∈ o.after, Region.binds .any e = true → e.on < i := by
  have h1 := List.all_eq_true.1 h i (List.mem_range.2 (List.getElem?_eq_some_iff.1 ho).1)
  simp only [ho, Bool.and_eq_true, Option.isNone_iff_eq_none, decide_eq_true_eq, Array.all_eq_true_iff_forall_mem, Bool.or_eq_true, Bool.not_eq_true'] at h1
  refine ⟨h1.1, fun e he hb => ?_⟩
  rcases h1.2 e he with h2 | h2
  · rw [hb] at h2; cases h2
  · exact h2
theorem wp_region_facts {id : Nat} {a : Act} {w : World} {l : List Oper} (sl : Nat → Nat) (G : Nat → Value → World → Prop) (T : Nat → World → World → Prop) (I : World → Prop) (hm : P.follows .mixedOrders = true)
    (hB : headB l = true) (h0 : I w.drew) (hI : ∀ i w w', T i w w' → I w → I w') (hG : ∀ i j v w w', j ≠ i → T i w w' → G j v w → G j v w') (hd : ∀ i j, i < l.length → j < l.length → sl i = sl j → i = j)
    (step : ∀ i o, l[i]? = some o → ∀ a' w', HFrame a a' sl l.length → I w' → (∀ j, depB l i j = true → G j (a'.tmps.getD (sl j) undef) w') → ∃ v w'', Comes P o a' w' (sl i) v w'' ∧ T i w' w'' ∧ G i v w'')
    (rest : ∀ a' w', HFrame a a' sl l.length → I w' → (∀ j, j < l.length → G j (a'.tmps.getD (sl j) undef) w') → Q .normal a' w') : (Code.region id l.toArray true).wp P Q a w := by
  refine wp_region_any hm ?_
  have hsz : l.toArray.size = l.length := by simp
  have T' := wpAny_facts (P := P) (ops := l.toArray) (Q := Q) (a0 := a) sl G T I (fun j o ho => headB_spec hB (by simpa using ho)) hI hG (fun i j hi hj => hd i j (by omega) (by omega))
    (fun i o ho a' w' hF hR hdp => step i o (by simpa using ho) a' w' (by rwa [hsz] at hF) hR fun j hj => by
      unfold depB at hj
      rw [show l[i]? = some o by simpa using ho] at hj
      obtain ⟨q, hq1, hb⟩ := Array.any_eq_true.1 hj
      simp only [Bool.and_eq_true, beq_iff_eq] at hb
      have := hdp _ (Array.getElem_mem hq1) hb.1
      rwa [hb.2] at this)
    (fun a' w' hF hR hf => rest a' w' (by rwa [hsz] at hF) hR fun j hj => hf j (by omega))
    (cntU (Array.replicate l.length false) l.length) (Array.replicate l.length false) a w.drew ⟨rfl, rfl, fun _ _ => rfl⟩ h0 (by simp) (fun j _ hl' => (by rw [getD_replicate_false] at hl'; cases hl')) (by rw [hsz])
  have hcn : ∀ k, k ≤ l.length → cntU (Array.replicate l.length false) k = k := by
    intro k
    induction k with
    | zero => exact fun _ => rfl
    | succ k ih =>
      intro h
      rw [cntU, ih (by omega), getD_replicate_false]
      rfl
  rw [hcn _ (Nat.le_refl _)] at T'
  simpa using T'
end
end Go.Proofs.YtlinhckgdfhppaaK
