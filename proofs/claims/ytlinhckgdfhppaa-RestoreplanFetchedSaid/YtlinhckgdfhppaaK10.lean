/- Drawn regions by facts, second make: operations may be guarded, calls may lay blocks, and a fact stands only as long as somebody waits for it. -/
import Derived.Test.YtlinhckgdfhppaaK9
set_option linter.unusedSimpArgs false
set_option linter.unusedVariables false
namespace Go.Proofs.YtlinhckgdfhppaaK
open Go Go.RowKit

section
variable {P : Program} {ops : Array Oper} {Q : Exit → Act → World → Prop}
/-- The operation comes to its end, and R holds of its value and of the world then. -/
def Yields (P : Program) (Q : Exit → Act → World → Prop) (o : Oper) (a : Act) (w : World) (d : Nat) (R : Value → World → Prop) : Prop :=
  (o.dst = some d ∧ d < a.tmps.size ∧ ∀ K : Act → World → Prop, (∀ v w', R v w' → K (a.put o.dst v) w') → o.wp P a w K Q) ∨
  (o.dst = none ∧ a.tmps.size ≤ d ∧ ∀ K : Act → World → Prop, (∀ w', R undef w' → K a w') → o.wp P a w K Q)
theorem Yields.run {o : Oper} {a : Act} {w w' : World} {d : Nat} {R : Value → World → Prop} {v : Value} (h : o.dst = some d) (hd : d < a.tmps.size) (hr : (execOp a.eval o).run P w = .ok (.value v) w') (hR : R v w') : Yields P Q o a w d R :=
  .inl ⟨h, hd, fun K hK => by
    unfold Oper.wp
    rw [hr, Oper.upon_value]
    exact hK v w' hR⟩
theorem Yields.skip {o : Oper} {a : Act} {w w' : World} {d : Nat} {R : Value → World → Prop} (h : o.dst = none) (hd : a.tmps.size ≤ d) (hr : (execOp a.eval o).run P w = .ok .skip w') (hR : R undef w') : Yields P Q o a w d R :=
  .inr ⟨h, hd, fun K hK => by
    unfold Oper.wp
    rw [hr, Oper.upon_skip, h]
    exact hK w' hR⟩
/-- Who waits for the value of number j. -/
def waits (l : List Oper) (out : Nat → Bool) (listed : Array Bool) (j : Nat) : Prop := out j = true ∨ ∃ k, k < l.length ∧ listed.getD k false = false ∧ depB l k j = true
theorem wpAny_facts2 {l : List Oper} {a0 : Act} (sl : Nat → Nat) (out : Nat → Bool) (G : Nat → Value → World → Prop) (T : Nat → World → World → Prop) (I : World → Prop)
    (ht : ∀ j o, l[j]? = some o → ∀ e ∈ o.after, Region.binds .any e = true → e.on < j)
    (hI : ∀ i w w', T i w w' → I w → I w') (hG : ∀ i j v w w', j ≠ i → depB l j i = false → (out j = true ∨ ∃ k, k < l.length ∧ k ≠ i ∧ depB l i k = false ∧ depB l k j = true) → T i w w' → G j v w → G j v w') (hd : ∀ i j, i < l.length → j < l.length → sl i = sl j → i = j)
    (step : ∀ i o, l[i]? = some o → ∀ a w, HFrame a0 a sl l.length → I w → (∀ j, depB l i j = true → G j (a.tmps.getD (sl j) undef) w) → Region.wanted o (yielded l.toArray a.tmps) = true ∧ Yields P Q o a w (sl i) fun v w' => T i w w' ∧ G i v w')
    (rest : ∀ a w, HFrame a0 a sl l.length → I w → (∀ j, j < l.length → out j = true → G j (a.tmps.getD (sl j) undef) w) → Q .normal a w) :
    ∀ (f : Nat) (listed : Array Bool) (a : Act) (w : World), HFrame a0 a sl l.length → I w → listed.size = l.length → (∀ j k, j < l.length → listed.getD j false = true → depB l j k = true → listed.getD k false = true) → (∀ j, j < l.length → listed.getD j false = true → waits l out listed j → G j (a.tmps.getD (sl j) undef) w) → cntU listed l.length = f →
      wpAny P .any l.toArray Q f listed a w := by
  intro f
  induction f with
  | zero =>
    intro listed a w hF hR hsz hdp hf hcnt
    have hall := cntU_zero hcnt
    refine ⟨?_, rest a w hF hR fun j hj ho => hf j hj (hall j hj) (.inl ho)⟩
    refine List.eq_nil_iff_forall_not_mem.2 fun i hi => ?_
    obtain ⟨hun, o, ho, _⟩ := mem_ready.1 hi
    have hin : i < l.length := by have := (Array.getElem?_eq_some_iff.1 ho).1; simpa using this
    have := hall i hin
    rw [getD_both hun] at this
    cases this
  | succ f ih =>
    intro listed a w hF hR hsz hdp hf hcnt
    obtain ⟨i0, hi0, hf0, hlow⟩ := cntU_pos (listed := listed) (n := l.length) (by omega)
    have hlt0 : i0 < listed.size := by rw [hsz]; exact hi0
    have hun0 : listed.getD i0 true = false := by
      simp only [Array.getD_eq_getD_getElem?, Array.getElem?_eq_getElem hlt0, Option.getD_some] at hf0 ⊢
      exact hf0
    refine ⟨fun h0 => ?_, fun i hi => ?_⟩
    · have hr : i0 ∈ Region.ready .any l.toArray listed := mem_ready.2 ⟨hun0, l[i0], by simp [hi0], fun e he hb => hlow _ (ht i0 _ (List.getElem?_eq_getElem hi0) e he hb)⟩
      rw [h0] at hr
      cases hr
    · obtain ⟨hun, o, ho, hall⟩ := mem_ready.1 hi
      have hol : l[i]? = some o := by simpa using ho
      have hin : i < l.length := (List.getElem?_eq_some_iff.1 hol).1
      have hil : i < listed.size := by rw [hsz]; exact hin
      have hiu := getD_both hun
      have hdi : ∀ j, depB l i j = true → j < i ∧ listed.getD j false = true := by
        intro j hj'
        unfold depB at hj'
        rw [hol] at hj'
        obtain ⟨q, hq1, hb⟩ := Array.any_eq_true.1 hj'
        simp only [Bool.and_eq_true, beq_iff_eq] at hb
        have h1 := ht i o hol _ (Array.getElem_mem hq1) hb.1
        have h2 := hall _ (Array.getElem_mem hq1) hb.1
        rw [hb.2] at h1 h2
        exact ⟨h1, h2⟩
      obtain ⟨hw, hy⟩ := step i o hol a w hF hR fun j hj => hf j (by have := (hdi j hj).1; omega) (hdi j hj).2 (.inr ⟨i, hin, hiu, hj⟩)
      have hdp' : ∀ j k, j < l.length → (listed.setIfInBounds i true).getD j false = true → depB l j k = true → (listed.setIfInBounds i true).getD k false = true := by
        intro j k hj hl hk
        by_cases e : j = i
        · subst e
          have h1 := hdi k hk
          rw [getD_set_ne false (by omega)]
          exact h1.2
        · rw [getD_set_ne false (Ne.symm e)] at hl
          by_cases e2 : k = i
          · subst e2
            simp [hil]
          · rw [getD_set_ne false (Ne.symm e2)]
            exact hdp j k hj hl hk
      have hcs : cntU (listed.setIfInBounds i true) l.length = f := by
        have := cntU_set hil hiu hin
        omega
      have carry : ∀ j, j < l.length → j ≠ i → (listed.setIfInBounds i true).getD j false = true → waits l out (listed.setIfInBounds i true) j → ∀ w', T i w w' → G j (a.tmps.getD (sl j) undef) w' := by
        intro j hj hne hl hwt w' hT
        rw [getD_set_ne false (Ne.symm hne)] at hl
        have h1 : waits l out listed j := by
          rcases hwt with h | ⟨k, hk, hkl, hkd⟩
          · exact .inl h
          · refine .inr ⟨k, hk, ?_, hkd⟩
            by_cases e : k = i
            · rw [e]; exact hiu
            · rwa [getD_set_ne false (Ne.symm e)] at hkl
        refine hG i j _ w w' hne ?_ ?_ hT (hf j hj hl h1)
        · refine Bool.eq_false_iff.2 fun hc => ?_
          have := hdp j i hj hl hc
          rw [hiu] at this
          cases this
        rcases hwt with h | ⟨k, hk, hkl, hkd⟩
        · exact .inl h
        · have hki : k ≠ i := fun e => by
            rw [e] at hkl
            simp [hil] at hkl
          refine .inr ⟨k, hk, hki, Bool.eq_false_iff.2 fun hc => ?_, hkd⟩
          rw [getD_set_ne false (Ne.symm hki), (hdi k hc).2] at hkl
          cases hkl
      unfold wpOp
      rw [ho]
      simp only [hw, if_true]
      refine .inl ?_
      rcases hy with ⟨hdst, hdl, hwp⟩ | ⟨hdst, hdl, hwp⟩
      · refine hwp _ fun v w' hTG => ?_
        rw [hdst]
        refine ih _ _ _ ⟨put_size.trans hF.size, hF.defers, fun s hsf => (put_far (hsf i hin)).trans (hF.far s hsf)⟩ (hI _ _ _ hTG.1 hR) (by simp [hsz]) hdp' (fun j hj hl hwt => ?_) hcs
        by_cases e : j = i
        · subst e
          rw [put_same hdl]
          exact hTG.2
        · rw [put_far (fun h => e (hd j i hj hin h.symm))]
          exact carry j hj e hl hwt w' hTG.1
      · refine hwp _ fun w' hTG => ?_
        refine ih _ _ _ hF (hI _ _ _ hTG.1 hR) (by simp [hsz]) hdp' (fun j hj hl hwt => ?_) hcs
        by_cases e : j = i
        · subst e
          rw [Array.getD_eq_getD_getElem?, Array.getElem?_eq_none hdl]
          exact hTG.2
        · exact carry j hj e hl hwt w' hTG.1
/-- What the law asks of the operations, as one test. -/
def headB2 (l : List Oper) : Bool := (List.range l.length).all fun i => match l[i]? with
  | some o => o.after.all fun e => !Region.binds .any e || decide (e.on < i)
  | none => false
theorem headB2_spec {l : List Oper} (h : headB2 l = true) {i : Nat} {o : Oper} (ho : l[i]? = some o) : ∀ e ∈ o.after, Region.binds .any e = true → e.on < i := by
  have h1 := List.all_eq_true.1 h i (List.mem_range.2 (List.getElem?_eq_some_iff.1 ho).1)
  simp only [ho, decide_eq_true_eq, Array.all_eq_true_iff_forall_mem, Bool.or_eq_true, Bool.not_eq_true'] at h1
  intro e he hb
  rcases h1 e he with h2 | h2
  · rw [hb] at h2; cases h2
  · exact h2
theorem wp_region_facts2 {id : Nat} {a : Act} {w : World} {l : List Oper} (sl : Nat → Nat) (out : Nat → Bool) (G : Nat → Value → World → Prop) (T : Nat → World → World → Prop) (I : World → Prop) (hm : P.follows .mixedOrders = true)
    (hB : headB2 l = true) (h0 : I w.drew) (hI : ∀ i w w', T i w w' → I w → I w') (hG : ∀ i j v w w', j ≠ i → depB l j i = false → (out j = true ∨ ∃ k, k < l.length ∧ k ≠ i ∧ depB l i k = false ∧ depB l k j = true) → T i w w' → G j v w → G j v w') (hd : ∀ i j, i < l.length → j < l.length → sl i = sl j → i = j)
    (step : ∀ i o, l[i]? = some o → ∀ a' w', HFrame a a' sl l.length → I w' → (∀ j, depB l i j = true → G j (a'.tmps.getD (sl j) undef) w') → Region.wanted o (yielded l.toArray a'.tmps) = true ∧ Yields P Q o a' w' (sl i) fun v w'' => T i w' w'' ∧ G i v w'')
    (rest : ∀ a' w', HFrame a a' sl l.length → I w' → (∀ j, j < l.length → out j = true → G j (a'.tmps.getD (sl j) undef) w') → Q .normal a' w') : (Code.region id l.toArray true).wp P Q a w := by
  refine wp_region_any hm ?_
  have T' := wpAny_facts2 (P := P) (Q := Q) (a0 := a) sl out G T I (fun j o ho => headB2_spec hB ho) hI hG hd step rest
    (cntU (Array.replicate l.length false) l.length) (Array.replicate l.length false) a w.drew ⟨rfl, rfl, fun _ _ => rfl⟩ h0 (by simp) (fun j k _ hl' => (by rw [getD_replicate_false] at hl'; cases hl')) (fun j _ hl' => (by rw [getD_replicate_false] at hl'; cases hl')) rfl
  have hcn : ∀ k, k ≤ l.length → cntU (Array.replicate l.length false) k = k := by
    intro k
    induction k with
    | zero => exact fun _ => rfl
    | succ k ih =>
      intro h
      rw [cntU, ih (by omega), getD_replicate_false]
      rfl
  rw [hcn _ (Nat.le_refl _)] at T'
  simpa using T'
end
/-- The frame behind the region: the slots that it writes hold ys, the others what they held. -/
def mergeA (ys : Nat → Value) (own : List Nat) : List Value → Nat → List Value
  | [], _ => []
  | x :: xs, s => (if own.contains s then ys s else x) :: mergeA ys own xs (s + 1)
theorem mergeA_len (ys : Nat → Value) (own : List Nat) : ∀ (xs : List Value) (s : Nat), (mergeA ys own xs s).length = xs.length
  | [], _ => rfl
  | x :: xs, s => by rw [mergeA, List.length_cons, mergeA_len, List.length_cons]
theorem mergeA_at (ys : Nat → Value) (own : List Nat) : ∀ (xs : List Value) (s i : Nat) (x : Value), xs[i]? = some x → (mergeA ys own xs s)[i]? = some (if own.contains (s + i) then ys (s + i) else x)
  | x :: xs, s, 0, y, h => by
    obtain rfl : x = y := by simpa using h
    rfl
  | x :: xs, s, i + 1, y, h => by
    rw [mergeA, List.getElem?_cons_succ, mergeA_at ys own xs (s + 1) i y (by simpa using h), show s + 1 + i = s + (i + 1) by omega]
theorem HFrame.lit {a0 a : Act} {sl : Nat → Nat} {n : Nat} (h : HFrame a0 a sl n) (own : List Nat) (ho : ∀ s, own.contains s = false → ∀ j, j < n → sl j ≠ s) :
    a = ⟨(mergeA (fun s => a.tmps.getD s undef) own a0.tmps.toList 0).toArray, a0.defers⟩ := by
  obtain ⟨tm, df⟩ := a
  have h1 : df = a0.defers := h.defers
  subst h1
  have h2 : tm.size = a0.tmps.size := h.size
  congr 1
  refine Array.ext_getElem? fun i => ?_
  show tm[i]? = (mergeA (fun s => tm.getD s undef) own a0.tmps.toList 0).toArray[i]?
  have e : (mergeA (fun s => tm.getD s undef) own a0.tmps.toList 0).toArray[i]? = (mergeA (fun s => tm.getD s undef) own a0.tmps.toList 0)[i]? := List.getElem?_toArray ..
  rw [e]
  rcases Nat.lt_or_ge i a0.tmps.size with hi | hi
  · rw [mergeA_at _ own a0.tmps.toList 0 i a0.tmps[i] (by simp [hi]), Nat.zero_add]
    by_cases hc : own.contains i = true
    · rw [if_pos hc]
      simp [Array.getD_eq_getD_getElem?, h2, hi]
    · rw [if_neg hc]
      have h3 := h.far i (ho i (by simpa using hc))
      simp only [Array.getD_eq_getD_getElem?, Array.getElem?_eq_getElem hi, Array.getElem?_eq_getElem (show i < tm.size by omega), Option.getD_some] at h3
      rw [Array.getElem?_eq_getElem (show i < tm.size by omega), h3]
  · rw [Array.getElem?_eq_none (by omega), List.getElem?_eq_none (by rw [mergeA_len]; simpa using hi)]
theorem yielded_of {l : List Oper} {tmps : Array Value} {j d : Nat} {o : Oper} {b : Bool} (h : l[j]? = some o) (hd : o.dst = some d) (hv : tmps.getD d undef = .bool b) : yielded l.toArray tmps j = some b := by
  have h1 : tmps[d]? = some (.bool b) := by
    rw [Array.getD_eq_getD_getElem?] at hv
    cases e : tmps[d]? with
    | none => rw [e] at hv; cases hv
    | some v => rw [e] at hv; exact congrArg some hv
  unfold yielded
  have h2 : l.toArray[j]? = some o := by simpa using h
  rw [h2]
  show (match o.dst.bind (tmps[·]?) with | some (.bool b) => some b | _ => none) = some b
  rw [hd]
  show (match tmps[d]? with | some (.bool b) => some b | _ => none) = some b
  rw [h1]
theorem wanted_of {l : List Oper} {tmps : Array Value} {j d : Nat} {o o' : Oper} {b : Bool} (hg : o'.guard = some (j, b)) (h : l[j]? = some o) (hd : o.dst = some d) (hv : tmps.getD d undef = .bool b) : Region.wanted o' (yielded l.toArray tmps) = true := by
  unfold Region.wanted
  rw [hg]
  show (yielded l.toArray tmps j == some b) = true
  rw [yielded_of h hd hv]
  simp
theorem unguarded {l : List Oper} {tmps : Array Value} {o : Oper} (hg : o.guard = none) : Region.wanted o (yielded l.toArray tmps) = true := by
  unfold Region.wanted
  rw [hg]
section
variable {α : Type} {d : Kn α} {e : TypeId} {P : Program} {o : Oper} {a : Act} {Q : Exit → Act → World → Prop} {K : Act → World → Prop} {ok ok2 : Nat → Prop}
/-- append(v, ys...) of elements that read no memory. -/
theorem wp_app_flat {W : World} (hf : Flat d) (base : Nat) (s x : Operand) (t : TypeId) (z : Value) (bytes : Nat)
    (ho : o.op = .call { callee := .builtin .append, args := #[s, x], argTypes := #[t, t] })
    (ht : P.underlying t = some (.slice e)) (hinfo : (P.info? e).map (fun i => (i.zero, i.size, i.bytes)) = some (some z, d.sz, bytes)) (hz : z.cells.size = d.sz) (hs0 : 0 < d.sz)
    (v : Value) (xs ys : List α) (A : Option Addr) (n c : Nat) (hs : a.eval s = v) (hx : a.eval x = .slice A n c)
    (HO : OwnK ok d e W base v xs) (HR : Row d W ok2 A n ys) (hbase : base ≤ W.heap.size) (h63 : xs.length + n ≤ 9223372036854775807) (hl : (xs.length + n) * bytes ≤ 140737488355328)
    (h : ∀ v1 w1, OwnK ok d e w1 base v1 (xs ++ ys) → W.grownBy w1 v.ownBlock → (v1.ownBlock = v.ownBlock ∨ ∃ b, v1.ownBlock = some b ∧ W.heap.size ≤ b) → K (a.put o.dst v1) w1) :
    o.wp P a W K Q := by
  obtain ⟨hlen, _, hrow⟩ := HR
  subst hlen
  have key : ∃ ds, Elems d W (fun k => ok k ∧ v.ownBlock ≠ some k) ys ds ∧ (0 < ys.length → ∃ ad, A = some ad ∧ ∀ j u, ds[j]? = some u → W.cell? (ad.add j) = some u) := by
    rcases Nat.eq_zero_or_pos ys.length with h0 | h0
    · obtain rfl : ys = [] := List.eq_nil_of_length_eq_zero h0
      exact ⟨[], Elems.nil _ _ _, fun h => by simp at h⟩
    · obtain ⟨ad, rfl, _, _, hc⟩ := hrow h0
      have hall : ∀ m, m ≤ ys.length → ∃ ds, Elems d W (fun k => ok k ∧ v.ownBlock ≠ some k) (ys.take m) ds ∧ ∀ j u, ds[j]? = some u → W.cell? (ad.add j) = some u := by
        intro m
        induction m with
        | zero => exact fun _ => ⟨[], by simpa using Elems.nil d W _, fun j u hu => by simp at hu⟩
        | succ m ih =>
          intro hm
          obtain ⟨ds, h1, h2⟩ := ih (by omega)
          obtain ⟨cs, hk, hcell⟩ := hc m ys[m] (List.getElem?_eq_getElem (by omega))
          refine ⟨ds ++ cs, by rw [List.take_succ_eq_append_getElem (by omega)]; exact h1.append (Elems.single (hf hk)), fun j u hu => ?_⟩
          have hdl : ds.length = m * d.sz := by rw [h1.1, List.length_take, Nat.min_eq_left (by omega)]
          rcases Nat.lt_or_ge j ds.length with hj | hj
          · rw [List.getElem?_append_left hj] at hu
            exact h2 j u hu
          · rw [List.getElem?_append_right hj] at hu
            have := hcell _ u hu
            rwa [show m * d.sz + (j - ds.length) = j by omega] at this
      obtain ⟨ds, h1, h2⟩ := hall ys.length (Nat.le_refl _)
      rw [List.take_length] at h1
      exact ⟨ds, h1, fun _ => ⟨ad, rfl, h2⟩⟩
  obtain ⟨ds, hds, hcells⟩ := key
  obtain ⟨v1, w1, hrun, h2, h3, h4⟩ := run_app_row (P := P) W base t o.type z bytes ht hinfo hz hs0 v xs ys A c HO ds hds hcells hbase (by simpa [maxLen] using h63) hl
  unfold Oper.wp execOp
  simp only [ho, resolve, invoke, builtin, Sem.run_bind, Sem.run_pure, Result.andThen_ok, List.map_toArray, List.map_cons, List.map_nil, hs, hx, hrun]
  exact h v1 w1 h2 h3 h4
end
/-- An empty literal. -/
def IsEmp (base : Nat) (t : TypeId) (v : Value) (w : World) : Prop := ∃ X, v = .slice (some ⟨X, 0, none⟩) 0 0 ∧ base ≤ X ∧ w.heap[X]? = some (.cells #[] t (0, 0))
/-- A literal block. -/
def IsLit (base n : Nat) (cs : Array Value) (t : TypeId) (v : Value) (w : World) : Prop := ∃ X, v = .slice (some ⟨X, 0, none⟩) n n ∧ base ≤ X ∧ w.heap[X]? = some (.cells cs t (0, 0))
/-- An append onto an empty literal. -/
def AppEmp (base : Nat) (t : TypeId) (w w' : World) : Prop := ∃ X, base ≤ X ∧ w.heap[X]? = some (.cells #[] t (0, 0)) ∧ w.grownBy w' (some X)
theorem IsEmp.below {base : Nat} {t : TypeId} {v : Value} {w w' : World} (h : IsEmp base t v w) (hb : Below w.heap.size w w') : IsEmp base t v w' := by
  obtain ⟨X, e, hX, hx⟩ := h
  exact ⟨X, e, hX, (hb.block X (blk_lt hx)).trans hx⟩
theorem IsLit.below {base n : Nat} {cs : Array Value} {t : TypeId} {v : Value} {w w' : World} (h : IsLit base n cs t v w) (hb : Below w.heap.size w w') : IsLit base n cs t v w' := by
  obtain ⟨X, e, hX, hx⟩ := h
  exact ⟨X, e, hX, (hb.block X (blk_lt hx)).trans hx⟩
theorem IsLit.app {base n : Nat} {cs : Array Value} {t t' : TypeId} {v : Value} {w w' : World} (h : IsLit base n cs t v w) (hb : AppEmp base t' w w') (hc : cs.size ≠ 0) : IsLit base n cs t v w' := by
  obtain ⟨X, e, hX, hx⟩ := h
  obtain ⟨Y, hY, hy, hg⟩ := hb
  refine ⟨X, e, hX, (hg.block X (blk_lt hx) (fun e => ?_)).trans hx⟩
  injection e with e
  rw [e, hy] at hx
  injection hx with hx
  injection hx with hx
  rw [← hx] at hc
  exact hc rfl
theorem IsEmp.own {α : Type} {d : Kn α} {base : Nat} {t : TypeId} {v : Value} {w : World} (h : IsEmp base t v w) (ok : Nat → Prop) : OwnK ok d t w base v [] := by
  obtain ⟨X, rfl, hX, hx⟩ := h
  exact ⟨[], ⟨by simp, .inr ⟨X, 0, #[], rfl, hX, hx, Nat.le_refl _, by simp [maxLen], by simp, by simp⟩⟩, Elems.nil _ _ _⟩
theorem AppEmp.below {base : Nat} {t : TypeId} {w w' : World} (h : AppEmp base t w w') (hb : base ≤ w.heap.size) : Below base w w' := by
  obtain ⟨X, hX, _, hg⟩ := h
  exact ⟨hg.os, hg.tape, hg.output, hg.size, fun k hk => hg.block k (by omega) (fun e => by injection e; omega)⟩
theorem isEmp_new {base : Nat} {t : TypeId} {w : World} (hb : base ≤ w.heap.size) : IsEmp base t (.slice (some ⟨w.heap.size, 0, none⟩) 0 0) (w.alloc (.cells #[] t)) := ⟨_, rfl, hb, heap_alloc_new w _⟩
theorem isLit_new {base n : Nat} {cs : Array Value} {t : TypeId} {w : World} (hb : base ≤ w.heap.size) : IsLit base n cs t (.slice (some ⟨w.heap.size, 0, none⟩) n n) (w.alloc (.cells cs t)) := ⟨_, rfl, hb, heap_alloc_new w _⟩
/-- Number i alone waits for number j. -/
def onlyB (l : List Oper) (j i : Nat) : Bool := (List.range l.length).all fun k => !depB l k j || k == i
theorem deps_one {l : List Oper} {j i k : Nat} (h : onlyB l j i = true) (hk : k < l.length) (hd : depB l k j = true) : k = i := by
  have := List.all_eq_true.1 h k (List.mem_range.2 hk)
  rw [hd] at this
  simpa using this
/-- A literal of one number, as a row. -/
theorem IsLit.row1 {base : Nat} {kd : IntKind} {t : TypeId} {v : Value} {w : World} {x : Int} (h : IsLit base 1 #[.int kd x] t v w) : ∃ A, v = .slice A 1 1 ∧ Row (Kn.int kd) w (fun _ => True) A 1 [x] := by
  obtain ⟨X, rfl, hX, hx⟩ := h
  refine ⟨_, rfl, rfl, by decide, fun _ => ⟨_, rfl, trivial, blk_lt hx, fun j y hy => ?_⟩⟩
  match j, hy with
  | 0, hy =>
    obtain rfl : x = y := by simpa using hy
    refine ⟨_, rfl, fun i u hu => ?_⟩
    match i, hu with
    | 0, hu => rw [add_lit0, cell_of_row _ _ _ _ _ _ hx]; exact hu
  | j + 1, hy => simp at hy
end Go.Proofs.YtlinhckgdfhppaaK
