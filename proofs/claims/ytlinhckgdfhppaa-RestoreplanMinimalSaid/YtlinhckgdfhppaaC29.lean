/- A part of the proof: what the functions do, and plain laws. -/
import Derived.Test.YtlinhckgdfhppaaL
namespace Go.Proofs.Ytlinhckgdfhppaa
open Go Go.RowKit Go.Proofs.YtlinhckgdfhppaaK Go.Sort

/-- A holding with the places of its two lists. -/
abbrev RawH := Hold × (Option Addr × Nat) × (Option Addr × Nat)
instance : Inhabited Hold := ⟨⟨0, [], [], false⟩⟩
def encH (r : RawH) : List Value := [.int .i64 r.1.dev, .slice r.2.1.1 r.1.pieces.length r.2.1.2, .slice r.2.2.1 r.1.shares.length r.2.2.2, .bool r.1.index]
def cfH (x y : RawH) : Int := Lib.compareInt x.1.dev y.1.dev
theorem ltH (x y : RawH) : ltOf cfH x y = decide (x.1.dev < y.1.dev) := by
  unfold ltOf cfH Lib.compareInt
  by_cases h1 : x.1.dev < y.1.dev
  · simp [h1]
  · by_cases h2 : y.1.dev < x.1.dev <;> simp [h1, h2]
theorem swoH : SWO (ltOf cfH) where
  irrefl x := by rw [ltH]; simp
  trans x y z h1 h2 := by rw [ltH] at *; simp at *; omega
  ntrans x y z h1 h2 := by rw [ltH] at *; simp at *; omega
/-- Holdings sorted by device. -/
def sortH (list : List Hold) : List Hold := list.mergeSort fun a b => decide (a.dev ≤ b.dev)
theorem sortH_perm (list : List Hold) : (sortH list).Perm list := List.mergeSort_perm _ _
theorem sortH_sorted (list : List Hold) : (sortH list).Pairwise fun a b => a.dev ≤ b.dev := by
  have := List.pairwise_mergeSort (le := fun a b : Hold => decide (a.dev ≤ b.dev)) (by intro a b c h1 h2; simp at *; omega) (by intro a b; simp; omega) list
  exact this.imp fun h => by simpa using h
theorem inj_of_nodup {α β : Type} {f : α → β} : ∀ {l : List α}, (l.map f).Nodup → ∀ a ∈ l, ∀ b ∈ l, f a = f b → a = b
  | [], _, a, ha, _, _, _ => by cases ha
  | x :: l, h, a, ha, b, hb, e => by
    rw [List.map_cons, List.nodup_cons] at h
    rcases List.mem_cons.1 ha with ea | ha' <;> rcases List.mem_cons.1 hb with eb | hb'
    · rw [ea, eb]
    · exact absurd (by rw [← ea, e]; exact List.mem_map_of_mem hb') h.1
    · exact absurd (by rw [← eb, ← e]; exact List.mem_map_of_mem ha') h.1
    · exact inj_of_nodup h.2 a ha' b hb' e
theorem sortH_unique (list l' : List Hold) (hd : (list.map (·.dev)).Nodup) (hp : l'.Perm list) (hs : l'.Pairwise fun a b => a.dev ≤ b.dev) : l' = sortH list :=
  List.Perm.eq_of_pairwise (le := fun a b => a.dev ≤ b.dev) (fun a b ha hb h1 h2 => inj_of_nodup hd a (hp.mem_iff.1 ha) b ((sortH_perm list).mem_iff.1 hb) (by omega)) hs (sortH_sorted list) (hp.trans (sortH_perm list).symm)

set_option maxHeartbeats 1000000 in
theorem closeH (x y : RawH) (W : World) : Calls Try.prog 72 #[.agg (encH x).toArray, .agg (encH y).toArray] W fun e w' => e = .returned (.int .i64 (cfH x y)) ∧ ∃ q os', w' = grow (W.drewN q) os' := by
  have hcon := fun W' => AnyG.cmp_Compare_int Try.cmpI x.1.dev y.1.dev W'
  change ∀ W', Calls Try.prog 64 _ _ _ at hcon
  obtain ⟨r, hr⟩ : ∃ r, r = cfH x y := ⟨_, rfl⟩
  rw [← hr]
  rw [show Lib.compareInt x.1.dev y.1.dev = r from hr.symm] at hcon
  unfold encH
  clear hr
  go_enter Try.func72, Try.ntmps72
  go_wp2_with (go_at_call 64; refine (hcon _).mono ?_; rintro e w' ⟨rfl, rfl⟩)
  go_ret
  exact ⟨rfl, 0, _, by rw [alloc_eq_grow, alloc_eq_grow, grow_grow]; rfl⟩

/-- The raw holdings of a row of the call's own. -/
theorem rawH {w : World} {ok : Nat → Prop} {cs : List Value} {list : List Hold} (h : Elems kHold w ok list cs) : ∃ d : Array RawH, d.toList.map (·.1) = list ∧ cs.length = d.size * 4 ∧
    (∀ j, j < d.size → (cs.drop (j * 4)).take 4 = encH d[j]!) ∧ ∀ r ∈ d.toList, r.1.pieces.length ≤ r.2.1.2 ∧ Row kPiece w ok r.2.1.1 r.1.pieces.length r.1.pieces ∧ r.1.shares.length ≤ r.2.2.2 ∧ Row (Kn.int .i64) w ok r.2.2.1 r.1.shares.length r.1.shares := by
  have hex : ∀ j : Fin list.length, ∃ r : RawH, r.1 = list[j] ∧ (cs.drop (j.1 * 4)).take 4 = encH r ∧ r.1.pieces.length ≤ r.2.1.2 ∧ Row kPiece w ok r.2.1.1 r.1.pieces.length r.1.pieces ∧ r.1.shares.length ≤ r.2.2.2 ∧ Row (Kn.int .i64) w ok r.2.2.1 r.1.shares.length r.1.shares := by
    intro j
    have hk := h.2 j.1 list[j] (List.getElem?_eq_getElem j.2)
    obtain ⟨A1, c1, A2, c2, e, h1, h2, h3, h4⟩ := kHold_open hk
    exact ⟨(list[j], (A1, c1), (A2, c2)), rfl, e, h1, h2, h3, h4⟩
  obtain ⟨f, hf⟩ := Classical.axiomOfChoice hex
  refine ⟨Array.ofFn f, ?_, ?_, ?_, ?_⟩
  · rw [Array.toList_ofFn]
    refine List.ext_getElem (by simp) fun i h1 h2 => ?_
    simp [(hf ⟨i, h2⟩).1]
  · rw [h.1, Array.size_ofFn]; rfl
  · intro j hj
    have hj' : j < list.length := by simpa using hj
    rw [getElem!_pos (Array.ofFn f) j hj, Array.getElem_ofFn]
    exact (hf ⟨j, hj'⟩).2.1
  · intro r hr
    rw [Array.toList_ofFn, List.mem_ofFn] at hr
    obtain ⟨i, rfl⟩ := hr
    exact (hf i).2.2

set_option maxHeartbeats 1000000 in
theorem sortHold_any (w : World) (base : Nat) (v : Value) (list : List Hold) (ok : Nat → Prop) (h : OwnK ok kHold 78 w base v list) (hn : list.length ≤ 64) (hd : (list.map (·.dev)).Nodup) :
    Calls Try.prog 71 #[v, .func (.func 72) #[] #[]] w fun e w' => e = .returned (.tuple #[]) ∧ (∃ A c, v = .slice A list.length c ∧ Row kHold w' (fun k => (v.ownBlock = some k ∨ ok k) ∧ k < w'.heap.size) A list.length (sortH list)) ∧ w.grownBy w' v.ownBlock := by
  obtain ⟨cs, ho, hr⟩ := h
  rcases ho.2 with ⟨rfl, hn0⟩ | ⟨g, cap, cur, rfl, hb, hg, hnc, hcm, hcs, htake⟩
  · obtain rfl : list = [] := List.eq_nil_of_length_eq_zero hn0
    refine (AnyF.slices_SortFunc_none (P := Try.prog) (ρ := Try.sortH_ren) { Try.sortH with } none 0 (.func (.func 72) #[] #[]) w).mono ?_
    rintro e w' ⟨rfl, rfl⟩
    exact ⟨rfl, ⟨none, 0, rfl, by rw [show sortH [] = [] by simp [sortH]]; exact Row.nil _ _ _ _⟩, ⟨rfl, rfl, rfl, Nat.le_refl _, fun _ _ _ => rfl⟩⟩
  · have hgl : g < w.heap.size := blk_lt hg
    obtain ⟨d, hd1, hd2, hd3, hd4⟩ := rawH hr
    have hdn : d.size = list.length := by rw [← hd1]; simp
    have hcsl : cs.length = list.length * 4 := ho.1
    have hH : HoldsK encH 4 w g 0 d := by
      intro t ht
      rw [size_flatK] at ht
      rw [get_flatK _ _ _ _ ht]
      have hj : t / 4 < d.size := by omega
      have e1 := hd3 (t / 4) hj
      have e2 : cur.toList[t]? = some (encH d[t / 4]!)[t % 4]! := by
        have e3 : cs[t]? = some (encH d[t / 4]!)[t % 4]! := by
          have hl : t % 4 < (encH d[t / 4]!).length := by show _ < 4; omega
          have e4 : (encH d[t / 4]!)[t % 4]? = cs[t]? := by
            rw [← e1, List.getElem?_take, if_pos (by omega), List.getElem?_drop]
            congr 1
            omega
          rw [← e4, getElem!_pos (encH d[t / 4]!) (t % 4) hl, List.getElem?_eq_getElem hl]
        rw [← htake, List.getElem?_take] at e3
        split at e3
        · exact e3
        · cases e3
      refine ⟨?_, blk_frozen hg⟩
      rw [cell_of_row _ _ _ _ _ _ hg]
      rw [Nat.zero_add]
      exact (Array.getElem?_toList).symm.trans e2
    have eg : ∀ args w, (callFunc 72 args).run Try.prog w = .ok (.enter 72 args) w := enters_of Try.func72 (by kernel_rfl) rfl
    have hcon := AnyQ.slices_SortFunc Try.sortH 4 Try.isAgg78 Try.sizeOf78 encH (fun _ => rfl) (fun x v hv => by simp [encH] at hv; rcases hv with rfl | rfl | rfl | rfl <;> rfl) cfH swoH 72 #[] g 0 cap d w eg (fun _ _ _ _ x y => closeH x y _) hH hgl (by omega)
    rw [hdn] at hcon
    refine hcon.mono ?_
    rintro e w' ⟨rfl, d', n, os, hp, hs, rfl⟩
    have hsz : d'.size = d.size := by have := hp.1; omega
    have hperm : d'.toList.Perm d.toList := by
      have := hp.2.2
      rwa [show d'.extract 0 list.length = d' by rw [← hdn, ← hsz]; simp, show d.extract 0 list.length = d by rw [← hdn]; simp] at this
    have hlp : (d'.toList.map (·.1)).Perm list := by rw [← hd1]; exact hperm.map _
    have hls : (d'.toList.map (·.1)).Pairwise fun a b => a.dev ≤ b.dev := by
      rw [List.pairwise_map, List.pairwise_iff_getElem]
      intro i j hi hj hij
      have hj' : j < d'.size := by simpa using hj
      have hi' : i < d'.size := by omega
      have := hs i j (Nat.zero_le _) hij (by omega)
      rw [ltH, getElem!_pos d' j hj', getElem!_pos d' i hi'] at this
      simp only [decide_eq_false_iff_not, Int.not_lt] at this
      simpa using this
    have hse := sortH_unique list _ hd hlp hls
    have hH' := holdsK_sortWorldK_c encH 4 w g 0 d d' n os hH hgl hsz
    have hss := size_sortWorldK_c encH 4 w g 0 n d' os
    have hblk : ∀ k, k < w.heap.size → k ≠ g → (sortWorldK encH 4 w g 0 n d' os).heap[k]? = w.heap[k]? := by
      intro k hk hne
      unfold sortWorldK
      rw [heap_grow_old _ _ (by rw [size_putRowK]; exact hk)]
      simp [putRowK, putRow, mapBlock, Array.getElem?_modify, Ne.symm hne, Sort.ahead]
    refine ⟨rfl, ⟨_, _, rfl, ?_⟩, ⟨rfl, rfl, rfl, hss, fun k hk hne => hblk k hk (fun e => hne (by rw [e]; rfl))⟩⟩
    rw [← hse]
    refine ⟨by rw [List.length_map, Array.length_toList, hsz, hdn], by omega, fun hn0 => ⟨_, rfl, ⟨.inl rfl, Nat.lt_of_lt_of_le hgl hss⟩, Nat.lt_of_lt_of_le hgl hss, fun j x hx => ?_⟩⟩
    rw [List.getElem?_map] at hx
    obtain ⟨r, hr1, hr2⟩ := Option.map_eq_some_iff.1 hx
    have hj : j < d'.size := by have := (List.getElem?_eq_some_iff.1 hr1).1; simpa using this
    have hr3 : d'[j]! = r := by
      rw [getElem!_pos d' j hj]
      have := (List.getElem?_eq_some_iff.1 hr1).2
      simpa using this
    have hr4 : r ∈ d'.toList := List.mem_of_getElem? hr1
    obtain ⟨k1, k2, k3, k4⟩ := hd4 r (hperm.mem_iff.1 hr4)
    subst hr2
    have mv : ∀ k, (ok k ∧ (Value.slice (some ⟨g, 0, none⟩) list.length cap).ownBlock ≠ some k) ∧ k < w.heap.size → (sortWorldK encH 4 w g 0 n d' os).heap[k]? = w.heap[k]? := fun k hk => hblk k hk.2 (fun e => hk.1.2 (by rw [e]; rfl))
    refine ⟨encH r, kHold_mk k1 ((k2.bound.move mv).mono fun k hk => ⟨.inr hk.1.1, Nat.lt_of_lt_of_le hk.2 hss⟩) k3 ((k4.bound.move mv).mono fun k hk => ⟨.inr hk.1.1, Nat.lt_of_lt_of_le hk.2 hss⟩), fun i u hu => ?_⟩
    have hi : i < 4 := (List.getElem?_eq_some_iff.1 hu).1
    have hc := (hH'.cell (i := j) (c := i) hj hi).1
    rw [hr3, getElem!_pos (encH r) i (show i < (encH r).length from hi), (List.getElem?_eq_some_iff.1 hu).2] at hc
    rw [add_lit0, ← hc]
    congr 2
    show j * 4 + i = 0 + j * 4 + i
    omega
end Go.Proofs.Ytlinhckgdfhppaa
