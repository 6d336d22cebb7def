/- A part of the proof: what the functions do, and plain laws. -/
import Derived.Test.YtlinhckgdfhppaaL
import Derived.Deep.DeepCutAuto
import Derived.Deep.RegionWith
set_option linter.unusedSimpArgs false
set_option linter.unusedVariables false
namespace Go.Proofs.Ytlinhckgdfhppaa
open Go Go.RowKit Go.Proofs.YtlinhckgdfhppaaK Go.Sort

/-- A holding with the places of its two lists. -/
abbrev RawH := Hold × (Option Addr × Nat) × (Option Addr × Nat)
instance : Inhabited Hold := ⟨⟨0, [], [], false⟩⟩
def encH (r : RawH) : List Value := [.int .i64 r.1.dev, .slice r.2.1.1 r.1.pieces.length r.2.1.2, .slice r.2.2.1 r.1.shares.length r.2.2.2, .bool r.1.index]
def cfH (x y : RawH) : Int := Lib.compareInt x.1.dev y.1.dev
theorem ltH (x y : RawH) : ltOf cfH x y = decide (x.1.dev < y.1.dev) := by
  unfold ltOf cfH Lib.compareInt
  by_cases h1 : x.1.dev < y.1.dev
  · simp [h1]
  · by_cases h2 : y.1.dev < x.1.dev <;> simp [h1, h2]
theorem swoH : SWO (ltOf cfH) where
  irrefl x := by rw [ltH]; simp
  trans x y z h1 h2 := by rw [ltH] at *; simp at *; omega
  ntrans x y z h1 h2 := by rw [ltH] at *; simp at *; omega
/-- Holdings sorted by device. -/
def sortH (list : List Hold) : List Hold := list.mergeSort fun a b => decide (a.dev ≤ b.dev)
theorem sortH_perm (list : List Hold) : (sortH list).Perm list := List.mergeSort_perm _ _
theorem sortH_sorted (list : List Hold) : (sortH list).Pairwise fun a b => a.dev ≤ b.dev := by
  have := List.pairwise_mergeSort (le := fun a b : Hold => decide (a.dev ≤ b.dev)) (by intro a b c h1 h2; simp at *; omega) (by intro a b; simp; omega) list
  exact this.imp fun h => by simpa using h
theorem inj_of_nodup {α β : Type} {f : α → β} : ∀ {l : List α}, (l.map f).Nodup → ∀ a ∈ l, ∀ b ∈ l, f a = f b → a = b
  | [], _, a, ha, _, _, _ => by cases ha
  | x :: l, h, a, ha, b, hb, e => by
    rw [List.map_cons, List.nodup_cons] at h
    rcases List.mem_cons.1 ha with ea | ha' <;> rcases List.mem_cons.1 hb with eb | hb'
    · rw [ea, eb]
    · exact absurd (by rw [← ea, e]; exact List.mem_map_of_mem hb') h.1
    · exact absurd (by rw [← eb, ← e]; exact List.mem_map_of_mem ha') h.1
    · exact inj_of_nodup h.2 a ha' b hb' e
theorem sortH_unique (list l' : List Hold) (hd : (list.map (·.dev)).Nodup) (hp : l'.Perm list) (hs : l'.Pairwise fun a b => a.dev ≤ b.dev) : l' = sortH list :=
  List.Perm.eq_of_pairwise (le := fun a b => a.dev ≤ b.dev) (fun a b ha hb h1 h2 => inj_of_nodup hd a (hp.mem_iff.1 ha) b ((sortH_perm list).mem_iff.1 hb) (by omega)) hs (sortH_sorted list) (hp.trans (sortH_perm list).symm)

set_option maxHeartbeats 1000000 in
theorem closeH (x y : RawH) (W : World) : Calls Try.prog 72 #[.agg (encH x).toArray, .agg (encH y).toArray] W fun e w' => e = .returned (.int .i64 (cfH x y)) ∧ ∃ q os', w' = grow (W.drewN q) os' := by
  have hcon := fun W' => AnyG.cmp_Compare_int Try.cmpI x.1.dev y.1.dev W'
  change ∀ W', Calls Try.prog 64 _ _ _ at hcon
  obtain ⟨r, hr⟩ : ∃ r, r = cfH x y := ⟨_, rfl⟩
  rw [← hr]
  rw [show Lib.compareInt x.1.dev y.1.dev = r from hr.symm] at hcon
  unfold encH
  clear hr
  go_enter Try.func72, Try.ntmps72
  go_wp2_with (go_at_call 64; refine (hcon _).mono ?_; rintro e w' ⟨rfl, rfl⟩)
  go_ret
  exact ⟨rfl, 0, _, by rw [alloc_eq_grow, alloc_eq_grow, grow_grow]; rfl⟩

/-- The raw holdings of a row of the call's own. -/
theorem rawH {w : World} {ok : Nat → Prop} {cs : List Value} {list : List Hold} (h : Elems kHold w ok list cs) : ∃ d : Array RawH, d.toList.map (·.1) = list ∧ cs.length = d.size * 4 ∧
    (∀ j, j < d.size → (cs.drop (j * 4)).take 4 = encH d[j]!) ∧ ∀ r ∈ d.toList, r.1.pieces.length ≤ r.2.1.2 ∧ Row kPiece w ok r.2.1.1 r.1.pieces.length r.1.pieces ∧ r.1.shares.length ≤ r.2.2.2 ∧ Row (Kn.int .i64) w ok r.2.2.1 r.1.shares.length r.1.shares := by
  have hex : ∀ j : Fin list.length, ∃ r : RawH, r.1 = list[j] ∧ (cs.drop (j.1 * 4)).take 4 = encH r ∧ r.1.pieces.length ≤ r.2.1.2 ∧ Row kPiece w ok r.2.1.1 r.1.pieces.length r.1.pieces ∧ r.1.shares.length ≤ r.2.2.2 ∧ Row (Kn.int .i64) w ok r.2.2.1 r.1.shares.length r.1.shares := by
    intro j
    have hk := h.2 j.1 list[j] (List.getElem?_eq_getElem j.2)
    obtain ⟨A1, c1, A2, c2, e, h1, h2, h3, h4⟩ := kHold_open hk
    exact ⟨(list[j], (A1, c1), (A2, c2)), rfl, e, h1, h2, h3, h4⟩
  obtain ⟨f, hf⟩ := Classical.axiomOfChoice hex
  refine ⟨Array.ofFn f, ?_, ?_, ?_, ?_⟩
  · rw [Array.toList_ofFn]
    refine List.ext_getElem (by simp) fun i h1 h2 => ?_
    simp [(hf ⟨i, h2⟩).1]
  · rw [h.1, Array.size_ofFn]; rfl
  · intro j hj
    have hj' : j < list.length := by simpa using hj
    rw [getElem!_pos (Array.ofFn f) j hj, Array.getElem_ofFn]
    exact (hf ⟨j, hj'⟩).2.1
  · intro r hr
    rw [Array.toList_ofFn, List.mem_ofFn] at hr
    obtain ⟨i, rfl⟩ := hr
    exact (hf i).2.2

set_option maxHeartbeats 1000000 in
theorem sortHold_any (w : World) (base : Nat) (v : Value) (list : List Hold) (ok : Nat → Prop) (h : OwnK ok kHold 78 w base v list) (hn : list.length ≤ 64) (hd : (list.map (·.dev)).Nodup) :
    Calls Try.prog 71 #[v, .func (.func 72) #[] #[]] w fun e w' => e = .returned (.tuple #[]) ∧ (∃ A c, v = .slice A list.length c ∧ Row kHold w' (fun k => (v.ownBlock = some k ∨ ok k) ∧ k < w'.heap.size) A list.length (sortH list)) ∧ w.grownBy w' v.ownBlock := by
  obtain ⟨cs, ho, hr⟩ := h
  rcases ho.2 with ⟨rfl, hn0⟩ | ⟨g, cap, cur, rfl, hb, hg, hnc, hcm, hcs, htake⟩
  · obtain rfl : list = [] := List.eq_nil_of_length_eq_zero hn0
    refine (AnyF.slices_SortFunc_none (P := Try.prog) (ρ := Try.sortH_ren) { Try.sortH with } none 0 (.func (.func 72) #[] #[]) w).mono ?_
    rintro e w' ⟨rfl, rfl⟩
    exact ⟨rfl, ⟨none, 0, rfl, by rw [show sortH [] = [] by simp [sortH]]; exact Row.nil _ _ _ _⟩, ⟨rfl, rfl, rfl, Nat.le_refl _, fun _ _ _ => rfl⟩⟩
  · have hgl : g < w.heap.size := blk_lt hg
    obtain ⟨d, hd1, hd2, hd3, hd4⟩ := rawH hr
    have hdn : d.size = list.length := by rw [← hd1]; simp
    have hcsl : cs.length = list.length * 4 := ho.1
    have hH : HoldsK encH 4 w g 0 d := by
      intro t ht
      rw [size_flatK] at ht
      rw [get_flatK _ _ _ _ ht]
      have hj : t / 4 < d.size := by omega
      have e1 := hd3 (t / 4) hj
      have e2 : cur.toList[t]? = some (encH d[t / 4]!)[t % 4]! := by
        have e3 : cs[t]? = some (encH d[t / 4]!)[t % 4]! := by
          have hl : t % 4 < (encH d[t / 4]!).length := by show _ < 4; omega
          have e4 : (encH d[t / 4]!)[t % 4]? = cs[t]? := by
            rw [← e1, List.getElem?_take, if_pos (by omega), List.getElem?_drop]
            congr 1
            omega
          rw [← e4, getElem!_pos (encH d[t / 4]!) (t % 4) hl, List.getElem?_eq_getElem hl]
        rw [← htake, List.getElem?_take] at e3
        split at e3
        · exact e3
        · cases e3
      refine ⟨?_, blk_frozen hg⟩
      rw [cell_of_row _ _ _ _ _ _ hg]
      rw [Nat.zero_add]
      exact (Array.getElem?_toList).symm.trans e2
    have eg : ∀ args w, (callFunc 72 args).run Try.prog w = .ok (.enter 72 args) w := enters_of Try.func72 (by kernel_rfl) rfl
    have hcon := AnyQ.slices_SortFunc Try.sortH 4 Try.isAgg78 Try.sizeOf78 encH (fun _ => rfl) (fun x v hv => by simp [encH] at hv; rcases hv with rfl | rfl | rfl | rfl <;> rfl) cfH swoH 72 #[] g 0 cap d w eg (fun _ _ _ _ x y => closeH x y _) hH hgl (by omega)
    rw [hdn] at hcon
    refine hcon.mono ?_
    rintro e w' ⟨rfl, d', n, os, hp, hs, rfl⟩
    have hsz : d'.size = d.size := by have := hp.1; omega
    have hperm : d'.toList.Perm d.toList := by
      have := hp.2.2
      rwa [show d'.extract 0 list.length = d' by rw [← hdn, ← hsz]; simp, show d.extract 0 list.length = d by rw [← hdn]; simp] at this
    have hlp : (d'.toList.map (·.1)).Perm list := by rw [← hd1]; exact hperm.map _
    have hls : (d'.toList.map (·.1)).Pairwise fun a b => a.dev ≤ b.dev := by
      rw [List.pairwise_map, List.pairwise_iff_getElem]
      intro i j hi hj hij
      have hj' : j < d'.size := by simpa using hj
      have hi' : i < d'.size := by omega
      have := hs i j (Nat.zero_le _) hij (by omega)
      rw [ltH, getElem!_pos d' j hj', getElem!_pos d' i hi'] at this
      simp only [decide_eq_false_iff_not, Int.not_lt] at this
      simpa using this
    have hse := sortH_unique list _ hd hlp hls
    have hH' := holdsK_sortWorldK_c encH 4 w g 0 d d' n os hH hgl hsz
    have hss := size_sortWorldK_c encH 4 w g 0 n d' os
    have hblk : ∀ k, k < w.heap.size → k ≠ g → (sortWorldK encH 4 w g 0 n d' os).heap[k]? = w.heap[k]? := by
      intro k hk hne
      unfold sortWorldK
      rw [heap_grow_old _ _ (by rw [size_putRowK]; exact hk)]
      simp [putRowK, putRow, mapBlock, Array.getElem?_modify, Ne.symm hne, Sort.ahead]
    refine ⟨rfl, ⟨_, _, rfl, ?_⟩, ⟨rfl, rfl, rfl, hss, fun k hk hne => hblk k hk (fun e => hne (by rw [e]; rfl))⟩⟩
    rw [← hse]
    refine ⟨by rw [List.length_map, Array.length_toList, hsz, hdn], by omega, fun hn0 => ⟨_, rfl, ⟨.inl rfl, Nat.lt_of_lt_of_le hgl hss⟩, Nat.lt_of_lt_of_le hgl hss, fun j x hx => ?_⟩⟩
    rw [List.getElem?_map] at hx
    obtain ⟨r, hr1, hr2⟩ := Option.map_eq_some_iff.1 hx
    have hj : j < d'.size := by have := (List.getElem?_eq_some_iff.1 hr1).1; simpa using this
    have hr3 : d'[j]! = r := by
      rw [getElem!_pos d' j hj]
      have := (List.getElem?_eq_some_iff.1 hr1).2
      simpa using this
    have hr4 : r ∈ d'.toList := List.mem_of_getElem? hr1
    obtain ⟨k1, k2, k3, k4⟩ := hd4 r (hperm.mem_iff.1 hr4)
    subst hr2
    have mv : ∀ k, (ok k ∧ (Value.slice (some ⟨g, 0, none⟩) list.length cap).ownBlock ≠ some k) ∧ k < w.heap.size → (sortWorldK encH 4 w g 0 n d' os).heap[k]? = w.heap[k]? := fun k hk => hblk k hk.2 (fun e => hk.1.2 (by rw [e]; rfl))
    refine ⟨encH r, kHold_mk k1 ((k2.bound.move mv).mono fun k hk => ⟨.inr hk.1.1, Nat.lt_of_lt_of_le hk.2 hss⟩) k3 ((k4.bound.move mv).mono fun k hk => ⟨.inr hk.1.1, Nat.lt_of_lt_of_le hk.2 hss⟩), fun i u hu => ?_⟩
    have hi : i < 4 := (List.getElem?_eq_some_iff.1 hu).1
    have hc := (hH'.cell (i := j) (c := i) hj hi).1
    rw [hr3, getElem!_pos (encH r) i (show i < (encH r).length from hi), (List.getElem?_eq_some_iff.1 hu).2] at hc
    rw [add_lit0, ← hc]
    congr 2
    show j * 4 + i = 0 + j * 4 + i
    omega
end Go.Proofs.Ytlinhckgdfhppaa
namespace Go.Proofs.Ytlinhckgdfhppaa
open Go Go.RowKit Go.Proofs.YtlinhckgdfhppaaK
open Go.ChangeMaps (setBlock)

/-- The need map: the last need of a name among the first k. -/
def needTo (needs : List Need) : Nat → ByteArray → Option Nat
  | 0 => fun _ => none
  | k + 1 => upd (needTo needs k) (pg needs k).1 k
theorem needTo_lt (needs : List Need) : ∀ (k : Nat) (s : ByteArray) (i : Nat), needTo needs k s = some i → i < k
  | 0, s, i, h => by cases h
  | k + 1, s, i, h => by
    by_cases e : s = (pg needs k).1
    · rw [needTo, upd, if_pos e] at h
      cases h
      omega
    · rw [needTo, upd, if_neg e] at h
      have := needTo_lt needs k s i h
      omega
/-- The cells of a problem. -/
abbrev probCells (g : Goal) (A1 : Option Addr) (c1 : Nat) (A2 : Option Addr) (c2 : Nat) (A3 : Option Addr) (c3 : Nat) (v : Value) (mb : Nat) (B : Option Addr) (n c : Nat) (f : Nat → BitVec 64) (ix : Bool) : Array Value :=
  #[.slice A1 g.needs.length c1, .int .i64 g.thr, .bool g.index, .slice A2 g.pieces.length c2, .slice A3 g.shares.length c3, v, .map (some mb), .slice B n c, .int .u64 ((f 0).toNat : Int), .int .u64 ((f 1).toNat : Int), .int .u64 ((f 2).toNat : Int), .int .u64 ((f 3).toNat : Int), .bool ix]
def zeroW : Nat → BitVec 64 := fun _ => 0
/-- The new problem as it is laid. -/
structure NP (n0 : Nat) (W0 W : World) (pb mb : Nat) (v : Value) (cs : Array Value) (list : List Hold) : Prop where
  cells : W.heap[pb]? = some (.cells cs 96 (0, 0))
  hmap : Go.Proofs.YtlinhckgdfhppaaK.MapAt W mb Value.string eIdx (fun _ => none)
  own : OwnK (fun k => k < n0) kHold 78 W W0.heap.size v list
  p1 : W0.heap.size ≤ pb
  m1 : W0.heap.size ≤ mb
  ne : pb ≠ mb
  np : v.ownBlock ≠ some pb
  nm : v.ownBlock ≠ some mb
  below : Below W0.heap.size W0 W
theorem np1 {n0 : Nat} {W0 w1 : World} {v : Value} {list : List Hold} (h : OwnK (fun k => k < n0) kHold 78 w1 W0.heap.size v list) (hb : Below W0.heap.size W0.drew w1) (cs : Array Value) : NP n0 W0 ((w1.alloc (.map #[] 0)).alloc (.cells cs 96)) (w1.heap.size + 1) w1.heap.size v cs list := by
  have hs : W0.heap.size ≤ w1.heap.size := hb.size
  have b1 : Below w1.heap.size w1 (w1.alloc (.map #[] 0)) := (Below.refl _ _).alloc (Nat.le_refl _) _
  have hs1 : (w1.alloc (.map #[] 0)).heap.size = w1.heap.size + 1 := by simp
  have b2 : Below (w1.heap.size + 1) (w1.alloc (.map #[] 0)) ((w1.alloc (.map #[] 0)).alloc (.cells cs 96)) := (Below.refl _ _).alloc (by omega) _
  refine ⟨?_, (Go.Proofs.YtlinhckgdfhppaaK.MapAt.made w1 _ _).below b2 (by omega), (h.below b1).below (by rw [hs1]; exact b2), by omega, hs, by omega, fun e => by have := (h.lt _ e).2; omega, fun e => by have := (h.lt _ e).2; omega, ?_⟩
  · rw [← hs1]
    exact heap_alloc_new _ _
  · exact ⟨hb.os, hb.tape, hb.output, by simp; omega, fun k hk => (b2.block k (by omega)).trans ((b1.block k (by omega)).trans (hb.block k hk))⟩
theorem np2 {n0 : Nat} {W0 w1 : World} {v : Value} {list : List Hold} (h : OwnK (fun k => k < n0) kHold 78 w1 (W0.heap.size + 1) v list) (hb : Below (W0.heap.size + 1) (W0.alloc (.map #[] 0)).drew w1) (cs : Array Value) : NP n0 W0 (w1.alloc (.cells cs 96)) w1.heap.size W0.heap.size v cs list := by
  have hs1 : (W0.alloc (.map #[] 0)).heap.size = W0.heap.size + 1 := by simp
  have hs : W0.heap.size + 1 ≤ w1.heap.size := by rw [← hs1]; exact hb.size
  have b0 : Below W0.heap.size W0 (W0.alloc (.map #[] 0)) := (Below.refl _ _).alloc (Nat.le_refl _) _
  have b2 : Below w1.heap.size w1 (w1.alloc (.cells cs 96)) := (Below.refl _ _).alloc (Nat.le_refl _) _
  refine ⟨heap_alloc_new _ _, (Go.Proofs.YtlinhckgdfhppaaK.MapAt.made W0 _ _).move ?_, (h.below b2).lower (by omega), by omega, Nat.le_refl _, by omega, fun e => by have := (h.lt _ e).2; omega, fun e => by have := (h.lt _ e).1; omega, ?_⟩
  · exact (b2.block _ (by omega)).trans (hb.block _ (by omega))
  · exact ⟨hb.os, hb.tape, hb.output, by simp; omega, fun k hk => (b2.block k (by omega)).trans ((hb.block k (by omega)).trans (b0.block k hk))⟩

/-- Six stores into one block, then a block laid. -/
theorem np8 {wr : World} {pb : Nat} {cs : Array Value} {t : TypeId} (HC : wr.heap[pb]? = some (.cells cs t (0, 0))) (a b c d e f : Value) (o : Obj) :
    let W := (((((((wr.setCell ⟨pb, 7, none⟩ a).setCell ⟨pb, 8, none⟩ b).setCell ⟨pb, 9, none⟩ c).setCell ⟨pb, 10, none⟩ d).setCell ⟨pb, 11, none⟩ e).setCell ⟨pb, 12, none⟩ f).alloc o).drew
    W.heap[pb]? = some (.cells ((((((cs.setIfInBounds 7 a).setIfInBounds 8 b).setIfInBounds 9 c).setIfInBounds 10 d).setIfInBounds 11 e).setIfInBounds 12 f) t (0, 0)) ∧ W.heap[wr.heap.size]? = some o ∧ wr.grownBy W (some pb) := by
  intro W
  have hl := blk_lt HC
  have g1 := grownBy_trans (grownBy_trans (grownBy_trans (grownBy_trans (grownBy_trans (grownBy_set wr ⟨pb, 7, none⟩ a) (grownBy_set _ ⟨pb, 8, none⟩ b)) (grownBy_set _ ⟨pb, 9, none⟩ c)) (grownBy_set _ ⟨pb, 10, none⟩ d)) (grownBy_set _ ⟨pb, 11, none⟩ e)) (grownBy_set _ ⟨pb, 12, none⟩ f)
  have b1 := blk_set (i := 12) (blk_set (i := 11) (blk_set (i := 10) (blk_set (i := 9) (blk_set (i := 8) (blk_set (i := 7) HC a) b) c) d) e) f
  obtain ⟨W6, hW6⟩ : ∃ W6 : World, W6 = ((((((wr.setCell ⟨pb, 7, none⟩ a).setCell ⟨pb, 8, none⟩ b).setCell ⟨pb, 9, none⟩ c).setCell ⟨pb, 10, none⟩ d).setCell ⟨pb, 11, none⟩ e).setCell ⟨pb, 12, none⟩ f) := ⟨_, rfl⟩
  have hs : W6.heap.size = wr.heap.size := by rw [hW6]; simp
  have e1 : W = (W6.alloc o).drew := by rw [hW6]
  rw [e1]
  rw [← hW6] at g1 b1
  refine ⟨(Below.heap_alloc W6 _ _ (by omega)).trans b1, by rw [← hs]; exact heap_alloc_new W6 o, g1.os, g1.tape, g1.output, (show wr.heap.size ≤ (W6.alloc o).heap.size by simp; omega), fun k hk hne => (Below.heap_alloc W6 _ _ (by omega)).trans (g1.block k hk hne)⟩

set_option maxRecDepth 100000 in
set_option maxHeartbeats 1500000 in
theorem newProblem_any (g : Goal) (A1 : Option Addr) (c1 : Nat) (A2 : Option Addr) (c2 : Nat) (A3 : Option Addr) (c3 : Nat) (A4 : Option Addr) (c4 : Nat) (list : List Hold) (w : World)
    (hg : GoalIn w (fun k => k < w.heap.size) g A1 c1 A2 c2 A3 c3) (hl : Row kHold w (fun k => k < w.heap.size) A4 list.length list)
    (hn : g.needs.length ≤ 64) (hnl : list.length ≤ 12) (hd : (list.map (·.dev)).Nodup) (hp : ∀ p ∈ g.pieces, 0 ≤ p.2 ∧ p.2 < 16) (hx : ∀ x ∈ g.shares, 1 ≤ x ∧ x ≤ 255) :
    Calls Try.prog 42 #[.agg (goalCells g A1 c1 A2 c2 A3 c3), .slice A4 list.length c4] w fun e w' => ∃ pb mb A cl B c, e = .returned (.pointer (some ⟨pb, 0, none⟩)) ∧
      ProbIn w' pb mb g.needs g.thr A1 c1 (needTo g.needs g.needs.length) A list.length cl (sortH list) B c (giveM (needTo g.needs g.needs.length) (List.replicate g.needs.length 0) g.pieces) (addWs zeroW g.shares) (!g.index) ∧ Below w.heap.size w w' := by
  have HG := As.mk hg
  have HL := As.mk hl
  have HP := As.mk hp
  have HX := As.mk hx
  have HD := As.mk hd
  have CL : As (∀ W : World, Below w.heap.size w W → Calls Try.prog 70 #[.slice A4 list.length c4] W fun e w' => ∃ Av cv, e = .returned (.slice Av list.length cv) ∧ OwnK (fun k => k < w.heap.size) kHold 78 w' W.heap.size (.slice Av list.length cv) list ∧ Below W.heap.size W w') := ⟨fun W hW => (cloneHold_any A4 list.length c4 _ list W (HL.o.below hW) (by omega)).mono fun e w' ⟨v, he, ho, hb⟩ => by
    obtain ⟨Av, cv, ev, _, _⟩ := ho.shape
    subst ev
    exact ⟨Av, cv, he, ho, hb⟩⟩
  clear hg hl hp hx hd
  have hmm := @run_makeMap Try.prog
  go_enter Try.func42, Try.ntmps42
  go_upto_region 1 with (fail)
  obtain ⟨W0, hW0⟩ : ∃ W0 : World, W0 = w.alloc (.cells (goalCells g A1 c1 A2 c2 A3 c3) 26) := ⟨_, rfl⟩
  rw [← hW0]
  have X0 : As (W0.heap[w.heap.size]? = some (.cells (goalCells g A1 c1 A2 c2 A3 c3) 26 (0, 0))) := ⟨by rw [hW0]; exact heap_alloc_new w _⟩
  have HB0 : As (Below w.heap.size w W0) := ⟨by rw [hW0]; exact (Below.refl w.heap.size w).alloc (Nat.le_refl _) _⟩
  have hs0 : W0.heap.size = w.heap.size + 1 := by rw [hW0]; simp
  clear hW0
  go_cut [5] (fun s5 wx => ∃ pb mb Av cv, s5 = .pointer (some ⟨pb, 0, none⟩) ∧ As (NP w.heap.size W0 wx pb mb (.slice Av list.length cv) (probCells g A1 c1 A2 c2 A3 c3 (.slice Av list.length cv) mb none 0 0 zeroW false) list))
  case first =>
    have a0 : W0.cell? ⟨w.heap.size, 0, none⟩ = some (.slice A1 g.needs.length c1) := (cell_of_row _ _ 0 _ _ _ X0.o).trans rfl
    have a1 : W0.cell? ⟨w.heap.size, 1, none⟩ = some (.int .i64 g.thr) := (cell_of_row _ _ 1 _ _ _ X0.o).trans rfl
    have a2 : W0.cell? ⟨w.heap.size, 2, none⟩ = some (.bool g.index) := (cell_of_row _ _ 2 _ _ _ X0.o).trans rfl
    have a3 : W0.cell? ⟨w.heap.size, 3, none⟩ = some (.slice A2 g.pieces.length c2) := (cell_of_row _ _ 3 _ _ _ X0.o).trans rfl
    have a4 : W0.cell? ⟨w.heap.size, 4, none⟩ = some (.slice A3 g.shares.length c3) := (cell_of_row _ _ 4 _ _ _ X0.o).trans rfl
    have hlw := blk_lt X0.o
    have CL2 : As (∀ W : World, Below W0.heap.size W0 W → Calls Try.prog 70 #[.slice A4 list.length c4] W fun e w' => ∃ Av cv, e = .returned (.slice Av list.length cv) ∧ OwnK (fun k => k < w.heap.size) kHold 78 w' W.heap.size (.slice Av list.length cv) list ∧ Below W.heap.size W w' ∧
      w'.cell? ⟨w.heap.size, 0, none⟩ = some (.slice A1 g.needs.length c1) ∧ w'.cell? ⟨w.heap.size, 1, none⟩ = some (.int .i64 g.thr) ∧ w'.cell? ⟨w.heap.size, 2, none⟩ = some (.bool g.index) ∧ w'.cell? ⟨w.heap.size, 3, none⟩ = some (.slice A2 g.pieces.length c2) ∧ w'.cell? ⟨w.heap.size, 4, none⟩ = some (.slice A3 g.shares.length c3) ∧ w.heap.size < w'.heap.size) := ⟨fun W hW => (CL.o W ((HB0.o.trans (hW.mono (by omega))))).mono fun e w' ⟨Av, cv, he, ho, hb⟩ => by
        have hc : ∀ i, w'.cell? ⟨w.heap.size, i, none⟩ = W0.cell? ⟨w.heap.size, i, none⟩ := fun i => (hb.cell (p := ⟨w.heap.size, i, none⟩) (Nat.lt_of_lt_of_le hlw hW.size)).trans (hW.cell (p := ⟨w.heap.size, i, none⟩) hlw)
        exact ⟨Av, cv, he, ho, hb, (hc 0).trans a0, (hc 1).trans a1, (hc 2).trans a2, (hc 3).trans a3, (hc 4).trans a4, Nat.lt_of_lt_of_le hlw (Nat.le_trans hW.size hb.size)⟩⟩
    go_region_with (go_at_call 70; refine (CL2.o _ ?hbb).mono ?_; (case hbb => first | exact below_drewN (Below.refl _ W0) 1 | exact below_drewN ((Below.refl _ W0).alloc (Nat.le_refl _) _) 1); rintro e w1 ⟨Av, cv, rfl, hown, hb1, b0, b1, b2, b3, b4, bl⟩)
    all_goals (go_wp2_with fail; go_meet; first
      | (refine ⟨w1.heap.size + 1, w1.heap.size, Av, cv, rfl, ⟨?_⟩⟩; exact np1 (W0 := W0) hown hb1 _)
      | (rw [show w.heap.size + 1 = W0.heap.size from hs0.symm]; exact ⟨_, _, Av, cv, rfl, ⟨np2 (W0 := W0) (by simpa using hown) (by simpa using hb1) _⟩⟩))
  case rest =>
    obtain ⟨pb, mb, Av, cv, rfl, HNP⟩ := hcut
    have hszc : w.heap.size + 1 ≤ wc.heap.size := by have := HNP.o.below.size; omega
    have SORT := As.mk (sortHold_any wc W0.heap.size (.slice Av list.length cv) list _ HNP.o.own (by omega) HD.o)
    have d5 : wc.cell? ⟨pb, 5, none⟩ = some (.slice Av list.length cv) := (cell_of_row _ _ 5 _ _ _ HNP.o.cells).trans rfl
    have hpbl := blk_lt HNP.o.cells
    have hmbl := HNP.o.hmap.lt
    have hp1 := HNP.o.p1
    have hm1 := HNP.o.m1
    have hpm := HNP.o.ne
    have hnp := HNP.o.np
    have hnm := HNP.o.nm
    go_wp2_with (go_at_call 71; fail)
    refine SORT.o.mono ?_
    rintro e w2 ⟨rfl, ⟨Ah, ch, hsl, hrow⟩, hg2⟩
    have HRW := As.mk hrow
    have HC2 := As.mk ((hg2.block pb hpbl (fun e => HNP.o.np e.symm)).trans HNP.o.cells)
    have HM2 := As.mk (HNP.o.hmap.move (hg2.block mb hmbl (fun e => HNP.o.nm e.symm)))
    have hvl : ∀ k, (Value.slice Av list.length cv).ownBlock = some k → W0.heap.size ≤ k := fun k e => (HNP.o.own.lt k e).1
    have HB2 : As (Below W0.heap.size W0 w2) := ⟨⟨hg2.os.trans HNP.o.below.os, hg2.tape.trans HNP.o.below.tape, hg2.output.trans HNP.o.below.output, Nat.le_trans HNP.o.below.size hg2.size, fun k hk => (hg2.block k (Nat.lt_of_lt_of_le hk HNP.o.below.size) (fun e => by have := hvl k e.symm; omega)).trans (HNP.o.below.block k hk)⟩⟩
    have hsz2 := hg2.size
    have HSL := As.mk hsl
    clear hrow hg2 hvl HNP SORT d5 hsl CL
    have e0 : w2.cell? ⟨w.heap.size, 0, none⟩ = some (.slice A1 g.needs.length c1) := (HB2.o.cell (p := ⟨w.heap.size, 0, none⟩) (show w.heap.size < W0.heap.size by omega)).trans ((cell_of_row _ _ 0 _ _ _ X0.o).trans rfl)
    go_wp2
    go_loopw [22] (fun i' wr => ∃ k : Nat, k ≤ g.needs.length ∧ i' = .int .i64 k ∧ As (Go.Proofs.YtlinhckgdfhppaaK.MapAt wr mb Value.string eIdx (needTo g.needs k)) ∧ As (w2.grownBy wr (some mb))) (fun i' _ => g.needs.length - (intOf i').toNat)
    case atStart => exact ⟨0, Nat.zero_le _, rfl, HM2, ⟨⟨rfl, rfl, rfl, Nat.le_refl _, fun _ _ _ => rfl⟩⟩⟩
    case round =>
      obtain ⟨k, hk, rfl, HMK, HGK⟩ := hrel
      have hszk := HGK.o.size
      have HBR : As (Below w.heap.size w wr) := ⟨HB0.o.trans ⟨HGK.o.os.trans HB2.o.os, HGK.o.tape.trans HB2.o.tape, HGK.o.output.trans HB2.o.output, Nat.le_trans HB2.o.size hszk, fun j hj => (HGK.o.block j (by omega) (fun e => by injection e; omega)).trans (HB2.o.block j (by omega))⟩⟩
      have HCR := As.mk ((HGK.o.block pb (by omega) (fun e => by injection e; omega)).trans HC2.o)
      by_cases hlt : k < g.needs.length
      · obtain ⟨ad, e1, _, _, p0, p1⟩ := rowPiece (HG.o.n.below HBR.o) k hlt
        subst e1
        have HSN := As.mk (show needTo g.needs (k + 1) = upd (needTo g.needs k) (pg g.needs k).1 k from rfl)
        generalize needTo g.needs k = nfk at *
        generalize pg g.needs k = y at *
        have f6 : wr.cell? ⟨pb, 6, none⟩ = some (.map (some mb)) := (cell_of_row _ _ 6 _ _ _ HCR.o).trans rfl
        have hpr := blk_lt HCR.o
        have hmr := HMK.o.lt
        have LS := As.mk fun W hW => (HMK.o.move (w' := W) hW).store (string_key Try.underlying9) Try.underlying88 y.1 k
        go_wp2
        refine wp_region_drew_tail 7 (by kernel_rfl) (by kernel_rfl) ?_
        simp only [List.take_succ_cons, List.take_zero, List.drop_succ_cons, List.drop_zero]
        repeat (go_big_quiet_step (fail))
        refine wpQuiet_nil ?_
        rintro _ ⟨q, rfl⟩
        go_wp2_with (at_mapUpdate; refine wpList_store_map rfl _ _ _ 88 rfl mb (.string y.1) (eIdx k) rfl rfl rfl (LS.o _ (by (repeat (first | rfl | (refine (Below.heap_alloc _ _ _ (by (first | omega | (simp; done) | (simp; omega)))).trans ?_) | (refine (Below.heap_setCell _ _ _ _ (by (first | omega | (simp; done) | (simp; omega)))).trans ?_) | (refine (heap_drew _ _).trans ?_) | (refine (heap_setBlock_far _ _ _ _ (by (first | omega | (simp; done) | (simp; omega)))).trans ?_))))) ?_; intro o hmap)
        go_roundw
        case rel =>
          refine ⟨k + 1, by omega, by go_num, ⟨by rw [HSN.o]; exact hmap⟩, ⟨⟨HGK.o.os, HGK.o.tape, HGK.o.output, ?_, fun j hj hne => ?_⟩⟩⟩
          · exact Nat.le_trans HGK.o.size (by simp [Go.ChangeMaps.setBlock, World.drewN])
          · exact (heap_setBlock_far _ _ _ _ (fun e => hne (by rw [e]))).trans ((Below.heap_alloc wr _ j (by omega)).trans (HGK.o.block j hj hne))
        case measure => simp [intOf]; omega
      · have e : k = g.needs.length := by omega
        subst e
        have XR := As.mk ((HGK.o.block w.heap.size (by have := HB2.o.size; omega) (fun e => by injection e; omega)).trans ((HB2.o.block w.heap.size (by omega)).trans X0.o))
        obtain ⟨i16, q1, q2, q3, q4⟩ : ∃ i : TypeInfo, Try.prog.info? 110 = some i ∧ i.zero = some (.int .u16 0) ∧ i.size = 1 ∧ i.bytes = 2 := by
          obtain ⟨i, hi, hz⟩ := Option.map_eq_some_iff.1 info_u16
          simp only [Prod.mk.injEq] at hz
          exact ⟨i, hi, hz.1, hz.2.1, hz.2.2⟩
        obtain ⟨MC, hMC⟩ : ∃ MC, MC = madeCells (Value.int .u16 0).cells (g.needs.length * 1) := ⟨_, rfl⟩
        have hmk : ∀ W : World, (Instr.makeSlice 89 (.int .i64 (g.needs.length : Int)) (.int .i64 (g.needs.length : Int))).run Try.prog W = .ok (.slice (some ⟨W.heap.size, 0, none⟩) g.needs.length g.needs.length) (W.alloc (.cells MC 110)) := fun W => by
          have := run_make W 89 110 i16 (.int .u16 0) Try.underlying89 q1 q2 .i64 .i64 (g.needs.length : Int) (g.needs.length : Int) (by omega) (by omega) (by rw [q4]; omega) (by omega)
          rw [q3, Int.toNat_natCast] at this
          rw [hMC]
          exact this
        have HMC : As (MC.toList = (List.replicate g.needs.length (0 : BitVec 16)).map mval ∧ MC.size = g.needs.length) := ⟨by
          rw [hMC]
          refine ⟨?_, by simp [madeCells]⟩
          rw [made_scalar _ rfl]
          simp⟩
        clear hMC q1 q2 q3 q4
        have x0 : wr.cell? ⟨w.heap.size, 0, none⟩ = some (.slice A1 g.needs.length c1) := (cell_of_row _ _ 0 _ _ _ XR.o).trans rfl
        have x2 : wr.cell? ⟨w.heap.size, 2, none⟩ = some (.bool g.index) := (cell_of_row _ _ 2 _ _ _ XR.o).trans rfl
        have hws := blk_lt XR.o
        have hpr := blk_lt HCR.o
        have hfz : ∀ i, wr.frozen? ⟨pb, i, none⟩ = false := fun i => blk_frozen HCR.o
        have k7 : wr.cell? ⟨pb, 7, none⟩ = some (.slice none 0 0) := (cell_of_row _ _ 7 _ _ _ HCR.o).trans rfl
        have k8 : wr.cell? ⟨pb, 8, none⟩ = some (.int .u64 0) := (cell_of_row _ _ 8 _ _ _ HCR.o).trans rfl
        have k9 : wr.cell? ⟨pb, 9, none⟩ = some (.int .u64 0) := (cell_of_row _ _ 9 _ _ _ HCR.o).trans rfl
        have k10 : wr.cell? ⟨pb, 10, none⟩ = some (.int .u64 0) := (cell_of_row _ _ 10 _ _ _ HCR.o).trans rfl
        have k11 : wr.cell? ⟨pb, 11, none⟩ = some (.int .u64 0) := (cell_of_row _ _ 11 _ _ _ HCR.o).trans rfl
        have k12 : wr.cell? ⟨pb, 12, none⟩ = some (.bool false) := (cell_of_row _ _ 12 _ _ _ HCR.o).trans rfl
        go_upto_region 8 with (fail)
        go_cut [] (fun wx => ∃ B, As (wx.heap[pb]? = some (.cells (probCells g A1 c1 A2 c2 A3 c3 (.slice Av list.length cv) mb B g.needs.length g.needs.length zeroW (!g.index)) 96 (0, 0))) ∧
          As (wx.ownsRow wr.heap.size 110 1 (.slice B g.needs.length g.needs.length) g.needs.length ((List.replicate g.needs.length (0 : BitVec 16)).map mval)) ∧ As (wr.grownBy wx (some pb)))
        case first =>
          go_region_with (fail)
          all_goals (go_wp2_with fail; go_meet; refine ⟨some ⟨wr.heap.size, 0, none⟩, ⟨(np8 HCR.o _ _ _ _ _ _ _).1⟩, ⟨⟨by simp, .inr ⟨wr.heap.size, _, MC, rfl, Nat.le_refl _, (np8 HCR.o _ _ _ _ _ _ _).2.1, Nat.le_refl _, by unfold maxLen; omega, by rw [HMC.o.2, Nat.mul_one], by rw [HMC.o.1, Nat.mul_one, List.take_of_length_le (by simp)]⟩⟩⟩, ⟨(np8 HCR.o _ _ _ _ _ _ _).2.2⟩⟩)
        case rest =>
          obtain ⟨B, HCX, HOX, HGX⟩ := hcut
          have hszx := HGX.o.size
          have HMX : As (Go.Proofs.YtlinhckgdfhppaaK.MapAt wc mb Value.string eIdx (needTo g.needs g.needs.length)) := ⟨HMK.o.move (HGX.o.block mb HMK.o.lt (fun e => by injection e; omega))⟩
          have XX := As.mk ((HGX.o.block w.heap.size hws (fun e => by injection e; omega)).trans XR.o)
          have y3 : wc.cell? ⟨w.heap.size, 3, none⟩ = some (.slice A2 g.pieces.length c2) := (cell_of_row _ _ 3 _ _ _ XX.o).trans rfl
          have y4 : wc.cell? ⟨w.heap.size, 4, none⟩ = some (.slice A3 g.shares.length c3) := (cell_of_row _ _ 4 _ _ _ XX.o).trans rfl
          have HBX : As (Below w.heap.size w wc) := ⟨HBR.o.os ▸ HGX.o.os, HBR.o.tape ▸ HGX.o.tape, HBR.o.output ▸ HGX.o.output, Nat.le_trans HBR.o.size hszx, fun k hk => (HGX.o.block k (by omega) (fun e => by injection e; omega)).trans (HBR.o.block k hk)⟩
          have hgB : ∀ j, (Value.slice B g.needs.length g.needs.length).ownBlock = some j → wr.heap.size ≤ j := fun j e => (HOX.o.lt j e).1
          have GIVE := As.mk fun q => give_any pb mb pb 7 wr.heap.size (probCells g A1 c1 A2 c2 A3 c3 (.slice Av list.length cv) mb B g.needs.length g.needs.length zeroW (!g.index)) 96 B g.needs.length g.needs.length (List.replicate g.needs.length 0) zeroW (!g.index) (needTo g.needs g.needs.length) ⟨0, g.pieces, g.shares, false⟩ A2 c2 A3 c3 (wc.drewN q)
            ((cell_of_row _ _ 6 _ _ _ HCX.o).trans rfl) HMX.o (needTo_lt g.needs _) HCX.o rfl ⟨fun i hi => by rcases (show i = 0 ∨ i = 1 ∨ i = 2 ∨ i = 3 by omega) with rfl | rfl | rfl | rfl <;> rfl⟩ rfl HOX.o (by simp)
            (fun j e => by have := hgB j e; have := HMK.o.lt; refine ⟨?_, ?_, ?_⟩ <;> omega) ((HG.o.p.below (below_drewN HBX.o q)).mono fun j hj e => by have := hgB j e; have := HBR.o.size; omega) HP.o
            ((HG.o.s.below (below_drewN HBX.o q)).mono fun j hj => ⟨fun e => by have := hgB j e; have := HBR.o.size; omega, by omega⟩) HX.o
          go_wp2
          refine wp_region_drew_tail 9 (by kernel_rfl) (by kernel_rfl) ?_
          simp only [List.take_succ_cons, List.take_zero, List.drop_succ_cons, List.drop_zero]
          repeat (go_big_quiet_step (fail))
          refine wpQuiet_nil ?_
          rintro _ ⟨q, rfl⟩
          go_wp2_with (go_at_call 73; refine (GIVE.o q).mono ?_; rintro e w5 ⟨rfl, hown5, ⟨cs5, hb5, hsz5, hfar5, hw5, hi5⟩, ho1, ho2, ho3, hsi, hot⟩)
          go_ret
          have hcc : ∀ i, w5.cell? ⟨pb, i, none⟩ = cs5[i]? := fun i => cell_of_row _ _ i _ _ _ hb5
          have hsb : wr.heap.size ≤ wc.heap.size := hszx
          have HB5 : Below w.heap.size w w5 := ⟨ho1.trans HBX.o.os, ho2.trans HBX.o.tape, ho3.trans HBX.o.output, Nat.le_trans HBX.o.size hsi, fun k hk => (hot k (show k < wc.heap.size by omega) (by omega) (fun e => by have := hgB k e; omega)).trans (HBX.o.block k hk)⟩
          have hmr := HMK.o.lt
          refine ⟨pb, mb, Ah, ch, B, g.needs.length, rfl, ⟨?_, ?_, ?_, ?_, ?_, ?_, ?_, ?_, ?_, ?_, ?_⟩, HB5⟩
          · exact (hcc 0).trans (hfar5 0 (by omega))
          · exact (hcc 1).trans (hfar5 1 (by omega))
          · exact ((hcc 5).trans (hfar5 5 (by omega))).trans (congrArg some HSL.o)
          · exact (hcc 6).trans (hfar5 6 (by omega))
          · exact (hcc 7).trans (hfar5 7 (by omega))
          · exact fun i hi => (hcc (8 + i)).trans (hw5.at_ i hi)
          · rw [Bool.or_false] at hi5
            exact (hcc 12).trans hi5
          · exact (HG.o.n.below HB5).mono fun k hk => Nat.lt_of_lt_of_le hk HB5.size
          · exact HMX.o.move (hot mb (show mb < wc.heap.size by omega) (fun e => hpm e.symm) (fun e => by have := hgB mb e; omega))
          · refine (HRW.o.move fun k hk => ?_).mono fun k hk => ?_
            · have hkp : k ≠ pb := fun e => by
                subst e
                rcases hk.1 with h1 | h1
                · exact hnp h1
                · omega
              have hkm : k ≠ mb := fun e => by
                subst e
                rcases hk.1 with h1 | h1
                · exact hnm h1
                · omega
              have h2 := hk.2
              exact (hot k (show k < wc.heap.size by omega) hkp (fun e => by have := hgB k e; omega)).trans ((HGX.o.block k (by omega) (fun e => by injection e; omega)).trans (HGK.o.block k h2 (fun e => by injection e; omega)))
            · have h2 := hk.2
              have h3 : wc.heap.size ≤ w5.heap.size := hsi
              omega
          · exact (row_masks hown5).2.bound.mono fun k hk => hk.2
end Go.Proofs.Ytlinhckgdfhppaa
namespace Go.Proofs.Ytlinhckgdfhppaa
open Go Go.RowKit Go.Proofs.YtlinhckgdfhppaaK

abbrev nfOf (g : Goal) : ByteArray → Option Nat := needTo g.needs g.needs.length
abbrev ms0 (g : Goal) : List (BitVec 16) := giveM (nfOf g) (List.replicate g.needs.length 0) g.pieces
abbrev fw0 (g : Goal) : Nat → BitVec 64 := addWs zeroW g.shares
/-- The program's sum of what lacks with a set of the sorted holdings. -/
def psum (g : Goal) (list : List Hold) (s : Nat) : Int := sumOf g.needs g.thr (nfOf g) list.length (sortH list) (ms0 g) (fw0 g) (!g.index) s
/-- A problem of the goal and the holdings lies at pb. -/
def PIn (w : World) (pb : Nat) (g : Goal) (list : List Hold) : Prop := ∃ mb A1 c1 A cl B c, ProbIn w pb mb g.needs g.thr A1 c1 (nfOf g) A list.length cl (sortH list) B c (ms0 g) (fw0 g) (!g.index)
theorem PIn.below {w w' : World} {pb : Nat} {g : Goal} {list : List Hold} (h : PIn w pb g list) (hb : Below w.heap.size w w') : PIn w' pb g list := by
  obtain ⟨mb, A1, c1, A, cl, B, c, hp⟩ := h
  exact ⟨mb, A1, c1, A, cl, B, c, hp.below hb⟩
theorem PIn.lt {w : World} {pb : Nat} {g : Goal} {list : List Hold} (h : PIn w pb g list) : pb < w.heap.size := by
  obtain ⟨mb, A1, c1, A, cl, B, c, hp⟩ := h
  exact World.block_lt_of_cell? w _ hp.h0
theorem Valid.nodup {g : Goal} {list : List Hold} (h : Valid g list) : (list.map (·.dev)).Nodup := h.2.2.2.2.2.2.2.2
theorem Valid.ok {g : Goal} {list : List Hold} (h : Valid g list) : ProbOk g.needs g.thr (nfOf g) list.length (sortH list) := by
  obtain ⟨h1, h2, h3, h4, h5, h6, h7, h8⟩ := h
  refine ⟨needTo_lt g.needs _, h1, h6, fun n hn => ?_, by omega, fun x hx => ?_⟩
  · have := h7.1 n hn
    omega
  · have hm := (sortH_perm list).mem_iff.1 hx
    have := h8.1 x hm
    exact ⟨this.2.2.1.1, this.2.2.2.1⟩
theorem sortH_len (list : List Hold) : (sortH list).length = list.length := (sortH_perm list).length_eq
section
variable {w : World} {pb : Nat} {g : Goal} {list : List Hold}
theorem sufficesQ (h : PIn w pb g list) (hv : Valid g list) (s : Nat) (hs : s < 18446744073709551616) (b : Bool) (hb : (psum g list s == 0) = b) :
    Calls Try.prog 39 #[.pointer (some ⟨pb, 0, none⟩), .int .u64 (s : Int)] w fun e w' => e = .returned (.bool b) ∧ Below w.heap.size w w' := by
  obtain ⟨mb, A1, c1, A, cl, B, c, hp⟩ := h
  exact sufficesP hp hv.ok s hs b hb
theorem pickQ (h : PIn w pb g list) (hv : Valid g list) (s : Nat) (hs : s < 18446744073709551616) :
    Calls Try.prog 37 #[.pointer (some ⟨pb, 0, none⟩), .int .u64 (s : Int)] w fun e w' => ∃ v, e = .returned v ∧ Own (Kn.int .i64) 3 w' w.heap.size v (pickTo (sortH list) s list.length) ∧ Below w.heap.size w w' := by
  obtain ⟨mb, A1, c1, A, cl, B, c, hp⟩ := h
  exact pick_any pb A list.length cl (sortH list) s _ w hp.h5 hp.hR hv.ok.hnl hs
theorem setAllQ (h : PIn w pb g list) (hv : Valid g list) :
    Calls Try.prog 60 #[.pointer (some ⟨pb, 0, none⟩)] w fun e w' => e = .returned (.int .u64 ((2 ^ list.length - 1 : Nat) : Int)) ∧ w = w' := by
  obtain ⟨mb, A1, c1, A, cl, B, c, hp⟩ := h
  exact setAll_any pb A list.length cl w hp.h5 hv.ok.hnl
theorem toSetQ (h : PIn w pb g list) (hv : Valid g list) (B : Option Addr) (nd cd : Nat) (devs : List Int) (ok : Nat → Prop) (hD : Row (Kn.int .i64) w ok B nd devs) :
    Calls Try.prog 55 #[.pointer (some ⟨pb, 0, none⟩), .slice B nd cd] w fun e w' => e = .returned (.int .u64 (setTo (sortH list) devs list.length : Nat)) ∧ Below w.heap.size w w' := by
  obtain ⟨mb, A1, c1, A, cl, B', c, hp⟩ := h
  exact toSet_any pb A list.length cl (sortH list) B nd cd devs _ w hp.h5 (hp.hR.mono fun _ _ => trivial) (hD.mono fun _ _ => trivial) hv.ok.hnl
end
theorem newProblemQ (g : Goal) (A1 : Option Addr) (c1 : Nat) (A2 : Option Addr) (c2 : Nat) (A3 : Option Addr) (c3 : Nat) (A4 : Option Addr) (c4 : Nat) (list : List Hold) (w : World)
    (hg : GoalIn w (fun k => k < w.heap.size) g A1 c1 A2 c2 A3 c3) (hl : Row kHold w (fun k => k < w.heap.size) A4 list.length list) (hv : Valid g list) :
    Calls Try.prog 42 #[.agg (goalCells g A1 c1 A2 c2 A3 c3), .slice A4 list.length c4] w fun e w' => ∃ pb, e = .returned (.pointer (some ⟨pb, 0, none⟩)) ∧ PIn w' pb g list ∧ Below w.heap.size w w' :=
  (newProblem_any g A1 c1 A2 c2 A3 c3 A4 c4 list w hg hl hv.1 hv.2.2.2.2.2.1 hv.nodup hv.2.2.2.1.1 hv.2.2.2.2.1.1).mono fun e w' ⟨pb, mb, A, cl, B, c, he, hp, hb⟩ => ⟨pb, he, ⟨mb, A1, c1, A, cl, B, c, hp⟩, hb⟩
theorem pow12 {n : Nat} (h : n ≤ 12) : 2 ^ n - 1 < 18446744073709551616 := by
  have h1 : 2 ^ n ≤ 2 ^ 12 := Nat.pow_le_pow_right (by omega) h
  omega
/-- What possible answers. -/
def possOf (g : Goal) (list : List Hold) : Int := if Valid g list then (if psum g list (2 ^ list.length - 1) = 0 then 0 else 10) else 1
theorem possOf_no {g : Goal} {list : List Hold} (h : ¬ Valid g list) : possOf g list = 1 := if_neg h
theorem possOf_short {g : Goal} {list : List Hold} (h : Valid g list) (hp : psum g list (2 ^ list.length - 1) ≠ 0) : possOf g list = 10 := by rw [possOf, if_pos h, if_neg hp]
theorem possOf_yes {g : Goal} {list : List Hold} (h : Valid g list) (hp : psum g list (2 ^ list.length - 1) = 0) : possOf g list = 0 := by rw [possOf, if_pos h, if_pos hp]
def PossPost (g : Goal) (list : List Hold) (w : World) (v : Value) (r : Int) (w' : World) : Prop := r = possOf g list ∧ (r ≠ 0 → v = .pointer none) ∧ (r = 0 → Valid g list ∧ psum g list (2 ^ list.length - 1) = 0 ∧ ∃ pb, v = .pointer (some ⟨pb, 0, none⟩) ∧ PIn w' pb g list) ∧ Below w.heap.size w w'
set_option maxRecDepth 100000 in
set_option maxHeartbeats 1000000 in
theorem possible_any (g : Goal) (A1 : Option Addr) (c1 : Nat) (A2 : Option Addr) (c2 : Nat) (A3 : Option Addr) (c3 : Nat) (A4 : Option Addr) (c4 : Nat) (list : List Hold) (w : World)
    (hg : GoalIn w (fun k => k < w.heap.size) g A1 c1 A2 c2 A3 c3) (hl : Row kHold w (fun k => k < w.heap.size) A4 list.length list) :
    Calls Try.prog 36 #[.agg (goalCells g A1 c1 A2 c2 A3 c3), .slice A4 list.length c4] w fun e w' => ∃ v r, e = .returned (.tuple #[v, .int .i64 r]) ∧ PossPost g list w v r w' := by
  have HG := As.mk hg
  have HL := As.mk hl
  have CHK : As (∀ W : World, Below w.heap.size w W → Calls Try.prog 31 #[.agg (goalCells g A1 c1 A2 c2 A3 c3), .slice A4 list.length c4] W fun e w' => e = .returned (.int .i64 (checkOf g list)) ∧ Below W.heap.size W w') := ⟨fun W hW => check_any g A1 c1 A2 c2 A3 c3 A4 list.length c4 list W _ (HG.o.below hW) (HL.o.below hW)⟩
  have HB0 : As (Below w.heap.size w (w.alloc (.cells (goalCells g A1 c1 A2 c2 A3 c3) 26))) := ⟨(Below.refl _ _).alloc (Nat.le_refl _) _⟩
  have BOX : As (∀ W : World, Below (w.alloc (.cells (goalCells g A1 c1 A2 c2 A3 c3) 26)).heap.size (w.alloc (.cells (goalCells g A1 c1 A2 c2 A3 c3) 26)) W → ∀ i, W.cell? ⟨w.heap.size, i, none⟩ = (goalCells g A1 c1 A2 c2 A3 c3)[i]?) := ⟨fun W hW i => (hW.cell (p := ⟨w.heap.size, i, none⟩) (by simp)).trans (cell_of_row _ _ i _ _ _ (heap_alloc_new w _))⟩
  clear hg hl
  by_cases hv : Valid g list
  · rw [checkOf_yes hv] at CHK
    have NEW : As (∀ W : World, Below w.heap.size w W → Calls Try.prog 42 #[.agg (goalCells g A1 c1 A2 c2 A3 c3), .slice A4 list.length c4] W fun e w' => ∃ pb, e = .returned (.pointer (some ⟨pb, 0, none⟩)) ∧ PIn w' pb g list ∧ Below W.heap.size W w') := ⟨fun W hW => newProblemQ g A1 c1 A2 c2 A3 c3 A4 c4 list W ⟨(HG.o.n.below hW).mono fun k hk => Nat.lt_of_lt_of_le hk hW.size, HG.o.cn, (HG.o.p.below hW).mono fun k hk => Nat.lt_of_lt_of_le hk hW.size, HG.o.cp, (HG.o.s.below hW).mono fun k hk => Nat.lt_of_lt_of_le hk hW.size, HG.o.cs⟩ ((HL.o.below hW).mono fun k hk => Nat.lt_of_lt_of_le hk hW.size) hv⟩
    have HV := As.mk hv
    have h12 := pow12 hv.ok.hnl
    obtain ⟨b, hb⟩ : ∃ b, (psum g list (2 ^ list.length - 1) == 0) = b := ⟨_, rfl⟩
    have HBQ := As.mk hb
    have ALL : As (∀ (W : World) (pb : Nat), PIn W pb g list → Calls Try.prog 60 #[.pointer (some ⟨pb, 0, none⟩)] W fun e w' => e = .returned (.int .u64 ((2 ^ list.length - 1 : Nat) : Int)) ∧ W = w') := ⟨fun W pb h => setAllQ h HV.o⟩
    have SUF : As (∀ (W : World) (pb : Nat), PIn W pb g list → Calls Try.prog 39 #[.pointer (some ⟨pb, 0, none⟩), .int .u64 ((2 ^ list.length - 1 : Nat) : Int)] W fun e w' => e = .returned (.bool b) ∧ Below W.heap.size W w') := ⟨fun W pb h => sufficesQ h HV.o _ h12 b HBQ.o⟩
    generalize hf : 2 ^ list.length - 1 = full at *
    have HF := As.mk hf
    clear hv hb hf
    cases b
    all_goals
      go_enter Try.func36, Try.ntmps36
      go_wp2_with (first
        | (go_at_call 31; refine (CHK.o _ HB0.o).mono ?_; rintro e w1 ⟨rfl, hb1⟩; have B0 := BOX.o w1 hb1; have b0 : w1.cell? ⟨w.heap.size, 0, none⟩ = some (.slice A1 g.needs.length c1) := B0 0; have b1 : w1.cell? ⟨w.heap.size, 1, none⟩ = some (.int .i64 g.thr) := B0 1; have b2 : w1.cell? ⟨w.heap.size, 2, none⟩ = some (.bool g.index) := B0 2; have b3 : w1.cell? ⟨w.heap.size, 3, none⟩ = some (.slice A2 g.pieces.length c2) := B0 3; have b4 : w1.cell? ⟨w.heap.size, 4, none⟩ = some (.slice A3 g.shares.length c3) := B0 4)
        | (go_at_call 42; refine (NEW.o _ (bthen HB0.o hb1 (by simp))).mono ?_; rintro e w2 ⟨pb, rfl, hp2, hb2⟩)
        | (go_at_call 60; refine (ALL.o _ _ hp2).mono ?_; rintro e w3 ⟨rfl, rfl⟩)
        | (go_at_call 39; refine (SUF.o _ _ hp2).mono ?_; rintro e w4 ⟨rfl, hb4⟩))
      go_ret2
    · refine ⟨_, _, rfl, (possOf_short HV.o (fun e => ?_)).symm, fun _ => rfl, fun h => (by cases h), bthen (bthen (bthen HB0.o hb1 (by simp)) hb2 ?_) hb4 ?_⟩
      · have := HBQ.o
        rw [← HF.o, e] at this
        cases this
      · have := hb1.size
        simp at this
        omega
      · have h1 := hb1.size
        have h2 := hb2.size
        simp at h1
        omega
    · have hp : psum g list (2 ^ list.length - 1) = 0 := by
        have := HBQ.o
        rw [← HF.o] at this
        exact of_decide_eq_true this
      refine ⟨_, _, rfl, (possOf_yes HV.o hp).symm, fun h => absurd rfl h, fun _ => ⟨HV.o, hp, pb, rfl, hp2.below hb4⟩, bthen (bthen (bthen HB0.o hb1 (by simp)) hb2 ?_) hb4 ?_⟩
      · have := hb1.size
        simp at this
        omega
      · have h1 := hb1.size
        have h2 := hb2.size
        simp at h1
        omega
  · rw [checkOf_no hv] at CHK
    have HV := As.mk hv
    clear hv
    go_enter Try.func36, Try.ntmps36
    go_wp2_with (go_at_call 31; refine (CHK.o _ HB0.o).mono ?_; rintro e w1 ⟨rfl, hb1⟩)
    go_ret2
    exact ⟨_, _, rfl, (possOf_no HV.o).symm, fun _ => rfl, fun h => (by cases h), bthen HB0.o hb1 (by simp)⟩
end Go.Proofs.Ytlinhckgdfhppaa
namespace Go.Proofs.Ytlinhckgdfhppaa
open Go Go.RowKit Go.Proofs.YtlinhckgdfhppaaK Go.Sort

/-- A step of the reversal: neighbouring groups of k bits change places (p = 2 ^ k). -/
def swp1 (p M x : Nat) : Nat := (x / p &&& M) ||| ((x &&& M) * p)
def sg (k i : Nat) : Nat := if i / k % 2 = 0 then i + k else i - k
theorem swp1_bit (k M x i : Nat) (hk : 0 < k) (hM : ∀ j, j < 64 → M.testBit j = decide (j / k % 2 = 0)) (hi : i < 64) : (swp1 (2 ^ k) M x).testBit i = x.testBit (sg k i) := by
  unfold swp1 sg
  rw [Nat.testBit_or, Nat.testBit_and, Nat.testBit_div_two_pow, Nat.testBit_mul_two_pow, Nat.testBit_and, hM i hi]
  by_cases h : i / k % 2 = 0
  · rw [if_pos h, decide_eq_true h]
    by_cases hki : k ≤ i
    · have e : (i - k) / k = i / k - 1 := by have := Nat.sub_mul_div i k 1; rwa [Nat.mul_one] at this
      have h1 : 1 ≤ i / k := (Nat.one_le_div_iff hk).2 hki
      rw [hM (i - k) (by omega), e, decide_eq_false (show ¬ (i / k - 1) % 2 = 0 by omega)]
      simp
    · simp [hki]
  · have h1 : 1 ≤ i / k := by
      rcases Nat.eq_zero_or_pos (i / k) with h0 | h0
      · rw [h0] at h; exact absurd rfl h
      · exact h0
    have hki : k ≤ i := (Nat.one_le_div_iff hk).1 h1
    have e : (i - k) / k = i / k - 1 := by have := Nat.sub_mul_div i k 1; rwa [Nat.mul_one] at this
    rw [if_neg h, decide_eq_false h, hM (i - k) (by omega), e, decide_eq_true (show (i / k - 1) % 2 = 0 by omega)]
    simp [hki]
theorem swp1_lt (k M x : Nat) (hM : M * 2 ^ k < 2 ^ 64) (hm : M < 2 ^ 64) : swp1 (2 ^ k) M x < 2 ^ 64 :=
  Nat.or_lt_two_pow (Nat.lt_of_le_of_lt Nat.and_le_right hm) (Nat.lt_of_le_of_lt (Nat.mul_le_mul_right _ Nat.and_le_right) hM)
def swp6 (x : Nat) : Nat := x / 4294967296 ||| x * 4294967296 % 18446744073709551616
theorem swp6_bit (x i : Nat) (hx : x < 2 ^ 64) (hi : i < 64) : (swp6 x).testBit i = x.testBit (sg 32 i) := by
  unfold swp6 sg
  rw [show (4294967296 : Nat) = 2 ^ 32 from rfl, show (18446744073709551616 : Nat) = 2 ^ 64 from rfl, Nat.testBit_or, Nat.testBit_div_two_pow, Nat.testBit_mod_two_pow, Nat.testBit_mul_two_pow, decide_eq_true hi]
  by_cases h : i < 32
  · rw [if_pos (show i / 32 % 2 = 0 by omega), decide_eq_false (show ¬ 32 ≤ i by omega)]
    simp
  · rw [if_neg (show ¬ i / 32 % 2 = 0 by omega), decide_eq_true (show 32 ≤ i by omega), Nat.testBit_lt_two_pow (x := x) (i := i + 32) (Nat.lt_of_lt_of_le hx (Nat.pow_le_pow_right (by omega) (by omega)))]
    simp
theorem swp6_lt (x : Nat) (hx : x < 2 ^ 64) : swp6 x < 2 ^ 64 := Nat.or_lt_two_pow (Nat.lt_of_le_of_lt (Nat.div_le_self _ _) hx) (Nat.mod_lt _ (by decide))
def rev64 (x : Nat) : Nat := swp6 (swp1 65536 281470681808895 (swp1 256 71777214294589695 (swp1 16 1085102592571150095 (swp1 4 3689348814741910323 (swp1 2 6148914691236517205 x)))))
theorem rev64_lt (x : Nat) : rev64 x < 2 ^ 64 := swp6_lt _ (swp1_lt 16 _ _ (by decide) (by decide))
theorem sg_all : ∀ i : Fin 64, sg 32 i < 64 ∧ sg 16 (sg 32 i) < 64 ∧ sg 8 (sg 16 (sg 32 i)) < 64 ∧ sg 4 (sg 8 (sg 16 (sg 32 i))) < 64 ∧ sg 2 (sg 4 (sg 8 (sg 16 (sg 32 i)))) < 64 ∧ sg 1 (sg 2 (sg 4 (sg 8 (sg 16 (sg 32 i))))) = 63 - i := by decide +kernel
theorem mask1 : ∀ j : Fin 64, (6148914691236517205 : Nat).testBit j = decide (j.1 / 1 % 2 = 0) := by decide +kernel
theorem mask2 : ∀ j : Fin 64, (3689348814741910323 : Nat).testBit j = decide (j.1 / 2 % 2 = 0) := by decide +kernel
theorem mask4 : ∀ j : Fin 64, (1085102592571150095 : Nat).testBit j = decide (j.1 / 4 % 2 = 0) := by decide +kernel
theorem mask8 : ∀ j : Fin 64, (71777214294589695 : Nat).testBit j = decide (j.1 / 8 % 2 = 0) := by decide +kernel
theorem mask16 : ∀ j : Fin 64, (281470681808895 : Nat).testBit j = decide (j.1 / 16 % 2 = 0) := by decide +kernel
theorem rev64_bit (x i : Nat) (hi : i < 64) : (rev64 x).testBit i = x.testBit (63 - i) := by
  obtain ⟨h1, h2, h3, h4, h5, h6⟩ := sg_all ⟨i, hi⟩
  simp only at h1 h2 h3 h4 h5 h6
  unfold rev64
  rw [swp6_bit _ _ (swp1_lt 16 _ _ (by decide) (by decide)) hi]
  have e5 := swp1_bit 16 281470681808895 (swp1 256 71777214294589695 (swp1 16 1085102592571150095 (swp1 4 3689348814741910323 (swp1 2 6148914691236517205 x)))) _ (by omega) (fun j hj => mask16 ⟨j, hj⟩) h1
  have e4 := swp1_bit 8 71777214294589695 (swp1 16 1085102592571150095 (swp1 4 3689348814741910323 (swp1 2 6148914691236517205 x))) _ (by omega) (fun j hj => mask8 ⟨j, hj⟩) h2
  have e3 := swp1_bit 4 1085102592571150095 (swp1 4 3689348814741910323 (swp1 2 6148914691236517205 x)) _ (by omega) (fun j hj => mask4 ⟨j, hj⟩) h3
  have e2 := swp1_bit 2 3689348814741910323 (swp1 2 6148914691236517205 x) _ (by omega) (fun j hj => mask2 ⟨j, hj⟩) h4
  have e1 := swp1_bit 1 6148914691236517205 x _ (by omega) (fun j hj => mask1 ⟨j, hj⟩) h5
  rw [h6] at e1
  exact e5.trans (e4.trans (e3.trans (e2.trans e1)))
/-- The step as the program computes it. -/
theorem swr (p M : Nat) (x : Nat) (hx : x < 18446744073709551616) (hp : 0 < p) (hM : M * p < 18446744073709551616) (hm : M < 18446744073709551616) :
    bits .or .u64 (bits .and .u64 ((x / p : Nat) : Int) (M : Int)) (IntKind.u64.wrap (bits .and .u64 (x : Int) (M : Int) * (p : Int))) = ((swp1 p M x : Nat) : Int) := by
  have h1 : (x &&& M) * p < 18446744073709551616 := Nat.lt_of_le_of_lt (Nat.mul_le_mul_right _ Nat.and_le_right) hM
  rw [and_u64 _ _ (Nat.lt_of_le_of_lt (Nat.div_le_self _ _) hx), and_u64 _ _ hx, ← Int.natCast_mul, wrap64 _ h1, or_nat64 _ _ (Nat.lt_of_le_of_lt Nat.and_le_right hm) h1]
  rfl
set_option maxRecDepth 100000 in
set_option maxHeartbeats 1000000 in
theorem revB_any (x : Nat) (hx : x < 18446744073709551616) (w : World) : Calls Try.prog 99 #[.int .u64 (x : Int)] w fun e w' => e = .returned (.int .u64 (swp6 (swp1 65536 281470681808895 (swp1 256 71777214294589695 x)) : Nat)) ∧ w = w' := by
  have e1 : bits .or .u64 (bits .and .u64 ((x : Int) / 256) 71777214294589695) (IntKind.u64.wrap (bits .and .u64 (x : Int) 71777214294589695 * 256)) = _ := swr 256 71777214294589695 x hx (by decide) (by decide) (by decide)
  have l1 : swp1 256 71777214294589695 x < 18446744073709551616 := swp1_lt 8 _ _ (by decide) (by decide)
  generalize swp1 256 71777214294589695 x = x1 at *
  have e2 : bits .or .u64 (bits .and .u64 ((x1 : Int) / 65536) 281470681808895) (IntKind.u64.wrap (bits .and .u64 (x1 : Int) 281470681808895 * 65536)) = _ := swr 65536 281470681808895 x1 l1 (by decide) (by decide) (by decide)
  have l2 : swp1 65536 281470681808895 x1 < 18446744073709551616 := swp1_lt 16 _ _ (by decide) (by decide)
  generalize swp1 65536 281470681808895 x1 = x2 at *
  have e3 : bits .or .u64 ((x2 : Int) / 4294967296) (IntKind.u64.wrap ((x2 : Int) * 4294967296)) = ((swp6 x2 : Nat) : Int) := by
    have h : IntKind.u64.wrap ((x2 : Int) * 4294967296) = ((x2 * 4294967296 % 18446744073709551616 : Nat) : Int) := by
      simp [IntKind.wrap, IntKind.bits, IntKind.signed]
    rw [h]
    exact or_nat64 (x2 / 4294967296) _ (Nat.lt_of_le_of_lt (Nat.div_le_self _ _) l2) (Nat.mod_lt _ (by decide))
  generalize swp6 x2 = x3 at *
  clear l1 l2
  go_enter Try.func99, Try.ntmps99
  go_wp2
  go_ret
  exact ⟨rfl, rfl⟩
set_option maxRecDepth 100000 in
set_option maxHeartbeats 1000000 in
theorem rev64_any (x : Nat) (hx : x < 18446744073709551616) (w : World) : Calls Try.prog 84 #[.int .u64 (x : Int)] w fun e w' => e = .returned (.int .u64 (rev64 x : Nat)) ∧ w = w' := by
  have REV := As.mk fun y hy => revB_any y hy w
  unfold rev64
  have e1 : bits .or .u64 (bits .and .u64 ((x : Int) / 2) 6148914691236517205) (IntKind.u64.wrap (bits .and .u64 (x : Int) 6148914691236517205 * 2)) = _ := swr 2 6148914691236517205 x hx (by decide) (by decide) (by decide)
  have l1 : swp1 2 6148914691236517205 x < 18446744073709551616 := swp1_lt 1 _ _ (by decide) (by decide)
  generalize swp1 2 6148914691236517205 x = x1 at *
  have e2 : bits .or .u64 (bits .and .u64 ((x1 : Int) / 4) 3689348814741910323) (IntKind.u64.wrap (bits .and .u64 (x1 : Int) 3689348814741910323 * 4)) = _ := swr 4 3689348814741910323 x1 l1 (by decide) (by decide) (by decide)
  have l2 : swp1 4 3689348814741910323 x1 < 18446744073709551616 := swp1_lt 2 _ _ (by decide) (by decide)
  generalize swp1 4 3689348814741910323 x1 = x2 at *
  have e3 : bits .or .u64 (bits .and .u64 ((x2 : Int) / 16) 1085102592571150095) (IntKind.u64.wrap (bits .and .u64 (x2 : Int) 1085102592571150095 * 16)) = _ := swr 16 1085102592571150095 x2 l2 (by decide) (by decide) (by decide)
  have l3 : swp1 16 1085102592571150095 x2 < 18446744073709551616 := swp1_lt 4 _ _ (by decide) (by decide)
  generalize swp1 16 1085102592571150095 x2 = x3 at *
  have REV3 := As.mk (REV.o x3 l3)
  clear l1 l2 l3
  go_enter Try.func84, Try.ntmps84
  go_wp2_with (go_at_call 99; refine REV3.o.mono ?_; rintro e w1 ⟨rfl, rfl⟩)
  go_ret
  exact ⟨rfl, rfl⟩
set_option maxRecDepth 100000 in
theorem rev_any (x : Nat) (hx : x < 18446744073709551616) (w : World) : Calls Try.prog 67 #[.int .u64 (x : Int)] w fun e w' => e = .returned (.int .u64 (rev64 x : Nat)) ∧ w = w' := by
  have REV := As.mk (rev64_any x hx w)
  generalize rev64 x = r at *
  go_enter Try.func67, Try.ntmps67
  go_wp2_with (go_at_call 84; refine REV.o.mono ?_; rintro e w1 ⟨rfl, rfl⟩)
  go_ret
  exact ⟨rfl, rfl⟩
set_option maxRecDepth 100000 in
theorem ones_any (x : Nat) (hx : x < 18446744073709551616) (w : World) : Calls Try.prog 65 #[.int .u64 (x : Int)] w fun e w' => e = .returned (.int .i64 (cntB x.testBit 64 : Nat)) ∧ w = w' := by
  have REV := As.mk (ones64_any x hx w)
  generalize cntB x.testBit 64 = r at *
  go_enter Try.func65, Try.ntmps65
  go_wp2_with (go_at_call 77; refine REV.o.mono ?_; rintro e w1 ⟨rfl, rfl⟩)
  go_ret
  exact ⟨rfl, rfl⟩
set_option maxRecDepth 100000 in
theorem nanU_any (x : Int) (w : World) : Calls Try.prog 82 #[.int .u64 x] w fun e w' => e = .returned (.bool false) ∧ w = w' := by
  go_enter Try.func82, Try.ntmps82
  go_wp2
  go_ret
  exact ⟨rfl, rfl⟩
set_option maxRecDepth 100000 in
theorem cmpU_any (x y : Int) (w : World) : Calls Try.prog 66 #[.int .u64 x, .int .u64 y] w fun e w' => e = .returned (.int .i64 (Lib.compareInt x y)) ∧ w = w' := by
  have NAN := As.mk fun z => nanU_any z w
  by_cases h1 : x < y
  · have d1 : decide (x < y) = true := decide_eq_true h1
    have hr : Lib.compareInt x y = -1 := by simp [Lib.compareInt, h1]
    rw [hr]
    go_enter Try.func66, Try.ntmps66
    go_wp2_with (go_at_call 82; refine (NAN.o _).mono ?_; rintro e w1 ⟨rfl, rfl⟩)
    go_ret
    exact ⟨rfl, rfl⟩
  · by_cases h2 : y < x
    · have hr : Lib.compareInt x y = 1 := by simp [Lib.compareInt, h1, h2]
      have d1 : decide (x < y) = false := decide_eq_false h1
      have d2 : decide (y < x) = true := decide_eq_true h2
      rw [hr]
      go_enter Try.func66, Try.ntmps66
      go_wp2_with (go_at_call 82; refine (NAN.o _).mono ?_; rintro e w1 ⟨rfl, rfl⟩)
      go_ret
      exact ⟨rfl, rfl⟩
    · have hr : Lib.compareInt x y = 0 := by simp [Lib.compareInt, h1, h2]
      have d1 : decide (x < y) = false := decide_eq_false h1
      have d2 : decide (y < x) = false := decide_eq_false h2
      rw [hr]
      go_enter Try.func66, Try.ntmps66
      go_wp2_with (go_at_call 82; refine (NAN.o _).mono ?_; rintro e w1 ⟨rfl, rfl⟩)
      go_ret
      exact ⟨rfl, rfl⟩
end Go.Proofs.Ytlinhckgdfhppaa
namespace Go.Proofs.Ytlinhckgdfhppaa
open Go Go.RowKit Go.Proofs.YtlinhckgdfhppaaK Go.Sort

/-- The first number that is not 0, or 0. -/
def firstNZ (xs : List Int) : Int := (xs.find? fun x => decide (x ≠ 0)).getD 0
theorem firstNZ_at {xs : List Int} {k : Nat} (hk : k < xs.length) (h0 : ∀ x ∈ xs.take k, x = 0) (h : ig xs k ≠ 0) : firstNZ xs = ig xs k := by
  have e : xs = xs.take k ++ ig xs k :: xs.drop (k + 1) := by rw [ig_eq xs k hk, List.getElem_cons_drop, List.take_append_drop]
  unfold firstNZ
  rw [e, List.find?_append, List.find?_eq_none.2 (fun x hx => by simp [h0 x hx])]
  rw [← e]
  simp [h]
theorem firstNZ_none {xs : List Int} (h0 : ∀ x ∈ xs, x = 0) : firstNZ xs = 0 := by
  unfold firstNZ
  rw [List.find?_eq_none.2 (fun x hx => by simp [h0 x hx])]
  rfl
set_option maxRecDepth 100000 in
set_option maxHeartbeats 1000000 in
theorem or_any (A : Option Addr) (n c : Nat) (ok : Nat → Prop) (xs : List Int) (w : World) (h : Row (Kn.int .i64) w ok A n xs) :
    Calls Try.prog 63 #[.slice A n c] w fun e w' => e = .returned (.int .i64 (firstNZ xs)) ∧ w = w' := by
  have hm := h.2.1
  have HL := As.mk h.1
  have HR := As.mk h
  clear h
  go_enter Try.func63, Try.ntmps63
  go_wp2
  go_loopw [8] (fun i' wr => ∃ k : Nat, k ≤ n ∧ i' = .int .i64 k ∧ As (∀ x ∈ xs.take k, x = 0) ∧ w = wr) (fun i' _ => n - (intOf i').toNat)
  case atStart => exact ⟨0, Nat.zero_le _, rfl, ⟨by simp⟩, rfl⟩
  case round =>
    obtain ⟨k, hk, rfl, HZ, rfl⟩ := hrel
    by_cases hlt : k < n
    · obtain ⟨ad, rfl, _, _, p0⟩ := HR.o.int_at k hlt
      have hkl : k < xs.length := by rw [HL.o]; exact hlt
      have HS := As.mk (take_ig xs k hkl)
      have HF := As.mk (fun h => firstNZ_at (xs := xs) (k := k) hkl HZ.o h)
      generalize ig xs k = y at *
      by_cases hy : y = 0
      · subst hy
        clear HF
        go_wp2
        go_roundw
        case rel =>
          refine ⟨k + 1, by omega, by go_num, ⟨?_⟩, trivial⟩
          rw [HS.o]
          intro x hx
          rcases List.mem_append.1 hx with h1 | h1
          · exact HZ.o x h1
          · simpa using h1
        case measure => simp [intOf]; omega
      · have HY := As.mk (HF.o hy)
        have d0 : (y == 0) = false := by simp [hy]
        clear HF
        go_wp2
        go_ret
        exact ⟨by rw [HY.o]; rfl, rfl⟩
    · have e : k = n := by omega
      subst e
      rw [List.take_of_length_le (by rw [HL.o]; exact Nat.le_refl _)] at HZ
      go_wp2
      go_ret
      exact ⟨by rw [firstNZ_none HZ.o]; rfl, rfl⟩

/-- How the program orders sets: by their number of bits, then by the reversed bits, the greater first. -/
def cnt64 (x : BitVec 64) : Nat := cntB x.toNat.testBit 64
def rv64 (x : BitVec 64) : Nat := rev64 x.toNat
def cfU (x y : BitVec 64) : Int := firstNZ [Lib.compareInt (cnt64 x) (cnt64 y), Lib.compareInt (rv64 y) (rv64 x)]
def ltU (x y : BitVec 64) : Prop := cnt64 x < cnt64 y ∨ (cnt64 x = cnt64 y ∧ rv64 y < rv64 x)
instance (x y : BitVec 64) : Decidable (ltU x y) := by unfold ltU; infer_instance
theorem orLt (a b c d : Nat) : firstNZ [Lib.compareInt (a : Int) b, Lib.compareInt (d : Int) c] < 0 ↔ (a < b ∨ (a = b ∧ d < c)) := by
  unfold firstNZ Lib.compareInt
  by_cases h1 : (a : Int) < b
  · simp [h1]; omega
  · by_cases h2 : (b : Int) < a
    · simp [h1, h2]; omega
    · have e : a = b := by omega
      subst e
      by_cases h3 : (d : Int) < c
      · simp [h3]; omega
      · by_cases h4 : (c : Int) < d
        · simp [h3, h4]; omega
        · simp [h3, h4]; omega
theorem ltU_yes {x y : BitVec 64} : ltOf cfU x y = true ↔ ltU x y := decide_eq_true_iff.trans (orLt _ _ _ _)
theorem ltU_no {x y : BitVec 64} : ltOf cfU x y = false ↔ ¬ ltU x y := by rw [← ltU_yes, Bool.not_eq_true]
theorem rv64_inj {x y : BitVec 64} (h : rv64 x = rv64 y) : x = y := by
  refine BitVec.eq_of_toNat_eq (Nat.eq_of_testBit_eq fun i => ?_)
  rcases Nat.lt_or_ge i 64 with hi | hi
  · have h1 := rev64_bit x.toNat (63 - i) (by omega)
    have h2 := rev64_bit y.toNat (63 - i) (by omega)
    rw [show 63 - (63 - i) = i by omega] at h1 h2
    rw [← h1, ← h2]
    exact congrArg (fun z : Nat => z.testBit (63 - i)) h
  · rw [Nat.testBit_lt_two_pow (Nat.lt_of_lt_of_le x.isLt (Nat.pow_le_pow_right (by omega) hi)), Nat.testBit_lt_two_pow (Nat.lt_of_lt_of_le y.isLt (Nat.pow_le_pow_right (by omega) hi))]
theorem swoU : SWO (ltOf cfU) where
  irrefl x := ltU_no.2 (by unfold ltU; omega)
  trans x y z h1 h2 := by
    rw [ltU_yes] at *
    unfold ltU at *
    omega
  ntrans x y z h1 h2 := by
    rw [ltU_no] at *
    unfold ltU at *
    omega
theorem totU (x y : BitVec 64) (h1 : ltOf cfU x y = false) (h2 : ltOf cfU y x = false) : x = y := by
  rw [ltU_no] at *
  unfold ltU at *
  exact rv64_inj (by omega)
abbrev eU (x : BitVec 64) : Value := .int .u64 (x.toNat : Int)
def kU : Kn (BitVec 64) := Kn.scalar eU fun _ => rfl
theorem info_uint : (Try.prog.info? 85).map (fun i => (i.zero, i.size, i.bytes)) = some (some (.int .u64 0), 1, 8) := by kernel_rfl
set_option maxRecDepth 100000 in
set_option maxHeartbeats 1000000 in
theorem closeU (x y : BitVec 64) (W : World) : Calls Try.prog 62 #[eU x, eU y] W fun e w' => e = .returned (.int .i64 (cfU x y)) ∧ ∃ q os', w' = grow (W.drewN q) os' := by
  have hx := x.isLt
  have hy := y.isLt
  have ONX := As.mk fun W => ones_any x.toNat hx W
  have ONY := As.mk fun W => ones_any y.toNat hy W
  have RVX := As.mk fun W => rev_any x.toNat hx W
  have RVY := As.mk fun W => rev_any y.toNat hy W
  have CI := As.mk fun W => AnyG.cmp_Compare_int Try.cmpI (cnt64 x) (cnt64 y) W
  have CU := As.mk fun W => cmpU_any (rv64 y) (rv64 x) W
  obtain ⟨r, hr⟩ : ∃ r, r = cfU x y := ⟨_, rfl⟩
  rw [← hr]
  have HR := As.mk (show firstNZ [Lib.compareInt (cnt64 x) (cnt64 y), Lib.compareInt (rv64 y) (rv64 x)] = r from hr.symm)
  change As (∀ W, Calls Try.prog 64 _ _ _) at CI
  change As (∀ W, Calls Try.prog _ #[.int .u64 (x.toNat : Int)] _ fun e w' => e = .returned (.int .i64 (cnt64 x : Nat)) ∧ W = w') at ONX
  change As (∀ W, Calls Try.prog _ #[.int .u64 (y.toNat : Int)] _ fun e w' => e = .returned (.int .i64 (cnt64 y : Nat)) ∧ W = w') at ONY
  change As (∀ W, Calls Try.prog _ #[.int .u64 (x.toNat : Int)] _ fun e w' => e = .returned (.int .u64 (rv64 x : Nat)) ∧ W = w') at RVX
  change As (∀ W, Calls Try.prog _ #[.int .u64 (y.toNat : Int)] _ fun e w' => e = .returned (.int .u64 (rv64 y : Nat)) ∧ W = w') at RVY
  clear hr
  show Calls Try.prog 62 #[.int .u64 (x.toNat : Int), .int .u64 (y.toNat : Int)] W _
  generalize cnt64 x = a at *
  generalize cnt64 y = b at *
  generalize rv64 x = c at *
  generalize rv64 y = d at *
  generalize Lib.compareInt (a : Int) (b : Int) = p at *
  generalize Lib.compareInt (d : Int) (c : Int) = q at *
  generalize (x.toNat : Int) = xi at *
  generalize (y.toNat : Int) = yi at *
  have OR : As (Calls Try.prog 63 #[.slice (some ⟨W.heap.size, 0, none⟩) 2 2] (W.alloc (.cells #[.int .i64 p, .int .i64 q] 3)) fun e w' => e = .returned (.int .i64 r) ∧ W.alloc (.cells #[.int .i64 p, .int .i64 q] 3) = w') := ⟨by
    have hrow : Row (Kn.int .i64) (W.alloc (.cells #[.int .i64 p, .int .i64 q] 3)) (fun _ => True) (some ⟨W.heap.size, 0, none⟩) 2 [p, q] := by
      refine ⟨rfl, by omega, fun _ => ⟨_, rfl, trivial, by simp, fun j z hz => ⟨_, rfl, fun i u hu => ?_⟩⟩⟩
      match i, hu with
      | 0, hu =>
        rw [add_lit0, cell_of_row _ _ _ _ _ _ (heap_alloc_new W _)]
        match j, hz with
        | 0, hz => simp at hz hu; subst hz; subst hu; rfl
        | 1, hz => simp at hz hu; subst hz; subst hu; rfl
      | i + 1, hu => simp at hu
    have := or_any _ 2 2 _ _ _ hrow
    rw [HR.o] at this
    exact this⟩
  clear HR
  go_enter Try.func62, Try.ntmps62
  go_wp2_with (first
    | (go_at_call 65; first | (refine (ONX.o _).mono ?_; rintro e w1 ⟨rfl, rfl⟩) | (refine (ONY.o _).mono ?_; rintro e w1 ⟨rfl, rfl⟩))
    | (go_at_call 67; first | (refine (RVX.o _).mono ?_; rintro e w1 ⟨rfl, rfl⟩) | (refine (RVY.o _).mono ?_; rintro e w1 ⟨rfl, rfl⟩))
    | (go_at_call 64; refine (CI.o _).mono ?_; rintro e w1 ⟨rfl, rfl⟩)
    | (go_at_call 66; refine (CU.o _).mono ?_; rintro e w1 ⟨rfl, rfl⟩)
    | (go_at_call 63; refine OR.o.mono ?_; rintro e w1 ⟨rfl, rfl⟩))
  go_ret
  exact ⟨rfl, 0, _, by rw [alloc_eq_grow]; rfl⟩
end Go.Proofs.Ytlinhckgdfhppaa
namespace Go.Proofs.Ytlinhckgdfhppaa
open Go Go.RowKit Go.Proofs.YtlinhckgdfhppaaK Go.Sort

def sortU (xs : List (BitVec 64)) : List (BitVec 64) := xs.mergeSort fun x y => !(ltOf cfU) y x
set_option maxHeartbeats 1000000 in
theorem sortUint_any (w : World) (base : Nat) (v : Value) (xs : List (BitVec 64)) (h : w.ownsRow base 85 1 v xs.length (xs.map eU)) (hn : xs.length ≤ 9000) :
    Calls Try.prog 61 #[v, .func (.func 62) #[] #[]] w fun e w' => e = .returned (.tuple #[]) ∧ (∃ A c, v = .slice A xs.length c ∧ Row kU w' (fun k => k < w'.heap.size) A xs.length (sortU xs)) ∧ w.grownBy w' v.ownBlock := by
  rcases h.2 with ⟨rfl, hn0⟩ | ⟨g, cap, cur, rfl, hb, hg, hnc, hcm, hcs, htake⟩
  · obtain rfl : xs = [] := List.eq_nil_of_length_eq_zero hn0
    refine (AnyF.slices_SortFunc_none (P := Try.prog) (ρ := Try.sortU_ren) { Try.sortU with } none 0 (.func (.func 62) #[] #[]) w).mono ?_
    rintro e w' ⟨rfl, rfl⟩
    exact ⟨rfl, ⟨none, 0, rfl, by rw [show sortU [] = [] by simp [sortU]]; exact Row.nil _ _ _ _⟩, ⟨rfl, rfl, rfl, Nat.le_refl _, fun _ _ _ => rfl⟩⟩
  · have hgl : g < w.heap.size := blk_lt hg
    have hcell : ∀ j, j < xs.length → w.cell? ⟨g, j, none⟩ = some (eU xs.toArray[j]!) := by
      intro j hj
      have := h.cellAt j (by simpa using hj)
      rw [this, List.getElem?_map, List.getElem?_eq_getElem hj, getElem!_pos xs.toArray j (by simpa using hj)]
      simp
    have hH : Holds eU w g 0 xs.toArray := fun j hj => ⟨by rw [Nat.zero_add]; exact hcell j (by simpa using hj), blk_frozen hg⟩
    have eg : ∀ args w, (callFunc 62 args).run Try.prog w = .ok (.enter 62 args) w := enters_of Try.func62 (by kernel_rfl) rfl
    have hcon := Any.slices_SortFunc_total Try.sortU eU (fun _ => rfl) cfU swoU 62 #[] g 0 cap xs.toArray w eg (fun _ _ _ _ x y => closeU x y _) hH hgl (by simp; omega) totU
    rw [show xs.toArray.size = xs.length by simp] at hcon
    refine hcon.mono ?_
    rintro e w' ⟨rfl, n, os, rfl⟩
    have hms : xs.toArray.toList.mergeSort (fun x y => !(ltOf cfU) y x) = sortU xs := rfl
    rw [hms]
    have hsl : (sortU xs).length = xs.length := List.length_mergeSort xs
    have hsz : w.heap.size ≤ (sortWorld eU w g 0 n (sortU xs).toArray os).heap.size := by
      unfold sortWorld
      rw [size_grow, size_putRow]
      exact Nat.le_add_right _ _
    have hH' : Holds eU (sortWorld eU w g 0 n (sortU xs).toArray os) g 0 (sortU xs).toArray := by
      unfold sortWorld
      exact holds_grow eU _ os g 0 _ (by rw [size_putRow]; exact hgl) (holds_putRow eU _ g 0 xs.toArray _ hH (by simp [hsl]))
    have hblk : ∀ k, k < w.heap.size → k ≠ g → (sortWorld eU w g 0 n (sortU xs).toArray os).heap[k]? = w.heap[k]? := by
      intro k hk hne
      unfold sortWorld
      rw [heap_grow_old _ _ (by rw [size_putRow]; exact hk)]
      simp [putRow, mapBlock, Array.getElem?_modify, Ne.symm hne, Sort.ahead]
    refine ⟨rfl, ⟨_, _, rfl, hsl, by omega, fun hn0 => ⟨_, rfl, Nat.lt_of_lt_of_le hgl hsz, Nat.lt_of_lt_of_le hgl hsz, fun j x hx => ⟨_, rfl, fun i u hu => ?_⟩⟩⟩, ⟨rfl, rfl, rfl, hsz, fun k hk hne => hblk k hk (fun e => hne (by rw [e]; rfl))⟩⟩
    match i, hu with
    | 0, hu =>
      have hj : j < (sortU xs).length := (List.getElem?_eq_some_iff.1 hx).1
      have hc := (hH' j (by simpa using hj)).1
      rw [getElem!_pos (sortU xs).toArray j (by simpa using hj), Nat.zero_add] at hc
      rw [add_lit0]
      have hx2 : (sortU xs)[j] = x := (List.getElem?_eq_some_iff.1 hx).2
      simp only [List.getElem_toArray, hx2] at hc
      simp at hu
      subst hu
      show World.cell? _ ⟨g, j * 1 + 0, none⟩ = _
      rw [show j * 1 + 0 = j by omega]
      exact hc
    | i + 1, hu => simp at hu
/-- The sets below k that suffice. -/
def selTo (g : Goal) (list : List Hold) (k : Nat) : List (BitVec 64) := ((List.range k).filter fun s => decide (psum g list s = 0)).map (BitVec.ofNat 64)
theorem selTo_succ (g : Goal) (list : List Hold) (k : Nat) : selTo g list (k + 1) = if psum g list k = 0 then selTo g list k ++ [BitVec.ofNat 64 k] else selTo g list k := by
  unfold selTo
  rw [List.range_succ, List.filter_append]
  by_cases h : psum g list k = 0 <;> simp [h]
theorem selTo_len (g : Goal) (list : List Hold) (k : Nat) : (selTo g list k).length ≤ k := by
  unfold selTo
  rw [List.length_map]
  exact Nat.le_trans (List.length_filter_le _ _) (by simp)
/-- All sets that suffice, as the program orders them. -/
def setsP (g : Goal) (list : List Hold) : List (BitVec 64) := sortU (selTo g list (2 ^ list.length))
set_option maxRecDepth 100000 in
set_option maxHeartbeats 2000000 in
theorem setsP_any (pb : Nat) (g : Goal) (list : List Hold) (w : World) (h : PIn w pb g list) (hv : Valid g list) :
    Calls Try.prog 38 #[.pointer (some ⟨pb, 0, none⟩)] w fun e w' => ∃ A n c, e = .returned (.slice A n c) ∧ Row kU w' (fun k => k < w'.heap.size) A n (setsP g list) ∧ Below w.heap.size w w' := by
  have HP := As.mk h
  have HV := As.mk hv
  have h12 := hv.ok.hnl
  have h2 : 2 ^ list.length ≤ 2 ^ 12 := Nat.pow_le_pow_right (by omega) h12
  have h1 : 0 < 2 ^ list.length := Nat.pow_pos (by omega)
  have ALL : As (∀ (W : World), Below w.heap.size w W → Calls Try.prog 60 #[.pointer (some ⟨pb, 0, none⟩)] W fun e w' => e = .returned (.int .u64 ((2 ^ list.length - 1 : Nat) : Int)) ∧ W = w') := ⟨fun W hW => setAllQ (HP.o.below hW) HV.o⟩
  have SUF : As (∀ (W : World) (s : Nat) (b : Bool), Below w.heap.size w W → s < 18446744073709551616 → (psum g list s == 0) = b → Calls Try.prog 39 #[.pointer (some ⟨pb, 0, none⟩), .int .u64 (s : Int)] W fun e w' => e = .returned (.bool b) ∧ Below W.heap.size W w') := ⟨fun W s b hW hs hb => sufficesQ (HP.o.below hW) HV.o s hs b hb⟩
  have SP := As.mk (show setsP g list = sortU (selTo g list (2 ^ list.length)) from rfl)
  generalize setsP g list = res at *
  generalize 2 ^ list.length = T at *
  clear h hv
  go_enter Try.func38, Try.ntmps38
  go_wp2
  go_loopw [3, 4] (fun v i' wr => ∃ k : Nat, k ≤ T ∧ i' = .int .u64 k ∧ As (Own kU 85 wr w.heap.size v (selTo g list k)) ∧ As (Below w.heap.size w wr)) (fun _ i' _ => T - (intOf i').toNat)
  case atStart => exact ⟨0, Nat.zero_le _, rfl, ⟨Own.nil _ _ _ _⟩, ⟨Below.refl _ _⟩⟩
  case round =>
    obtain ⟨k, hk, rfl, HO, HB⟩ := hrel
    have hk64 : k < 18446744073709551616 := by omega
    by_cases hlt : k < T
    · have dk : decide ((k : Int) ≤ ((T - 1 : Nat) : Int)) = true := decide_eq_true (by omega)
      have dk2 : (k : Int) ≤ ((T - 1 : Nat) : Int) := by omega
      have wk : IntKind.u64.wrap ((k : Int) + 1) = ((k + 1 : Nat) : Int) := by
        rw [show (k : Int) + 1 = ((k + 1 : Nat) : Int) by omega]
        exact wrap64 _ (by omega)
      have SL := As.mk (selTo_succ g list k)
      have hln := selTo_len g list k
      obtain ⟨b, hb⟩ : ∃ b, (psum g list k == 0) = b := ⟨_, rfl⟩
      have HBQ := As.mk hb
      have SUFK := As.mk fun W hW => SUF.o W k b hW hk64 hb
      clear hb
      generalize T - 1 = T1 at *
      cases b
      · have hne : psum g list k ≠ 0 := by
          intro e
          have := HBQ.o
          rw [e] at this
          cases this
        rw [if_neg hne] at SL
        clear hne
        go_wp2_with (first
          | (go_at_call 60; refine (ALL.o _ HB.o).mono ?_; rintro e w1 ⟨rfl, rfl⟩)
          | (go_at_call 39; refine (SUFK.o _ HB.o).mono ?_; rintro e w2 ⟨rfl, hb2⟩))
        go_roundw
        case rel => exact ⟨k + 1, by omega, by go_num, ⟨by rw [SL.o]; exact HO.o.below hb2⟩, ⟨bthen HB.o hb2 (Nat.le_refl _)⟩⟩
        case measure => simp [intOf]; omega
      · have he : psum g list k = 0 := of_decide_eq_true HBQ.o
        rw [if_pos he] at SL
        clear he
        have HKV : As (∀ (W : World) (ok : Nat → Prop), kU.K W ok (BitVec.ofNat 64 k) [.int .u64 (k : Int)]) := ⟨fun W ok => by
          show [Value.int .u64 (k : Int)] = [eU (BitVec.ofNat 64 k)]
          simp [eU, Nat.mod_eq_of_lt hk64]⟩
        generalize BitVec.ofNat 64 k = xk at *
        go_wp2_with (first
          | (go_at_call 60; refine (ALL.o _ HB.o).mono ?_; rintro e w1 ⟨rfl, rfl⟩)
          | (go_at_call 39; refine (SUFK.o _ HB.o).mono ?_; rintro e w2 ⟨rfl, hb2⟩; have HO1 := As.mk (HO.o.below hb2); have hs2 := hb2.size)
          | (at_builtin; refine app_one kU w.heap.size rfl (.tmp 14) (.tmp 16) 86 (.int .u64 0) 8 rfl Try.underlying86 info_uint rfl (by decide) u3 _ xk [.int .u64 (k : Int)] rfl (by show Value.slice _ _ _ = _; simp) HO1.o (HKV.o _ _) (by have := HB.o.size; simp; omega) (by omega) (by omega) ?_; intro v1 w3 HO2 hg hat))
        go_roundw
        case rel =>
          refine ⟨k + 1, by omega, by go_num, ⟨by rw [SL.o]; exact HO2⟩, ⟨?_⟩⟩
          exact (bthen HB.o hb2 (Nat.le_refl _)).trans (HO1.o.base_le hg (Nat.le_refl _) (by have := HB.o.size; omega))
        case measure => simp [intOf]; omega
    · have e : k = T := by omega
      subst e
      have dk : decide ((k : Int) ≤ ((k - 1 : Nat) : Int)) = false := decide_eq_false (by omega)
      have dk2 : ¬ (k : Int) ≤ ((k - 1 : Nat) : Int) := by omega
      have hln := selTo_len g list k
      obtain ⟨Av, cv, rfl, _, _⟩ := HO.o.shape
      have SORT := As.mk (sortUint_any wr w.heap.size (.slice Av (selTo g list k).length cv) (selTo g list k) HO.o.scalar (by omega))
      have hlt2 := HO.o.lt
      have HLT := As.mk hlt2
      generalize k - 1 = T1 at *
      clear hlt2
      go_wp2_with (first
        | (go_at_call 60; refine (ALL.o _ HB.o).mono ?_; rintro e w1 ⟨rfl, rfl⟩)
        | (go_at_call 61; refine SORT.o.mono ?_; rintro e w2 ⟨rfl, ⟨A, c, ev, hrow⟩, hg2⟩))
      go_ret
      refine ⟨_, _, _, rfl, by rw [SP.o]; exact hrow, ⟨hg2.os.trans HB.o.os, hg2.tape.trans HB.o.tape, hg2.output.trans HB.o.output, Nat.le_trans HB.o.size hg2.size, fun j hj => (hg2.block j (by have := HB.o.size; omega) (fun e => by have := (HLT.o j e.symm).1; omega)).trans (HB.o.block j hj)⟩⟩
end Go.Proofs.Ytlinhckgdfhppaa
