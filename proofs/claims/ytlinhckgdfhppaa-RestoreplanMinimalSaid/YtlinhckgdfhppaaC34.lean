/- A part of the proof: what the functions do, and plain laws. -/
import Derived.Test.YtlinhckgdfhppaaC33
namespace Go.Proofs.Ytlinhckgdfhppaa
open Go Go.RowKit Go.Proofs.YtlinhckgdfhppaaK Go.Sort

def sortU (xs : List (BitVec 64)) : List (BitVec 64) := xs.mergeSort fun x y => !(ltOf cfU) y x
set_option maxHeartbeats 1000000 in
theorem sortUint_any (w : World) (base : Nat) (v : Value) (xs : List (BitVec 64)) (h : w.ownsRow base 85 1 v xs.length (xs.map eU)) (hn : xs.length ≤ 9000) :
    Calls Try.prog 61 #[v, .func (.func 62) #[] #[]] w fun e w' => e = .returned (.tuple #[]) ∧ (∃ A c, v = .slice A xs.length c ∧ Row kU w' (fun k => k < w'.heap.size) A xs.length (sortU xs)) ∧ w.grownBy w' v.ownBlock := by
  rcases h.2 with ⟨rfl, hn0⟩ | ⟨g, cap, cur, rfl, hb, hg, hnc, hcm, hcs, htake⟩
  · obtain rfl : xs = [] := List.eq_nil_of_length_eq_zero hn0
    refine (AnyF.slices_SortFunc_none (P := Try.prog) (ρ := Try.sortU_ren) { Try.sortU with } none 0 (.func (.func 62) #[] #[]) w).mono ?_
    rintro e w' ⟨rfl, rfl⟩
    exact ⟨rfl, ⟨none, 0, rfl, by rw [show sortU [] = [] by simp [sortU]]; exact Row.nil _ _ _ _⟩, ⟨rfl, rfl, rfl, Nat.le_refl _, fun _ _ _ => rfl⟩⟩
  · have hgl : g < w.heap.size := blk_lt hg
    have hcell : ∀ j, j < xs.length → w.cell? ⟨g, j, none⟩ = some (eU xs.toArray[j]!) := by
      intro j hj
      have := h.cellAt j (by simpa using hj)
      rw [this, List.getElem?_map, List.getElem?_eq_getElem hj, getElem!_pos xs.toArray j (by simpa using hj)]
      simp
    have hH : Holds eU w g 0 xs.toArray := fun j hj => ⟨by rw [Nat.zero_add]; exact hcell j (by simpa using hj), blk_frozen hg⟩
    have eg : ∀ args w, (callFunc 62 args).run Try.prog w = .ok (.enter 62 args) w := enters_of Try.func62 (by kernel_rfl) rfl
    have hcon := Any.slices_SortFunc_total Try.sortU eU (fun _ => rfl) cfU swoU 62 #[] g 0 cap xs.toArray w eg (fun _ _ _ _ x y => closeU x y _) hH hgl (by simp; omega) totU
    rw [show xs.toArray.size = xs.length by simp] at hcon
    refine hcon.mono ?_
    rintro e w' ⟨rfl, n, os, rfl⟩
    have hms : xs.toArray.toList.mergeSort (fun x y => !(ltOf cfU) y x) = sortU xs := rfl
    rw [hms]
    have hsl : (sortU xs).length = xs.length := List.length_mergeSort xs
    have hsz : w.heap.size ≤ (sortWorld eU w g 0 n (sortU xs).toArray os).heap.size := by
      unfold sortWorld
      rw [size_grow, size_putRow]
      exact Nat.le_add_right _ _
    have hH' : Holds eU (sortWorld eU w g 0 n (sortU xs).toArray os) g 0 (sortU xs).toArray := by
      unfold sortWorld
      exact holds_grow eU _ os g 0 _ (by rw [size_putRow]; exact hgl) (holds_putRow eU _ g 0 xs.toArray _ hH (by simp [hsl]))
    have hblk : ∀ k, k < w.heap.size → k ≠ g → (sortWorld eU w g 0 n (sortU xs).toArray os).heap[k]? = w.heap[k]? := by
      intro k hk hne
      unfold sortWorld
      rw [heap_grow_old _ _ (by rw [size_putRow]; exact hk)]
      simp [putRow, mapBlock, Array.getElem?_modify, Ne.symm hne, Sort.ahead]
    refine ⟨rfl, ⟨_, _, rfl, hsl, by omega, fun hn0 => ⟨_, rfl, Nat.lt_of_lt_of_le hgl hsz, Nat.lt_of_lt_of_le hgl hsz, fun j x hx => ⟨_, rfl, fun i u hu => ?_⟩⟩⟩, ⟨rfl, rfl, rfl, hsz, fun k hk hne => hblk k hk (fun e => hne (by rw [e]; rfl))⟩⟩
    match i, hu with
    | 0, hu =>
      have hj : j < (sortU xs).length := (List.getElem?_eq_some_iff.1 hx).1
      have hc := (hH' j (by simpa using hj)).1
      rw [getElem!_pos (sortU xs).toArray j (by simpa using hj), Nat.zero_add] at hc
      rw [add_lit0]
      have hx2 : (sortU xs)[j] = x := (List.getElem?_eq_some_iff.1 hx).2
      simp only [List.getElem_toArray, hx2] at hc
      simp at hu
      subst hu
      show World.cell? _ ⟨g, j * 1 + 0, none⟩ = _
      rw [show j * 1 + 0 = j by omega]
      exact hc
    | i + 1, hu => simp at hu
/-- The sets below k that suffice. -/
def selTo (g : Goal) (list : List Hold) (k : Nat) : List (BitVec 64) := ((List.range k).filter fun s => decide (psum g list s = 0)).map (BitVec.ofNat 64)
theorem selTo_succ (g : Goal) (list : List Hold) (k : Nat) : selTo g list (k + 1) = if psum g list k = 0 then selTo g list k ++ [BitVec.ofNat 64 k] else selTo g list k := by
  unfold selTo
  rw [List.range_succ, List.filter_append]
  by_cases h : psum g list k = 0 <;> simp [h]
theorem selTo_len (g : Goal) (list : List Hold) (k : Nat) : (selTo g list k).length ≤ k := by
  unfold selTo
  rw [List.length_map]
  exact Nat.le_trans (List.length_filter_le _ _) (by simp)
/-- All sets that suffice, as the program orders them. -/
def setsP (g : Goal) (list : List Hold) : List (BitVec 64) := sortU (selTo g list (2 ^ list.length))
set_option maxRecDepth 100000 in
set_option maxHeartbeats 2000000 in
theorem setsP_any (pb : Nat) (g : Goal) (list : List Hold) (w : World) (h : PIn w pb g list) (hv : Valid g list) :
    Calls Try.prog 38 #[.pointer (some ⟨pb, 0, none⟩)] w fun e w' => ∃ A n c, e = .returned (.slice A n c) ∧ Row kU w' (fun k => k < w'.heap.size) A n (setsP g list) ∧ Below w.heap.size w w' := by
  have HP := As.mk h
  have HV := As.mk hv
  have h12 := hv.ok.hnl
  have h2 : 2 ^ list.length ≤ 2 ^ 12 := Nat.pow_le_pow_right (by omega) h12
  have h1 : 0 < 2 ^ list.length := Nat.pow_pos (by omega)
  have ALL : As (∀ (W : World), Below w.heap.size w W → Calls Try.prog 60 #[.pointer (some ⟨pb, 0, none⟩)] W fun e w' => e = .returned (.int .u64 ((2 ^ list.length - 1 : Nat) : Int)) ∧ W = w') := ⟨fun W hW => setAllQ (HP.o.below hW) HV.o⟩
  have SUF : As (∀ (W : World) (s : Nat) (b : Bool), Below w.heap.size w W → s < 18446744073709551616 → (psum g list s == 0) = b → Calls Try.prog 39 #[.pointer (some ⟨pb, 0, none⟩), .int .u64 (s : Int)] W fun e w' => e = .returned (.bool b) ∧ Below W.heap.size W w') := ⟨fun W s b hW hs hb => sufficesQ (HP.o.below hW) HV.o s hs b hb⟩
  have SP := As.mk (show setsP g list = sortU (selTo g list (2 ^ list.length)) from rfl)
  generalize setsP g list = res at *
  generalize 2 ^ list.length = T at *
  clear h hv
  go_enter Try.func38, Try.ntmps38
  go_wp2
  go_loopw [3, 4] (fun v i' wr => ∃ k : Nat, k ≤ T ∧ i' = .int .u64 k ∧ As (Own kU 85 wr w.heap.size v (selTo g list k)) ∧ As (Below w.heap.size w wr)) (fun _ i' _ => T - (intOf i').toNat)
  case atStart => exact ⟨0, Nat.zero_le _, rfl, ⟨Own.nil _ _ _ _⟩, ⟨Below.refl _ _⟩⟩
  case round =>
    obtain ⟨k, hk, rfl, HO, HB⟩ := hrel
    have hk64 : k < 18446744073709551616 := by omega
    by_cases hlt : k < T
    · have dk : decide ((k : Int) ≤ ((T - 1 : Nat) : Int)) = true := decide_eq_true (by omega)
      have dk2 : (k : Int) ≤ ((T - 1 : Nat) : Int) := by omega
      have wk : IntKind.u64.wrap ((k : Int) + 1) = ((k + 1 : Nat) : Int) := by
        rw [show (k : Int) + 1 = ((k + 1 : Nat) : Int) by omega]
        exact wrap64 _ (by omega)
      have SL := As.mk (selTo_succ g list k)
      have hln := selTo_len g list k
      obtain ⟨b, hb⟩ : ∃ b, (psum g list k == 0) = b := ⟨_, rfl⟩
      have HBQ := As.mk hb
      have SUFK := As.mk fun W hW => SUF.o W k b hW hk64 hb
      clear hb
      generalize T - 1 = T1 at *
      cases b
      · have hne : psum g list k ≠ 0 := by
          intro e
          have := HBQ.o
          rw [e] at this
          cases this
        rw [if_neg hne] at SL
        clear hne
        go_wp2_with (first
          | (go_at_call 60; refine (ALL.o _ HB.o).mono ?_; rintro e w1 ⟨rfl, rfl⟩)
          | (go_at_call 39; refine (SUFK.o _ HB.o).mono ?_; rintro e w2 ⟨rfl, hb2⟩))
        go_roundw
        case rel => exact ⟨k + 1, by omega, by go_num, ⟨by rw [SL.o]; exact HO.o.below hb2⟩, ⟨bthen HB.o hb2 (Nat.le_refl _)⟩⟩
        case measure => simp [intOf]; omega
      · have he : psum g list k = 0 := of_decide_eq_true HBQ.o
        rw [if_pos he] at SL
        clear he
        have HKV : As (∀ (W : World) (ok : Nat → Prop), kU.K W ok (BitVec.ofNat 64 k) [.int .u64 (k : Int)]) := ⟨fun W ok => by
          show [Value.int .u64 (k : Int)] = [eU (BitVec.ofNat 64 k)]
          simp [eU, Nat.mod_eq_of_lt hk64]⟩
        generalize BitVec.ofNat 64 k = xk at *
        go_wp2_with (first
          | (go_at_call 60; refine (ALL.o _ HB.o).mono ?_; rintro e w1 ⟨rfl, rfl⟩)
          | (go_at_call 39; refine (SUFK.o _ HB.o).mono ?_; rintro e w2 ⟨rfl, hb2⟩; have HO1 := As.mk (HO.o.below hb2); have hs2 := hb2.size)
          | (at_builtin; refine app_one kU w.heap.size rfl (.tmp 14) (.tmp 16) 86 (.int .u64 0) 8 rfl Try.underlying86 info_uint rfl (by decide) u3 _ xk [.int .u64 (k : Int)] rfl (by show Value.slice _ _ _ = _; simp) HO1.o (HKV.o _ _) (by have := HB.o.size; simp; omega) (by omega) (by omega) ?_; intro v1 w3 HO2 hg hat))
        go_roundw
        case rel =>
          refine ⟨k + 1, by omega, by go_num, ⟨by rw [SL.o]; exact HO2⟩, ⟨?_⟩⟩
          exact (bthen HB.o hb2 (Nat.le_refl _)).trans (HO1.o.base_le hg (Nat.le_refl _) (by have := HB.o.size; omega))
        case measure => simp [intOf]; omega
    · have e : k = T := by omega
      subst e
      have dk : decide ((k : Int) ≤ ((k - 1 : Nat) : Int)) = false := decide_eq_false (by omega)
      have dk2 : ¬ (k : Int) ≤ ((k - 1 : Nat) : Int) := by omega
      have hln := selTo_len g list k
      obtain ⟨Av, cv, rfl, _, _⟩ := HO.o.shape
      have SORT := As.mk (sortUint_any wr w.heap.size (.slice Av (selTo g list k).length cv) (selTo g list k) HO.o.scalar (by omega))
      have hlt2 := HO.o.lt
      have HLT := As.mk hlt2
      generalize k - 1 = T1 at *
      clear hlt2
      go_wp2_with (first
        | (go_at_call 60; refine (ALL.o _ HB.o).mono ?_; rintro e w1 ⟨rfl, rfl⟩)
        | (go_at_call 61; refine SORT.o.mono ?_; rintro e w2 ⟨rfl, ⟨A, c, ev, hrow⟩, hg2⟩))
      go_ret
      refine ⟨_, _, _, rfl, by rw [SP.o]; exact hrow, ⟨hg2.os.trans HB.o.os, hg2.tape.trans HB.o.tape, hg2.output.trans HB.o.output, Nat.le_trans HB.o.size hg2.size, fun j hj => (hg2.block j (by have := HB.o.size; omega) (fun e => by have := (HLT.o j e.symm).1; omega)).trans (HB.o.block j hj)⟩⟩
end Go.Proofs.Ytlinhckgdfhppaa
