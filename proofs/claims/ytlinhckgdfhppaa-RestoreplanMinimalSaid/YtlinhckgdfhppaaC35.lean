/- A part of the proof: what the functions do, and plain laws. -/
import Derived.Test.YtlinhckgdfhppaaC34
namespace Go.Proofs.Ytlinhckgdfhppaa
open Go Go.RowKit Go.Proofs.YtlinhckgdfhppaaK

def ug (xs : List (BitVec 64)) (k : Nat) : BitVec 64 := xs.getD k 0
theorem ug_eq (xs : List (BitVec 64)) (k : Nat) (h : k < xs.length) : ug xs k = xs[k] := by simp [ug, List.getD_eq_getElem?_getD, List.getElem?_eq_getElem h]
theorem rowU {w : World} {ok : Nat → Prop} {A : Option Addr} {n : Nat} {xs : List (BitVec 64)} (h : Row kU w ok A n xs) (k : Nat) (hk : k < n) :
    ∃ ad, A = some ad ∧ ok ad.block ∧ ad.block < w.heap.size ∧ w.cell? (ad.add k) = some (.int .u64 ((ug xs k).toNat : Int)) := by
  obtain ⟨ad, cs, e, ho, hlt, hK, hc⟩ := h.at_ 0 k hk
  obtain rfl : cs = [eU (ug xs k)] := hK
  exact ⟨ad, e, ho, hlt, by simpa [kU, Kn.scalar] using hc 0 _ rfl⟩
theorem selTo_mem (g : Goal) (list : List Hold) (k : Nat) (x : BitVec 64) : x ∈ selTo g list k ↔ ∃ s, s < k ∧ psum g list s = 0 ∧ BitVec.ofNat 64 s = x := by
  simp [selTo, and_assoc]
theorem setsP_mem (g : Goal) (list : List Hold) (x : BitVec 64) : x ∈ setsP g list ↔ ∃ s, s < 2 ^ list.length ∧ psum g list s = 0 ∧ BitVec.ofNat 64 s = x := by
  unfold setsP sortU
  rw [(List.mergeSort_perm _ _).mem_iff, selTo_mem]
theorem setsP_len (g : Goal) (list : List Hold) : (setsP g list).length ≤ 2 ^ list.length := by
  unfold setsP sortU
  rw [List.length_mergeSort]
  exact selTo_len g list _
theorem possOf_zero {g : Goal} {list : List Hold} (h : possOf g list = 0) : Valid g list ∧ psum g list (2 ^ list.length - 1) = 0 := by
  by_cases hv : Valid g list
  · refine ⟨hv, ?_⟩
    by_cases hp : psum g list (2 ^ list.length - 1) = 0
    · exact hp
    · rw [possOf_short hv hp] at h; cases h
  · rw [possOf_no hv] at h; cases h
theorem setsP_pos {g : Goal} {list : List Hold} (h : possOf g list = 0) : 0 < (setsP g list).length := by
  have hp := (possOf_zero h).2
  have h1 : 0 < 2 ^ list.length := Nat.pow_pos (by omega)
  exact List.length_pos_of_mem ((setsP_mem g list _).2 ⟨2 ^ list.length - 1, by omega, hp, rfl⟩)
section
variable (g : Goal) (A1 : Option Addr) (c1 : Nat) (A2 : Option Addr) (c2 : Nat) (A3 : Option Addr) (c3 : Nat) (A4 : Option Addr) (c4 : Nat) (list : List Hold) (w : World)
theorem possNo (hg : GoalIn w (fun k => k < w.heap.size) g A1 c1 A2 c2 A3 c3) (hl : Row kHold w (fun k => k < w.heap.size) A4 list.length list) (h0 : possOf g list ≠ 0) (W : World) (hW : Below w.heap.size w W) :
    Calls Try.prog 36 #[.agg (goalCells g A1 c1 A2 c2 A3 c3), .slice A4 list.length c4] W fun e w' => e = .returned (.tuple #[.pointer none, .int .i64 (possOf g list)]) ∧ Below W.heap.size W w' :=
  (possible_any g A1 c1 A2 c2 A3 c3 A4 c4 list W ⟨(hg.n.below hW).mono fun k hk => Nat.lt_of_lt_of_le hk hW.size, hg.cn, (hg.p.below hW).mono fun k hk => Nat.lt_of_lt_of_le hk hW.size, hg.cp, (hg.s.below hW).mono fun k hk => Nat.lt_of_lt_of_le hk hW.size, hg.cs⟩ ((hl.below hW).mono fun k hk => Nat.lt_of_lt_of_le hk hW.size)).mono fun e w' ⟨v, r, he, hr, hn, _, hb⟩ => by
    subst hr
    rw [hn h0] at he
    exact ⟨he, hb⟩
theorem possYes (hg : GoalIn w (fun k => k < w.heap.size) g A1 c1 A2 c2 A3 c3) (hl : Row kHold w (fun k => k < w.heap.size) A4 list.length list) (h0 : possOf g list = 0) (W : World) (hW : Below w.heap.size w W) :
    Calls Try.prog 36 #[.agg (goalCells g A1 c1 A2 c2 A3 c3), .slice A4 list.length c4] W fun e w' => ∃ pb, e = .returned (.tuple #[.pointer (some ⟨pb, 0, none⟩), .int .i64 0]) ∧ PIn w' pb g list ∧ Below W.heap.size W w' :=
  (possible_any g A1 c1 A2 c2 A3 c3 A4 c4 list W ⟨(hg.n.below hW).mono fun k hk => Nat.lt_of_lt_of_le hk hW.size, hg.cn, (hg.p.below hW).mono fun k hk => Nat.lt_of_lt_of_le hk hW.size, hg.cp, (hg.s.below hW).mono fun k hk => Nat.lt_of_lt_of_le hk hW.size, hg.cs⟩ ((hl.below hW).mono fun k hk => Nat.lt_of_lt_of_le hk hW.size)).mono fun e w' ⟨v, r, he, hr, _, hy, hb⟩ => by
    rw [h0] at hr
    subst hr
    obtain ⟨_, _, pb, hv, hp⟩ := hy rfl
    subst hv
    exact ⟨pb, he, hp, hb⟩
/-- The fewest devices. -/
def fewestP : List Int := if possOf g list = 0 then pickTo (sortH list) (ug (setsP g list) 0).toNat list.length else []
set_option maxRecDepth 100000 in
set_option maxHeartbeats 1000000 in
theorem fewest_any (hg : GoalIn w (fun k => k < w.heap.size) g A1 c1 A2 c2 A3 c3) (hl : Row kHold w (fun k => k < w.heap.size) A4 list.length list) :
    Calls Try.prog 12 #[.agg (goalCells g A1 c1 A2 c2 A3 c3), .slice A4 list.length c4] w fun e w' => ∃ A c, e = .returned (.tuple #[.slice A (fewestP g list).length c, .int .i64 (possOf g list)]) ∧ (fewestP g list).length ≤ c ∧ Row (Kn.int .i64) w' (fun k => w.heap.size ≤ k ∧ k < w'.heap.size) A (fewestP g list).length (fewestP g list) ∧ Below w.heap.size w w' := by
  have hB0 : Below w.heap.size w (w.alloc (.cells (goalCells g A1 c1 A2 c2 A3 c3) 26)) := (Below.refl _ _).alloc (Nat.le_refl _) _
  by_cases h0 : possOf g list = 0
  · have POS := As.mk (possYes g A1 c1 A2 c2 A3 c3 A4 c4 list w hg hl h0 _ hB0)
    have HB0 := As.mk hB0
    have hv := (possOf_zero h0).1
    have hp := setsP_pos h0
    have hF : fewestP g list = pickTo (sortH list) (ug (setsP g list) 0).toNat list.length := if_pos h0
    have h64 := (ug (setsP g list) 0).isLt
    rw [hF, h0]
    have SETS := As.mk fun (W : World) (pb : Nat) (h : PIn W pb g list) => setsP_any pb g list W h hv
    have PICK := As.mk fun (W : World) (pb : Nat) (h : PIn W pb g list) => pickQ h hv (ug (setsP g list) 0).toNat h64
    clear hg hl hB0 hv h0 hF h64
    generalize pickTo (sortH list) (ug (setsP g list) 0).toNat list.length = res at *
    generalize setsP g list = S at *
    go_enter Try.func12, Try.ntmps12
    go_wp2_with (first
      | (go_at_call 36; refine POS.o.mono ?_; rintro e w1 ⟨pb, rfl, hp1, hb1⟩)
      | (go_at_call 38; refine (SETS.o _ _ hp1).mono ?_; rintro e w2 ⟨A, n, c, rfl, hrow, hb2⟩; have hn0 : 0 < n := (by rw [← hrow.1]; exact hp); have hn1 : (0 : Int) < (n : Int) := (by omega); obtain ⟨ad, eA, _, _, hcell⟩ := rowU hrow 0 hn0; subst eA; have hcell2 : w2.cell? ad = some (.int .u64 ((ug S 0).toNat : Int)) := hcell)
      | (go_at_call 37; refine (PICK.o _ _ (hp1.below hb2)).mono ?_; rintro e w3 ⟨v, rfl, hown, hb3⟩))
    go_ret2
    obtain ⟨Av, cv, rfl, hlc, hrv⟩ := own_row (flat_int .i64) hown
    have s1 := hb1.size
    have s2 := hb2.size
    have s3 := hb3.size
    simp at s1
    refine ⟨_, _, rfl, hlc, hrv.bound.mono fun k hk => ⟨?_, hk.2⟩, bthen (bthen (bthen HB0.o hb1 (by simp)) hb2 ?_) hb3 ?_⟩
    · have := hk.1.1
      omega
    · omega
    · omega
  · have POS := As.mk (possNo g A1 c1 A2 c2 A3 c3 A4 c4 list w hg hl h0 _ hB0)
    have HB0 := As.mk hB0
    have hF : fewestP g list = [] := if_neg h0
    rw [hF]
    have d0 : (possOf g list == 0) = false := by simp [h0]
    clear hg hl hB0 hF
    generalize possOf g list = r at *
    go_enter Try.func12, Try.ntmps12
    go_wp2_with (go_at_call 36; refine POS.o.mono ?_; rintro e w1 ⟨rfl, hb1⟩)
    go_ret2
    exact ⟨_, _, rfl, Nat.le_refl _, Row.nil _ _ _ _, bthen HB0.o hb1 (by simp)⟩
end
end Go.Proofs.Ytlinhckgdfhppaa
