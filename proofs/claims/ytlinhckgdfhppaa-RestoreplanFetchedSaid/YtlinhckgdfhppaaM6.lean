/- A part of the proof: what the functions do, and plain laws. -/
import Derived.Test.YtlinhckgdfhppaaM5
import Derived.WalkMore
set_option linter.unusedSimpArgs false
set_option linter.unusedVariables false
namespace Go.Proofs.Ytlinhckgdfhppaa
open Go Go.RowKit Go.Proofs.YtlinhckgdfhppaaK

def ug (xs : List (BitVec 64)) (k : Nat) : BitVec 64 := xs.getD k 0
theorem ug_eq (xs : List (BitVec 64)) (k : Nat) (h : k < xs.length) : ug xs k = xs[k] := by simp [ug, List.getD_eq_getElem?_getD, List.getElem?_eq_getElem h]
theorem rowU {w : World} {ok : Nat → Prop} {A : Option Addr} {n : Nat} {xs : List (BitVec 64)} (h : Row kU w ok A n xs) (k : Nat) (hk : k < n) :
    ∃ ad, A = some ad ∧ ok ad.block ∧ ad.block < w.heap.size ∧ w.cell? (ad.add k) = some (.int .u64 ((ug xs k).toNat : Int)) := by
  obtain ⟨ad, cs, e, ho, hlt, hK, hc⟩ := h.at_ 0 k hk
  obtain rfl : cs = [eU (ug xs k)] := hK
  exact ⟨ad, e, ho, hlt, by simpa [kU, Kn.scalar] using hc 0 _ rfl⟩
theorem selTo_mem (g : Goal) (list : List Hold) (k : Nat) (x : BitVec 64) : x ∈ selTo g list k ↔ ∃ s, s < k ∧ psum g list s = 0 ∧ BitVec.ofNat 64 s = x := by
  simp [selTo, and_assoc]
theorem setsP_mem (g : Goal) (list : List Hold) (x : BitVec 64) : x ∈ setsP g list ↔ ∃ s, s < 2 ^ list.length ∧ psum g list s = 0 ∧ BitVec.ofNat 64 s = x := by
  unfold setsP sortU
  rw [(List.mergeSort_perm _ _).mem_iff, selTo_mem]
theorem setsP_len (g : Goal) (list : List Hold) : (setsP g list).length ≤ 2 ^ list.length := by
  unfold setsP sortU
  rw [List.length_mergeSort]
  exact selTo_len g list _
theorem possOf_zero {g : Goal} {list : List Hold} (h : possOf g list = 0) : Valid g list ∧ psum g list (2 ^ list.length - 1) = 0 := by
  by_cases hv : Valid g list
  · refine ⟨hv, ?_⟩
    by_cases hp : psum g list (2 ^ list.length - 1) = 0
    · exact hp
    · rw [possOf_short hv hp] at h; cases h
  · rw [possOf_no hv] at h; cases h
theorem setsP_pos {g : Goal} {list : List Hold} (h : possOf g list = 0) : 0 < (setsP g list).length := by
  have hp := (possOf_zero h).2
  have h1 : 0 < 2 ^ list.length := Nat.pow_pos (by omega)
  exact List.length_pos_of_mem ((setsP_mem g list _).2 ⟨2 ^ list.length - 1, by omega, hp, rfl⟩)
section
variable (g : Goal) (A1 : Option Addr) (c1 : Nat) (A2 : Option Addr) (c2 : Nat) (A3 : Option Addr) (c3 : Nat) (A4 : Option Addr) (c4 : Nat) (list : List Hold) (w : World)
theorem possNo (hg : GoalIn w (fun k => k < w.heap.size) g A1 c1 A2 c2 A3 c3) (hl : Row kHold w (fun k => k < w.heap.size) A4 list.length list) (h0 : possOf g list ≠ 0) (W : World) (hW : Below w.heap.size w W) :
    Calls Try.prog 36 #[.agg (goalCells g A1 c1 A2 c2 A3 c3), .slice A4 list.length c4] W fun e w' => e = .returned (.tuple #[.pointer none, .int .i64 (possOf g list)]) ∧ Below W.heap.size W w' :=
  (possible_any g A1 c1 A2 c2 A3 c3 A4 c4 list W ⟨(hg.n.below hW).mono fun k hk => Nat.lt_of_lt_of_le hk hW.size, hg.cn, (hg.p.below hW).mono fun k hk => Nat.lt_of_lt_of_le hk hW.size, hg.cp, (hg.s.below hW).mono fun k hk => Nat.lt_of_lt_of_le hk hW.size, hg.cs⟩ ((hl.below hW).mono fun k hk => Nat.lt_of_lt_of_le hk hW.size)).mono fun e w' ⟨v, r, he, hr, hn, _, hb⟩ => by
    subst hr
    rw [hn h0] at he
    exact ⟨he, hb⟩
theorem possYes (hg : GoalIn w (fun k => k < w.heap.size) g A1 c1 A2 c2 A3 c3) (hl : Row kHold w (fun k => k < w.heap.size) A4 list.length list) (h0 : possOf g list = 0) (W : World) (hW : Below w.heap.size w W) :
    Calls Try.prog 36 #[.agg (goalCells g A1 c1 A2 c2 A3 c3), .slice A4 list.length c4] W fun e w' => ∃ pb, e = .returned (.tuple #[.pointer (some ⟨pb, 0, none⟩), .int .i64 0]) ∧ PIn w' pb g list ∧ Below W.heap.size W w' :=
  (possible_any g A1 c1 A2 c2 A3 c3 A4 c4 list W ⟨(hg.n.below hW).mono fun k hk => Nat.lt_of_lt_of_le hk hW.size, hg.cn, (hg.p.below hW).mono fun k hk => Nat.lt_of_lt_of_le hk hW.size, hg.cp, (hg.s.below hW).mono fun k hk => Nat.lt_of_lt_of_le hk hW.size, hg.cs⟩ ((hl.below hW).mono fun k hk => Nat.lt_of_lt_of_le hk hW.size)).mono fun e w' ⟨v, r, he, hr, _, hy, hb⟩ => by
    rw [h0] at hr
    subst hr
    obtain ⟨_, _, pb, hv, hp⟩ := hy rfl
    subst hv
    exact ⟨pb, he, hp, hb⟩
/-- The fewest devices. -/
def fewestP : List Int := if possOf g list = 0 then pickTo (sortH list) (ug (setsP g list) 0).toNat list.length else []
set_option maxRecDepth 100000 in
set_option maxHeartbeats 1000000 in
theorem fewest_any (hg : GoalIn w (fun k => k < w.heap.size) g A1 c1 A2 c2 A3 c3) (hl : Row kHold w (fun k => k < w.heap.size) A4 list.length list) :
    Calls Try.prog 12 #[.agg (goalCells g A1 c1 A2 c2 A3 c3), .slice A4 list.length c4] w fun e w' => ∃ A c, e = .returned (.tuple #[.slice A (fewestP g list).length c, .int .i64 (possOf g list)]) ∧ (fewestP g list).length ≤ c ∧ Row (Kn.int .i64) w' (fun k => w.heap.size ≤ k ∧ k < w'.heap.size) A (fewestP g list).length (fewestP g list) ∧ Below w.heap.size w w' := by
  have hB0 : Below w.heap.size w (w.alloc (.cells (goalCells g A1 c1 A2 c2 A3 c3) 26)) := (Below.refl _ _).alloc (Nat.le_refl _) _
  by_cases h0 : possOf g list = 0
  · have POS := As.mk (possYes g A1 c1 A2 c2 A3 c3 A4 c4 list w hg hl h0 _ hB0)
    have HB0 := As.mk hB0
    have hv := (possOf_zero h0).1
    have hp := setsP_pos h0
    have hF : fewestP g list = pickTo (sortH list) (ug (setsP g list) 0).toNat list.length := if_pos h0
    have h64 := (ug (setsP g list) 0).isLt
    rw [hF, h0]
    have SETS := As.mk fun (W : World) (pb : Nat) (h : PIn W pb g list) => setsP_any pb g list W h hv
    have PICK := As.mk fun (W : World) (pb : Nat) (h : PIn W pb g list) => pickQ h hv (ug (setsP g list) 0).toNat h64
    clear hg hl hB0 hv h0 hF h64
    generalize pickTo (sortH list) (ug (setsP g list) 0).toNat list.length = res at *
    generalize setsP g list = S at *
    go_enter Try.func12, Try.ntmps12
    go_wp2_with (first
      | (go_at_call 36; refine POS.o.mono ?_; rintro e w1 ⟨pb, rfl, hp1, hb1⟩)
      | (go_at_call 38; refine (SETS.o _ _ hp1).mono ?_; rintro e w2 ⟨A, n, c, rfl, hrow, hb2⟩; have hn0 : 0 < n := (by rw [← hrow.1]; exact hp); have hn1 : (0 : Int) < (n : Int) := (by omega); obtain ⟨ad, eA, _, _, hcell⟩ := rowU hrow 0 hn0; subst eA; have hcell2 : w2.cell? ad = some (.int .u64 ((ug S 0).toNat : Int)) := hcell)
      | (go_at_call 37; refine (PICK.o _ _ (hp1.below hb2)).mono ?_; rintro e w3 ⟨v, rfl, hown, hb3⟩))
    go_ret2
    obtain ⟨Av, cv, rfl, hlc, hrv⟩ := own_row (flat_int .i64) hown
    have s1 := hb1.size
    have s2 := hb2.size
    have s3 := hb3.size
    simp at s1
    refine ⟨_, _, rfl, hlc, hrv.bound.mono fun k hk => ⟨?_, hk.2⟩, bthen (bthen (bthen HB0.o hb1 (by simp)) hb2 ?_) hb3 ?_⟩
    · have := hk.1.1
      omega
    · omega
    · omega
  · have POS := As.mk (possNo g A1 c1 A2 c2 A3 c3 A4 c4 list w hg hl h0 _ hB0)
    have HB0 := As.mk hB0
    have hF : fewestP g list = [] := if_neg h0
    rw [hF]
    have d0 : (possOf g list == 0) = false := by simp [h0]
    clear hg hl hB0 hF
    generalize possOf g list = r at *
    go_enter Try.func12, Try.ntmps12
    go_wp2_with (go_at_call 36; refine POS.o.mono ?_; rintro e w1 ⟨rfl, hb1⟩)
    go_ret2
    exact ⟨_, _, rfl, Nat.le_refl _, Row.nil _ _ _ _, bthen HB0.o hb1 (by simp)⟩
end
end Go.Proofs.Ytlinhckgdfhppaa
namespace Go.Proofs.Ytlinhckgdfhppaa
open Go Go.RowKit Go.Proofs.YtlinhckgdfhppaaK

/-- A set without its bit i. -/
def clrB (x : BitVec 64) (i : Nat) : BitVec 64 := x &&& ~~~ BitVec.ofNat 64 (2 ^ i)
theorem andNot_u64 (x : BitVec 64) (p : Nat) : bits .andNot .u64 (x.toNat : Int) (p : Int) = (((x &&& ~~~ BitVec.ofNat 64 p).toNat : Nat) : Int) := by
  show IntKind.u64.wrap ((BitVec.ofInt 64 (x.toNat : Int) &&& ~~~ BitVec.ofInt 64 (p : Int)).toNat : Int) = _
  rw [BitVec.ofInt_natCast, BitVec.ofInt_natCast, BitVec.ofNat_toNat, BitVec.setWidth_eq]
  exact wrap64 _ (BitVec.isLt _)
def minOK (g : Goal) (list : List Hold) (m : Nat) (x : BitVec 64) : Prop := ∀ i, i < m → x.toNat.testBit i = true → psum g list (clrB x i).toNat ≠ 0
instance (g : Goal) (list : List Hold) (m : Nat) (x : BitVec 64) : Decidable (minOK g list m x) := by unfold minOK; infer_instance
theorem minOK_succ {g : Goal} {list : List Hold} {m : Nat} {x : BitVec 64} (h : minOK g list m x) (hn : x.toNat.testBit m = true → psum g list (clrB x m).toNat ≠ 0) : minOK g list (m + 1) x := by
  intro i hi hb
  rcases Nat.lt_or_ge i m with h1 | h1
  · exact h i h1 hb
  · obtain rfl : i = m := by omega
    exact hn hb
/-- The minimal sets among the first k. -/
def minTo (g : Goal) (list : List Hold) (S : List (BitVec 64)) (k : Nat) : List (List Int) := ((S.take k).filter fun x => decide (minOK g list list.length x)).map fun x => pickTo (sortH list) x.toNat list.length
theorem minTo_succ (g : Goal) (list : List Hold) (S : List (BitVec 64)) (k : Nat) (hk : k < S.length) :
    minTo g list S (k + 1) = if minOK g list list.length (ug S k) then minTo g list S k ++ [pickTo (sortH list) (ug S k).toNat list.length] else minTo g list S k := by
  unfold minTo
  rw [filter_take_succ _ S k (ug S k) hk (ug_eq S k hk).symm]
  by_cases h : minOK g list list.length (ug S k) <;> simp [h]
theorem minTo_len (g : Goal) (list : List Hold) (S : List (BitVec 64)) (k : Nat) : (minTo g list S k).length ≤ k := by
  unfold minTo
  rw [List.length_map]
  exact Nat.le_trans (List.length_filter_le _ _) (List.length_take_le _ _)
def minimalP (g : Goal) (list : List Hold) : List (List Int) := if possOf g list = 0 then minTo g list (setsP g list) (setsP g list).length else []
section
variable (g : Goal) (A1 : Option Addr) (c1 : Nat) (A2 : Option Addr) (c2 : Nat) (A3 : Option Addr) (c3 : Nat) (A4 : Option Addr) (c4 : Nat) (list : List Hold) (w : World)
set_option maxRecDepth 100000 in
set_option maxHeartbeats 1000000 in
theorem minimal_any (hg : GoalIn w (fun k => k < w.heap.size) g A1 c1 A2 c2 A3 c3) (hl : Row kHold w (fun k => k < w.heap.size) A4 list.length list) (h6 : possOf g list = 0 → list.length ≤ 6) :
    Calls Try.prog 13 #[.agg (goalCells g A1 c1 A2 c2 A3 c3), .slice A4 list.length c4] w fun e w' => ∃ A c, e = .returned (.tuple #[.slice A (minimalP g list).length c, .int .i64 (possOf g list)]) ∧ Row kInts w' (fun k => w.heap.size ≤ k ∧ k < w'.heap.size) A (minimalP g list).length (minimalP g list) ∧ Below w.heap.size w w' := by
  have hB0 : Below w.heap.size w (w.alloc (.cells (goalCells g A1 c1 A2 c2 A3 c3) 26)) := (Below.refl _ _).alloc (Nat.le_refl _) _
  by_cases h0 : possOf g list = 0
  · have POS := As.mk (possYes g A1 c1 A2 c2 A3 c3 A4 c4 list w hg hl h0 _ hB0)
    have HB0 := As.mk hB0
    have hv := (possOf_zero h0).1
    have HF : As (minimalP g list = minTo g list (setsP g list) (setsP g list).length) := ⟨if_pos h0⟩
    have hn6 := h6 h0
    rw [h0]
    have SETS := As.mk fun (W : World) (pb : Nat) (h : PIn W pb g list) => setsP_any pb g list W h hv
    have PICK := As.mk fun (W : World) (pb : Nat) (h : PIn W pb g list) (x : BitVec 64) => pickQ h hv x.toNat x.isLt
    have SUF := As.mk fun (W : World) (pb : Nat) (h : PIn W pb g list) (x : BitVec 64) (b : Bool) hb => sufficesQ h hv x.toNat x.isLt b hb
    have hsl := setsP_len g list
    have h26 : 2 ^ list.length ≤ 2 ^ 6 := Nat.pow_le_pow_right (by omega) hn6
    have hsl2 : (setsP g list).length ≤ 64 := by omega
    have LN : As (∀ (W : World) (pb : Nat), PIn W pb g list → ∃ A c, W.cell? ⟨pb, 5, none⟩ = some (.slice A list.length c)) := ⟨fun W pb ⟨mb, A1, c1, A, cl, B, c, hp⟩ => ⟨A, cl, hp.h5⟩⟩
    clear hg hl hB0 hv h0 h6 hsl h26
    generalize minimalP g list = res at *
    generalize setsP g list = S at *
    go_enter Try.func13, Try.ntmps13
    go_wp2
    go_step3
    go_wp2_with (go_at_call 36; refine POS.o.mono ?_; rintro e w1 ⟨pb, rfl, hp1, hb1⟩)
    go_step3
    go_wp2_with (go_at_call 38; refine (SETS.o _ _ hp1).mono ?_; rintro e w2 ⟨A, n, c, rfl, hrow, hb2⟩)
    have hnS := hrow.1
    subst hnS
    have hnm := hrow.2.1
    have HROW := As.mk hrow
    have hp2 := hp1.below hb2
    have s1 := hb1.size
    have s2 := hb2.size
    simp at s1
    have HBW : As (Below w.heap.size w w2) := ⟨bthen (bthen HB0.o hb1 (by simp)) hb2 (by omega)⟩
    have HP := As.mk hp2
    clear hrow hp1 hb1 hb2 hp2
    go_loopw [8, 24] (fun v i' wr => ∃ k : Nat, k ≤ S.length ∧ i' = .int .i64 k ∧ As (OwnK (fun j => w2.heap.size ≤ j) kInts 24 wr w2.heap.size v (minTo g list S k)) ∧ As (Below w2.heap.size w2 wr)) (fun _ i' _ => S.length - (intOf i').toNat)
    case atStart => exact ⟨0, Nat.zero_le _, rfl, ⟨OwnK.nil _ _ _ _ _⟩, ⟨Below.refl _ _⟩⟩
    case round =>
      obtain ⟨k, hk, rfl, HO, HB⟩ := hrel
      by_cases hlt : k < S.length
      · obtain ⟨ad, rfl, _, hadl, p0⟩ := rowU (HROW.o.below HB.o) k hlt
        have HS := As.mk (minTo_succ g list S k hlt)
        have hln := minTo_len g list S k
        obtain ⟨Ah, ch, q5⟩ := LN.o wr pb (HP.o.below HB.o)
        have hki1 : (k : Int) < (S.length : Int) := by omega
        generalize ug S k = x at *
        have hx := x.isLt
        obtain ⟨wo, rfl⟩ : ∃ wo : World, wo = wr := ⟨_, rfl⟩
        go_wp2
        go_loopw [33] (fun i' wr => ∃ m : Nat, m ≤ list.length ∧ i' = .int .i64 m ∧ As (minOK g list m x) ∧ As (Below wo.heap.size wo wr)) (fun i' _ => list.length - (intOf i').toNat)
        case atStart => exact ⟨0, Nat.zero_le _, rfl, ⟨fun i hi => absurd hi (by omega)⟩, ⟨Below.refl _ _⟩⟩
        case round =>
          obtain ⟨m, hm, rfl, HMIN, HBM⟩ := hrel
          have HBB := As.mk (bthen HB.o HBM.o (Nat.le_refl _))
          by_cases hml : m < list.length
          · have hbit := bit_u64 x.toNat m hx
            have hm64 : (m : Int) ≤ 64 := by omega
            have hm0 : (0 : Int) ≤ (m : Int) := by omega
            by_cases ht : x.toNat.testBit m = true
            · rw [if_pos ht] at hbit
              have e1 : (2 : Int) ^ m = ((2 ^ m : Nat) : Int) := by simp
              have h2m : 2 ^ m ≤ 2 ^ 6 := Nat.pow_le_pow_right (by omega) (by omega)
              have e2 : IntKind.u64.wrap (2 ^ m) = ((2 ^ m : Nat) : Int) := by rw [e1]; exact wrap64 (2 ^ m) (by omega)
              have e3 := andNot_u64 x (2 ^ m)
              have e4 := wrap64 (2 ^ m) (by omega)
              rw [e1] at hbit
              obtain ⟨b, hb⟩ : ∃ b, (psum g list (clrB x m).toNat == 0) = b := ⟨_, rfl⟩
              have SUFX := As.mk (SUF.o wr pb (HP.o.below HBB.o) (clrB x m) b hb)
              have HBQ := As.mk hb
              have CLR := As.mk (show x &&& ~~~ BitVec.ofNat 64 (2 ^ m) = clrB x m from rfl)
              rw [CLR.o] at e3
              have HT := As.mk ht
              generalize hcy : clrB x m = y at *
              have HCL := As.mk hcy
              clear hcy
              clear hb ht h2m CLR
              generalize 2 ^ m = p at *
              cases b
              · have hne : psum g list y.toNat ≠ 0 := by
                  intro e
                  have := HBQ.o
                  rw [e] at this
                  cases this
                have HM2 := As.mk (minOK_succ HMIN.o (fun _ => by rw [HCL.o]; exact hne))
                clear hne
                go_wp2_with (go_at_call 39; refine SUFX.o.mono ?_; rintro e w5 ⟨rfl, hb5⟩)
                go_roundw
                case rel => exact ⟨m + 1, by omega, by go_num, HM2, ⟨bthen HBM.o hb5 (Nat.le_refl _)⟩⟩
                case measure => simp [intOf]; omega
              · have he : psum g list y.toNat = 0 := of_decide_eq_true HBQ.o
                have HNO := As.mk (show ¬ minOK g list list.length x from fun hc => hc m hml HT.o (by rw [HCL.o]; exact he))
                clear he
                go_wp2_with (go_at_call 39; refine SUFX.o.mono ?_; rintro e w5 ⟨rfl, hb5⟩)
                go_roundw
                case rel =>
                  refine ⟨k + 1, by omega, by go_num, ⟨by rw [HS.o, if_neg HNO.o]; exact (HO.o.below HBM.o).below hb5⟩, ⟨bthen HBB.o hb5 (Nat.le_refl _)⟩⟩
                case measure => simp [intOf]; omega
            · rw [if_neg ht] at hbit
              have HM2 := As.mk (minOK_succ HMIN.o (fun h => absurd h ht))
              clear ht
              go_wp2
              go_roundw
              case rel => exact ⟨m + 1, by omega, by go_num, HM2, HBM⟩
              case measure => simp [intOf]; omega
          · have e : m = list.length := by omega
            subst e
            have HS2 := As.mk (HS.o.trans (if_pos HMIN.o))
            obtain ⟨Ao, co, rfl, _, _⟩ := HO.o.shape
            have PICKX := As.mk (PICK.o wr pb (HP.o.below HBB.o) x)
            have HOR := As.mk (HO.o.below HBM.o)
            have hsr := HBB.o.size
            have HOL := As.mk HOR.o.lt
            have d256 : (((minTo g list S k).length : Int) == 256) = false := by
              have : ((minTo g list S k).length : Int) ≠ 256 := by omega
              simpa using this
            clear hml hm HMIN HS
            generalize pickTo (sortH list) x.toNat list.length = pk at *
            generalize minTo g list S k = mk at *
            go_wp2_with (first
              | (go_at_call 37; refine PICKX.o.mono ?_; rintro e w6 ⟨v, rfl, hown, hb6⟩; obtain ⟨A9, c9, rfl, hlc, hrv⟩ := own_row (flat_int .i64) hown; have HO6 := As.mk (HOR.o.below hb6); have hs6 := hb6.size; have HK6 : As (kInts.K w6 (fun b => w2.heap.size ≤ b ∧ (Value.slice Ao mk.length co).ownBlock ≠ some b) pk [.slice A9 pk.length c9]) := ⟨⟨A9, c9, rfl, hlc, hrv.mono fun b hb => ⟨Nat.le_trans hsr hb.1, fun e => by have h1 := (HOL.o b e).2; have h2 := hb.1; omega⟩⟩⟩)
              | (at_builtin; refine app_one kInts w2.heap.size rfl (.tmp 53) (.tmp 57) 33 (.slice none 0 0) 24 rfl Try.underlying33 info_ints rfl (by decide) (.slice Ao mk.length co) mk pk [.slice A9 pk.length c9] rfl (by show Value.slice _ _ _ = _; simp) HO6.o HK6.o (by omega) (by omega) (by omega) ?_; intro v1 w7 HO7 hg7 hat7))
            go_roundw
            case rel =>
              refine ⟨k + 1, by omega, by go_num, ⟨by rw [HS2.o]; exact HO7⟩, ⟨?_⟩⟩
              exact (bthen HBB.o hb6 (Nat.le_refl _)).trans (HO6.o.base_le hg7 (Nat.le_refl _) (by omega))
            case measure => simp [intOf]; omega
      · have e : k = S.length := by omega
        subst e
        obtain ⟨Ao, co, rfl, hco, hro⟩ := HO.o.reads
        go_wp2
        rw [Exit.noGoto_ret]
        go_ret2
        rw [HF.o]
        refine ⟨_, _, rfl, hro.mono fun j hj => ⟨?_, hj.2⟩, bthen HBW.o HB.o (Nat.le_refl _)⟩
        have := hj.1.elim id id
        omega
  · have POS := As.mk (possNo g A1 c1 A2 c2 A3 c3 A4 c4 list w hg hl h0 _ hB0)
    have HB0 := As.mk hB0
    have hF : minimalP g list = [] := if_neg h0
    rw [hF]
    have d0 : (possOf g list == 0) = false := by simp [h0]
    clear hg hl hB0 hF h6
    generalize possOf g list = r at *
    go_enter Try.func13, Try.ntmps13
    go_wp2
    go_step3
    go_wp2_with (go_at_call 36; refine POS.o.mono ?_; rintro e w1 ⟨rfl, hb1⟩)
    rw [Exit.noGoto_ret]
    go_ret2
    exact ⟨_, _, rfl, Row.nil _ _ _ _, bthen HB0.o hb1 (by simp)⟩
end
end Go.Proofs.Ytlinhckgdfhppaa
namespace Go.Proofs.Ytlinhckgdfhppaa
open Go Go.RowKit Go.Proofs.YtlinhckgdfhppaaK

theorem psum_bd {g : Goal} {list : List Hold} (hv : Valid g list) (s : Nat) : 0 ≤ psum g list s ∧ psum g list s ≤ 66000 := sum_bd2 hv.ok.hd hv.ok.ht hv.ok.hn
section
variable {w : World} {pb : Nat} {g : Goal} {list : List Hold}
set_option maxRecDepth 100000 in
set_option maxHeartbeats 1000000 in
theorem gainQ (h : PIn w pb g list) (hv : Valid g list) (s i : Nat) (hs : s < 4096) (hi : i < 12) :
    Calls Try.prog 54 #[.pointer (some ⟨pb, 0, none⟩), .int .u64 (s : Int), .int .i64 (i : Int)] w fun e w' => e = .returned (.int .i64 (psum g list s - psum g list (s ||| 2 ^ i))) ∧ Below w.heap.size w w' := by
  have h12 : 2 ^ i ≤ 2 ^ 12 := Nat.pow_le_pow_right (by omega) (by omega)
  have h1 : s ||| 2 ^ i < 2 ^ 13 := Nat.or_lt_two_pow (by omega) (by omega)
  have e1 : (2 : Int) ^ i = ((2 ^ i : Nat) : Int) := by simp
  have e2 : IntKind.u64.wrap (2 ^ i) = ((2 ^ i : Nat) : Int) := by rw [e1]; exact wrap64 (2 ^ i) (by omega)
  have e4 := wrap64 (2 ^ i) (by omega)
  have e3 := or_nat64 s (2 ^ i) (by omega) (by omega)
  have b1 := psum_bd hv s
  have b2 := psum_bd hv (s ||| 2 ^ i)
  have e5 : IntKind.i64.wrap (psum g list s - psum g list (s ||| 2 ^ i)) = psum g list s - psum g list (s ||| 2 ^ i) := IntWalk.i64_in _ (by omega)
  obtain ⟨mb, A1, c1, A, cl, B0, c0, hp⟩ := h
  have HP := As.mk hp
  have HV := As.mk hv.ok
  have WI : ∀ s' : Nat, s' < 18446744073709551616 → As (∀ W : World, Below w.heap.size w W → Calls Try.prog 43 #[.pointer (some ⟨pb, 0, none⟩), .int .u64 (s' : Int)] W fun e w' => ∃ B c, e = .returned (.agg (stockCells B g.needs.length c (withW (sortH list) s' (fw0 g) list.length) (withI (sortH list) s' (!g.index) list.length))) ∧
      Row kMask w' (fun _ => True) B g.needs.length (withM (nfOf g) (sortH list) s' (ms0 g) list.length) ∧ Below w.heap.size w w' ∧ Below W.heap.size W w') := fun s' hs' => ⟨fun W hW => (withP (HP.o.below hW) HV.o s' hs').mono fun e w' ⟨B, c, he, hr, hb⟩ => ⟨B, c, he, hr, bthen hW hb (Nat.le_refl _), hb⟩⟩
  have SU : ∀ s' : Nat, As (∀ (W : World) (B : Option Addr) (c : Nat), Below w.heap.size w W → Row kMask W (fun _ => True) B g.needs.length (withM (nfOf g) (sortH list) s' (ms0 g) list.length) →
      Calls Try.prog 68 #[.pointer (some ⟨pb, 0, none⟩), .agg (stockCells B g.needs.length c (withW (sortH list) s' (fw0 g) list.length) (withI (sortH list) s' (!g.index) list.length))] W fun e w' => e = .returned (.int .i64 (psum g list s')) ∧ Below w.heap.size w w' ∧ Below W.heap.size W w') :=
    fun s' => ⟨fun W B c hW hM => (sumP (HP.o.below hW) HV.o B c _ _ _ hM).mono fun e w' ⟨he, hb⟩ => ⟨he, bthen hW hb (Nat.le_refl _), hb⟩⟩
  have WI1 := WI s (by omega)
  have WI2 := WI (s ||| 2 ^ i) (by omega)
  have SU1 := SU s
  have SU2 := SU (s ||| 2 ^ i)
  have hi64 : (i : Int) ≤ 64 := by omega
  have hi0 : (0 : Int) ≤ (i : Int) := by omega
  clear WI SU hp b1 b2 h1 hs
  generalize s ||| 2 ^ i = s2 at *
  generalize 2 ^ i = p at *
  generalize psum g list s = r1 at *
  generalize psum g list s2 = r2 at *
  generalize withM (nfOf g) (sortH list) s (ms0 g) list.length = m1 at *
  generalize withM (nfOf g) (sortH list) s2 (ms0 g) list.length = m2 at *
  generalize withW (sortH list) s (fw0 g) list.length = f1 at *
  generalize withW (sortH list) s2 (fw0 g) list.length = f2 at *
  generalize withI (sortH list) s (!g.index) list.length = x1 at *
  generalize withI (sortH list) s2 (!g.index) list.length = x2 at *
  clear HP HV h12
  have hw0 : Below w.heap.size w w.drew := (Below.refl _ _).drew
  go_enter Try.func54, Try.ntmps54
  go_wp2
  go_region_with (first
    | (go_at_call_of 43 s; refine (WI1.o _ ?hb).mono ?_; (case hb => first | exact hw0 | exact hw2 | exact hw4); rintro e w1 ⟨B1, k1, rfl, hm1, hw1, hb1⟩)
    | (go_at_call_of 43 s2; refine (WI2.o _ ?hb).mono ?_; (case hb => first | exact hw0 | exact hw1 | exact hw3); rintro e w2 ⟨B2, k2, rfl, hm2, hw2, hb2⟩)
    | (go_at_call_of 68 f1; refine (SU1.o _ _ _ ?hb ?hm).mono ?_; (case hb => first | exact hw1 | exact hw2 | exact hw4); (case hm => first | exact hm1 | exact hm1.below hb2 | exact (hm1.below hb2).below hb4 | exact hm1.below hb4); rintro e w3 ⟨rfl, hw3, hb3⟩)
    | (go_at_call_of 68 f2; refine (SU2.o _ _ _ ?hb ?hm).mono ?_; (case hb => first | exact hw2 | exact hw1 | exact hw3); (case hm => first | exact hm2 | exact hm2.below hb1 | exact (hm2.below hb1).below hb3 | exact hm2.below hb3); rintro e w4 ⟨rfl, hw4, hb4⟩))
  all_goals
    go_wp2
    go_ret
    first | exact ⟨rfl, hw4⟩ | exact ⟨rfl, hw3⟩
end
end Go.Proofs.Ytlinhckgdfhppaa
namespace Go.Proofs.Ytlinhckgdfhppaa
open Go Go.Proofs.YtlinhckgdfhppaaK

/-! What the program's masks and words say: plain laws, no program in sight. -/
theorem maskAt_set (ms : List (BitVec 16)) (i j : Nat) (v : BitVec 16) (hj : j < ms.length) : maskAt (ms.set i v) j = if i = j then v else maskAt ms j := by
  unfold maskAt
  simp only [List.getD_eq_getElem?_getD, List.getElem?_set]
  by_cases h : i = j
  · subst h
    simp [hj]
  · simp [h]
theorem giveP_bit (nf : ByteArray → Option Nat) (ms : List (BitVec 16)) (p : Piece) (i b : Nat) (hi : i < ms.length) (hp : 0 ≤ p.2 ∧ p.2 < 16) :
    (maskAt (giveP nf ms p) i).getLsbD b = true ↔ (maskAt ms i).getLsbD b = true ∨ (nf p.1 = some i ∧ (b : Int) = p.2) := by
  cases h : nf p.1 with
  | none => simp [giveP_none h]
  | some i' =>
    rw [giveP_some h, maskAt_set _ _ _ _ hi]
    by_cases e : i' = i
    · subst e
      rw [if_pos rfl, BitVec.getLsbD_or, BitVec.getLsbD_twoPow]
      simp only [Bool.or_eq_true, Bool.and_eq_true, decide_eq_true_eq, beq_iff_eq, true_and]
      constructor
      · rintro (h1 | ⟨_, h2⟩)
        · exact .inl h1
        · exact .inr (by omega)
      · rintro (h1 | h2)
        · exact .inl h1
        · exact .inr ⟨by omega, by omega⟩
    · rw [if_neg e]
      simp [e]
theorem giveM_bit (nf : ByteArray → Option Nat) (i b : Nat) : ∀ (ps : List Piece) (ms : List (BitVec 16)), i < ms.length → (∀ p ∈ ps, 0 ≤ p.2 ∧ p.2 < 16) →
    ((maskAt (giveM nf ms ps) i).getLsbD b = true ↔ (maskAt ms i).getLsbD b = true ∨ ∃ p ∈ ps, nf p.1 = some i ∧ (b : Int) = p.2)
  | [], ms, _, _ => by simp [giveM]
  | p :: ps, ms, hi, hp => by
    have h1 := giveM_bit nf i b ps (giveP nf ms p) (by rw [giveP_len]; exact hi) (fun q hq => hp q (List.mem_cons_of_mem _ hq))
    have h2 := giveP_bit nf ms p i b hi (hp p (List.mem_cons_self ..))
    rw [show giveM nf ms (p :: ps) = giveM nf (giveP nf ms p) ps from rfl, h1, h2]
    simp only [List.mem_cons, or_and_right, exists_or, exists_eq_left, or_assoc]
theorem withM_bit (nf : ByteArray → Option Nat) (L : List Hold) (s i b : Nat) (ms : List (BitVec 16)) (hi : i < ms.length) (hp : ∀ h ∈ L, ∀ p ∈ h.pieces, 0 ≤ p.2 ∧ p.2 < 16) : ∀ k, k ≤ L.length →
    ((maskAt (withM nf L s ms k) i).getLsbD b = true ↔ (maskAt ms i).getLsbD b = true ∨ ∃ j, j < k ∧ s.testBit j = true ∧ ∃ p ∈ (hgt L j).pieces, nf p.1 = some i ∧ (b : Int) = p.2)
  | 0, _ => by simp [withM]
  | k + 1, hk => by
    have ih := withM_bit nf L s i b ms hi hp k (by omega)
    have hm : hgt L k ∈ L := by rw [hgt_eq L k (by omega)]; exact List.getElem_mem _
    rw [withM]
    by_cases ht : s.testBit k = true
    · rw [if_pos ht, giveM_bit nf i b _ _ (by rw [withM_len]; exact hi) (hp _ hm), ih]
      constructor
      · rintro ((h | ⟨j, h1, h2⟩) | h)
        · exact .inl h
        · exact .inr ⟨j, by omega, h2⟩
        · exact .inr ⟨k, by omega, ht, h⟩
      · rintro (h | ⟨j, h1, h2, h3⟩)
        · exact .inl (.inl h)
        · rcases Nat.lt_or_ge j k with h4 | h4
          · exact .inl (.inr ⟨j, h4, h2, h3⟩)
          · obtain rfl : j = k := by omega
            exact .inr h3
    · rw [if_neg ht, ih]
      constructor
      · rintro (h | ⟨j, h1, h2⟩)
        · exact .inl h
        · exact .inr ⟨j, by omega, h2⟩
      · rintro (h | ⟨j, h1, h2, h3⟩)
        · exact .inl h
        · rcases Nat.lt_or_ge j k with h4 | h4
          · exact .inr ⟨j, h4, h2, h3⟩
          · obtain rfl : j = k := by omega
            exact absurd h2 ht
/-- Share x among the words. -/
def bitW (f : Nat → BitVec 64) (x : Nat) : Bool := (f (x / 64)).getLsbD (x % 64)
theorem addW_bit (f : Nat → BitVec 64) (y : Int) (x : Nat) (hy : 0 ≤ y) : bitW (addW f y) x = true ↔ bitW f x = true ∨ (x : Int) = y := by
  obtain ⟨m, rfl⟩ := Int.eq_ofNat_of_zero_le hy
  unfold bitW addW
  rw [show ((m : Int) / 64).toNat = m / 64 by omega, show ((m : Int) % 64).toNat = m % 64 by omega]
  by_cases e : x / 64 = m / 64
  · rw [if_pos e, BitVec.getLsbD_or, BitVec.getLsbD_twoPow]
    simp only [Bool.or_eq_true, Bool.and_eq_true, decide_eq_true_eq, beq_iff_eq]
    constructor
    · rintro (h | ⟨_, h⟩)
      · exact .inl h
      · exact .inr (by omega)
    · rintro (h | h)
      · exact .inl h
      · exact .inr ⟨by omega, by omega⟩
  · rw [if_neg e]
    constructor
    · exact .inl
    · rintro (h | h)
      · exact h
      · exact absurd (by omega) e
theorem addWs_bit (x : Nat) : ∀ (ys : List Int) (f : Nat → BitVec 64), (∀ y ∈ ys, 0 ≤ y) → (bitW (addWs f ys) x = true ↔ bitW f x = true ∨ (x : Int) ∈ ys)
  | [], f, _ => by simp [addWs]
  | y :: ys, f, h => by
    have h1 := addWs_bit x ys (addW f y) (fun z hz => h z (List.mem_cons_of_mem _ hz))
    rw [show addWs f (y :: ys) = addWs (addW f y) ys from rfl, h1, addW_bit f y x (h y (List.mem_cons_self ..)), List.mem_cons, or_assoc]
theorem withW_bit (L : List Hold) (s x : Nat) (f : Nat → BitVec 64) (hp : ∀ h ∈ L, ∀ y ∈ h.shares, (0 : Int) ≤ y) : ∀ k, k ≤ L.length →
    (bitW (withW L s f k) x = true ↔ bitW f x = true ∨ ∃ j, j < k ∧ s.testBit j = true ∧ (x : Int) ∈ (hgt L j).shares)
  | 0, _ => by simp [withW]
  | k + 1, hk => by
    have ih := withW_bit L s x f hp k (by omega)
    have hm : hgt L k ∈ L := by rw [hgt_eq L k (by omega)]; exact List.getElem_mem _
    rw [withW]
    by_cases ht : s.testBit k = true
    · rw [if_pos ht, addWs_bit x _ _ (hp _ hm), ih]
      constructor
      · rintro ((h | ⟨j, h1, h2⟩) | h)
        · exact .inl h
        · exact .inr ⟨j, by omega, h2⟩
        · exact .inr ⟨k, by omega, ht, h⟩
      · rintro (h | ⟨j, h1, h2, h3⟩)
        · exact .inl (.inl h)
        · rcases Nat.lt_or_ge j k with h4 | h4
          · exact .inl (.inr ⟨j, h4, h2, h3⟩)
          · obtain rfl : j = k := by omega
            exact .inr h3
    · rw [if_neg ht, ih]
      constructor
      · rintro (h | ⟨j, h1, h2⟩)
        · exact .inl h
        · exact .inr ⟨j, by omega, h2⟩
      · rintro (h | ⟨j, h1, h2, h3⟩)
        · exact .inl h
        · rcases Nat.lt_or_ge j k with h4 | h4
          · exact .inr ⟨j, h4, h2, h3⟩
          · obtain rfl : j = k := by omega
            exact absurd h2 ht
theorem withI_bit (L : List Hold) (s : Nat) (ix : Bool) : ∀ k, (withI L s ix k = true ↔ ix = true ∨ ∃ j, j < k ∧ s.testBit j = true ∧ (hgt L j).index = true)
  | 0 => by simp [withI]
  | k + 1 => by
    have ih := withI_bit L s ix k
    rw [withI]
    by_cases ht : s.testBit k = true
    · rw [if_pos ht, Bool.or_eq_true, ih]
      constructor
      · rintro ((h | ⟨j, h1, h2⟩) | h)
        · exact .inl h
        · exact .inr ⟨j, by omega, h2⟩
        · exact .inr ⟨k, by omega, ht, h⟩
      · rintro (h | ⟨j, h1, h2, h3⟩)
        · exact .inl (.inl h)
        · rcases Nat.lt_or_ge j k with h4 | h4
          · exact .inl (.inr ⟨j, h4, h2, h3⟩)
          · obtain rfl : j = k := by omega
            exact .inr h3
    · rw [if_neg ht, ih]
      constructor
      · rintro (h | ⟨j, h1, h2⟩)
        · exact .inl h
        · exact .inr ⟨j, by omega, h2⟩
      · rintro (h | ⟨j, h1, h2, h3⟩)
        · exact .inl h
        · rcases Nat.lt_or_ge j k with h4 | h4
          · exact .inr ⟨j, h4, h2, h3⟩
          · obtain rfl : j = k := by omega
            exact absurd h2 ht
/-- The need map, if the names differ. -/
theorem needTo_iff (needs : List Need) (hd : (needs.map (·.1)).Nodup) : ∀ k, k ≤ needs.length → ∀ s i, needTo needs k s = some i ↔ i < k ∧ (pg needs i).1 = s
  | 0, _, s, i => by simp [needTo]
  | k + 1, hk, s, i => by
    have ih := needTo_iff needs hd k (by omega) s i
    rw [needTo, upd]
    have key : ∀ j, j < k → (pg needs j).1 ≠ (pg needs k).1 := by
      intro j hj e
      have h1 : (needs.map (·.1))[j]'(by simp; omega) = (needs.map (·.1))[k]'(by simp; omega) := by
        rw [List.getElem_map, List.getElem_map, ← pg_eq needs j (by omega), ← pg_eq needs k (by omega)]
        exact e
      exact (List.pairwise_iff_getElem.1 hd) j k (by simp; omega) (by simp; omega) hj h1
    by_cases e : s = (pg needs k).1
    · rw [if_pos e]
      constructor
      · intro h
        injection h with h
        subst h
        exact ⟨by omega, e.symm⟩
      · rintro ⟨h1, h2⟩
        rcases Nat.lt_or_ge i k with h3 | h3
        · exact absurd (h2.trans e) (key i h3)
        · rw [show i = k by omega]
    · rw [if_neg e, ih]
      constructor
      · rintro ⟨h1, h2⟩
        exact ⟨by omega, h2⟩
      · rintro ⟨h1, h2⟩
        rcases Nat.lt_or_ge i k with h3 | h3
        · exact ⟨h3, h2⟩
        · exact absurd (by rw [← h2, show i = k by omega]) e
theorem shareCnt_eq (f : Nat → BitVec 64) : shareCnt f = cntB (bitW f) 256 := by
  have h : ∀ j, cntB (fun i => bitW f (64 * j + i)) 64 = wordCnt (f j) := fun j => cntB_congr fun i hi => by
    unfold bitW
    rw [show (64 * j + i) / 64 = j by omega, show (64 * j + i) % 64 = i by omega]
    rfl
  have e : cntB (bitW f) 256 = cntB (bitW f) 64 + cntB (fun i => bitW f (64 + i)) 64 + cntB (fun i => bitW f (128 + i)) 64 + cntB (fun i => bitW f (192 + i)) 64 := by
    rw [show (256 : Nat) = 192 + 64 from rfl, cntB_add, show (192 : Nat) = 128 + 64 from rfl, cntB_add, show (128 : Nat) = 64 + 64 from rfl, cntB_add]
  have h0 := h 0
  simp only [Nat.mul_zero, Nat.zero_add] at h0
  rw [e, shareCnt, ← h0, ← h 1, ← h 2, ← h 3]
theorem cntTo_eq (g : Goal) (list : List Hold) (devs : List Int) (n : ByteArray) (f : Nat → Bool) : ∀ k, (∀ b, b < k → (f b = true ↔ there g list devs (n, (b : Int)))) → cntB f k = cntTo g list devs n k
  | 0, _ => rfl
  | k + 1, h => by
    rw [cntB, cntTo, cntTo_eq g list devs n f k (fun b hb => h b (by omega))]
    have := h k (by omega)
    by_cases e : there g list devs (n, (k : Int))
    · rw [if_pos e, this.2 e]; rfl
    · rw [if_neg e, Bool.eq_false_iff.2 (fun h' => e (this.1 h'))]; rfl
theorem shrTo_eq (g : Goal) (list : List Hold) (devs : List Int) (f : Nat → Bool) (h0 : f 0 = false) : ∀ k, (∀ b, b < k → (f (b + 1) = true ↔ hasShare g list devs ((b : Int) + 1))) → cntB f (k + 1) = shrTo g list devs k
  | 0, _ => by rw [cntB, cntB, h0]; rfl
  | k + 1, h => by
    rw [cntB, shrTo, shrTo_eq g list devs f h0 k (fun b hb => h b (by omega))]
    have := h k (by omega)
    by_cases e : hasShare g list devs ((k : Int) + 1)
    · rw [if_pos e, this.2 e]; rfl
    · rw [if_neg e, Bool.eq_false_iff.2 (fun h' => e (this.1 h'))]; rfl
/-- The holdings by place. -/
theorem some_hold {list : List Hold} {P : Hold → Prop} : (∃ h ∈ list, P h) ↔ ∃ j, j < list.length ∧ P (hgt (sortH list) j) := by
  have hl := sortH_len list
  constructor
  · rintro ⟨h, hm, hp⟩
    obtain ⟨j, hj, rfl⟩ := List.mem_iff_getElem.1 ((sortH_perm list).mem_iff.2 hm)
    exact ⟨j, by omega, by rw [hgt_eq _ _ hj]; exact hp⟩
  · rintro ⟨j, hj, hp⟩
    exact ⟨_, (sortH_perm list).mem_iff.1 (by rw [hgt_eq _ _ (by omega)]; exact List.getElem_mem _), hp⟩
/-- **The program's sum is the specification's, where the set's bits name the devices.** -/
theorem psum_eq {g : Goal} {list : List Hold} (hv : Valid g list) (s : Nat) (devs : List Int) (hm : ∀ j, j < list.length → (s.testBit j = true ↔ (hgt (sortH list) j).dev ∈ devs)) : psum g list s = lackSum g list devs := by
  obtain ⟨v1, v2, v3, v4, v5, v6, v7, v8⟩ := hv
  have hl := sortH_len list
  have hL : ∀ h ∈ sortH list, h ∈ list := fun h hh => (sortH_perm list).mem_iff.1 hh
  have nfi := needTo_iff g.needs v7.2 g.needs.length (Nat.le_refl _)
  unfold psum sumOf maskSum lackSum
  have ea : lackList g.needs (withM (nfOf g) (sortH list) s (ms0 g) list.length) = lackNeeds g list devs := by
    refine List.ext_getElem (by simp [lackList, lackNeeds]) fun i h1 h2 => ?_
    have hi : i < g.needs.length := by simpa [lackList] using h1
    have hms : i < (ms0 g).length := by rw [giveM_len]; simpa using hi
    simp only [lackList, lackNeeds, List.getElem_map, List.getElem_range]
    unfold lackAt lackNeed
    rw [pg_eq g.needs i hi]
    congr 1
    refine cntTo_eq g list devs _ _ 16 fun b hb => ?_
    have e1 := withM_bit (nfOf g) (sortH list) s i b (ms0 g) hms (fun h hh p hp => (v8.1 h (hL h hh)).2.2.1.1 p hp) list.length (by omega)
    have e2 := giveM_bit (nfOf g) i b g.pieces (List.replicate g.needs.length 0) (by simpa using hi) v4.1
    have e3 : (maskAt (List.replicate g.needs.length (0 : BitVec 16)) i).getLsbD b = false := by
      simp [maskAt, List.getD_eq_getElem?_getD, List.getElem?_replicate, hi]
    have hpi : ∀ p : Piece, (nfOf g p.1 = some i ∧ (b : Int) = p.2) ↔ p = (g.needs[i].1, (b : Int)) := fun p => by
      rw [nfi p.1 i, pg_eq g.needs i hi]
      constructor
      · rintro ⟨⟨_, h2⟩, h3⟩
        exact Prod.ext h2.symm h3.symm
      · rintro rfl
        exact ⟨⟨hi, rfl⟩, rfl⟩
    show (maskAt (withM (nfOf g) (sortH list) s (ms0 g) list.length) i).getLsbD b = true ↔ _
    rw [e1, e2, e3]
    unfold there
    rw [some_hold]
    simp only [hpi, exists_eq_right, Bool.false_eq_true, false_or]
    constructor
    · rintro (h | ⟨j, h1, h2, h3⟩)
      · exact .inl h
      · exact .inr ⟨j, h1, (hm j h1).1 h2, h3⟩
    · rintro (h | ⟨j, h1, h2, h3⟩)
      · exact .inl h
      · exact .inr ⟨j, h1, (hm j h1).2 h2, h3⟩
  have eb : shareCnt (withW (sortH list) s (fw0 g) list.length) = shrTo g list devs 255 := by
    have hsh : ∀ x : Nat, bitW (withW (sortH list) s (fw0 g) list.length) x = true ↔ hasShare g list devs (x : Int) := fun x => by
      have e1 := withW_bit (sortH list) s x (fw0 g) (fun h hh y hy => by have := (v8.1 h (hL h hh)).2.2.2.1 y hy; omega) list.length (by omega)
      have e2 := addWs_bit x g.shares zeroW (fun y hy => by have := v5.1 y hy; omega)
      have e3 : bitW zeroW x = false := by simp [bitW, zeroW]
      rw [e1, e2, e3]
      unfold hasShare
      rw [some_hold]
      simp only [Bool.false_eq_true, false_or]
      constructor
      · rintro (h | ⟨j, h1, h2, h3⟩)
        · exact .inl h
        · exact .inr ⟨j, h1, (hm j h1).1 h2, h3⟩
      · rintro (h | ⟨j, h1, h2, h3⟩)
        · exact .inl h
        · exact .inr ⟨j, h1, (hm j h1).2 h2, h3⟩
    rw [shareCnt_eq]
    refine shrTo_eq g list devs _ ?_ 255 fun b _ => by have := hsh (b + 1); simpa using this
    refine Bool.eq_false_iff.2 fun h => ?_
    rcases (hsh 0).1 h with h1 | ⟨h, h1, _, h2⟩
    · have := v5.1 _ h1; omega
    · have := (v8.1 h h1).2.2.2.1 _ h2; omega
  have ec : (if withI (sortH list) s (!g.index) list.length = true then (0 : Int) else 1) = lackIdx g list devs := by
    have e1 := withI_bit (sortH list) s (!g.index) list.length
    have hlx : lacksIdx g list devs ↔ g.index = true ∧ ¬ ∃ j, j < list.length ∧ (hgt (sortH list) j).dev ∈ devs ∧ (hgt (sortH list) j).index = true := by
      unfold lacksIdx
      rw [some_hold]
    unfold lackIdx
    by_cases h : withI (sortH list) s (!g.index) list.length = true
    · rw [if_pos h, if_neg]
      intro hc
      obtain ⟨h1, h2⟩ := hlx.1 hc
      rcases e1.1 h with h3 | ⟨j, h3, h4, h5⟩
      · rw [h1] at h3; cases h3
      · exact h2 ⟨j, h3, (hm j h3).1 h4, h5⟩
    · rw [if_neg h, if_pos]
      refine hlx.2 ⟨?_, ?_⟩
      · cases hx : g.index with
        | true => rfl
        | false => exact absurd (e1.2 (.inl (by rw [hx]; rfl))) h
      · rintro ⟨j, h3, h4, h5⟩
        exact h (e1.2 (.inr ⟨j, h3, (hm j h3).2 h4, h5⟩))
  rw [ea, eb]
  unfold lackShares
  have ec' : (if withI (sortH list) s (!g.index) list.length = true then (0 : Int) else 1) = lackIdx g list devs := ec
  rw [← ec']
  omega
end Go.Proofs.Ytlinhckgdfhppaa
namespace Go.Proofs.Ytlinhckgdfhppaa
open Go Go.Proofs.YtlinhckgdfhppaaK

/-! More devices lack less; where something lacks that all devices have, one device helps. -/
section
variable {g : Goal} {list : List Hold} {a b : List Int}
theorem there_mono (h : ∀ x ∈ list, x.dev ∈ a → x.dev ∈ b) {p : Piece} (ht : there g list a p) : there g list b p := by
  rcases ht with h1 | ⟨x, h1, h2, h3⟩
  · exact .inl h1
  · exact .inr ⟨x, h1, h x h1 h2, h3⟩
theorem has_mono (h : ∀ x ∈ list, x.dev ∈ a → x.dev ∈ b) {p : Int} (ht : hasShare g list a p) : hasShare g list b p := by
  rcases ht with h1 | ⟨x, h1, h2, h3⟩
  · exact .inl h1
  · exact .inr ⟨x, h1, h x h1 h2, h3⟩
theorem cntTo_mono (h : ∀ x ∈ list, x.dev ∈ a → x.dev ∈ b) (n : ByteArray) : ∀ k, cntTo g list a n k ≤ cntTo g list b n k
  | 0 => Nat.le_refl _
  | k + 1 => by
    rw [cntTo, cntTo]
    have := cntTo_mono h n k
    by_cases h1 : there g list a (n, (k : Int))
    · rw [if_pos h1, if_pos (there_mono h h1)]; omega
    · rw [if_neg h1]; omega
theorem shrTo_mono (h : ∀ x ∈ list, x.dev ∈ a → x.dev ∈ b) : ∀ k, shrTo g list a k ≤ shrTo g list b k
  | 0 => Nat.le_refl _
  | k + 1 => by
    rw [shrTo, shrTo]
    have := shrTo_mono h k
    by_cases h1 : hasShare g list a ((k : Int) + 1)
    · rw [if_pos h1, if_pos (has_mono h h1)]; omega
    · rw [if_neg h1]; omega
theorem subN_anti (d : Int) {c c' : Nat} (h : c ≤ c') : subN d c' ≤ subN d c := by unfold subN; omega
theorem lackNeed_mono (h : ∀ x ∈ list, x.dev ∈ a → x.dev ∈ b) (n : Need) : lackNeed g list b n ≤ lackNeed g list a n := subN_anti _ (cntTo_mono h n.1 16)
theorem lackShares_mono (h : ∀ x ∈ list, x.dev ∈ a → x.dev ∈ b) : lackShares g list b ≤ lackShares g list a := subN_anti _ (shrTo_mono h 255)
theorem lackIdx_mono (h : ∀ x ∈ list, x.dev ∈ a → x.dev ∈ b) : lackIdx g list b ≤ lackIdx g list a := by
  unfold lackIdx
  by_cases h1 : lacksIdx g list b
  · rw [if_pos h1, if_pos]
    · omega
    · exact ⟨h1.1, fun ⟨x, h2, h3, h4⟩ => h1.2 ⟨x, h2, h x h2 h3, h4⟩⟩
  · rw [if_neg h1]
    split <;> omega
theorem sum_map_le {α : Type} (f f' : α → Int) : ∀ xs : List α, (∀ x ∈ xs, f x ≤ f' x) → (xs.map f).sum ≤ (xs.map f').sum
  | [], _ => by simp
  | x :: xs, h => by
    have h1 := sum_map_le f f' xs (fun y hy => h y (List.mem_cons_of_mem _ hy))
    have h2 := h x (List.mem_cons_self ..)
    simp only [List.map_cons, List.sum_cons]
    omega
theorem sum_map_lt {α : Type} (f f' : α → Int) : ∀ xs : List α, (∀ x ∈ xs, f x ≤ f' x) → ∀ x ∈ xs, f x < f' x → (xs.map f).sum < (xs.map f').sum
  | x :: xs, h, y, hy, hlt => by
    have h2 := h x (List.mem_cons_self ..)
    have hr := fun z hz => h z (List.mem_cons_of_mem x hz)
    simp only [List.map_cons, List.sum_cons]
    rcases List.mem_cons.1 hy with rfl | hy
    · have := sum_map_le f f' xs hr
      omega
    · have := sum_map_lt f f' xs hr y hy hlt
      omega
theorem lackSum_mono (h : ∀ x ∈ list, x.dev ∈ a → x.dev ∈ b) : lackSum g list b ≤ lackSum g list a := by
  have h1 := sum_map_le (lackNeed g list b) (lackNeed g list a) g.needs (fun n _ => lackNeed_mono h n)
  have h2 := lackShares_mono (g := g) h
  have h3 := lackIdx_mono (g := g) h
  unfold lackSum lackNeeds
  omega
theorem lackSum_same (h : ∀ x ∈ list, x.dev ∈ a ↔ x.dev ∈ b) : lackSum g list a = lackSum g list b :=
  Int.le_antisymm (lackSum_mono fun x hx => (h x hx).2) (lackSum_mono fun x hx => (h x hx).1)
theorem cntTo_grow {n : ByteArray} : ∀ k, cntTo g list a n k < cntTo g list b n k → ∃ i, i < k ∧ ¬ there g list a (n, (i : Int)) ∧ there g list b (n, (i : Int))
  | 0, h => by simp [cntTo] at h
  | k + 1, h => by
    rw [cntTo, cntTo] at h
    by_cases h1 : there g list b (n, (k : Int)) ∧ ¬ there g list a (n, (k : Int))
    · exact ⟨k, by omega, h1.2, h1.1⟩
    · have h2 : cntTo g list a n k < cntTo g list b n k := by
        by_cases h3 : there g list b (n, (k : Int))
        · have h4 : there g list a (n, (k : Int)) := Decidable.byContradiction fun h4 => h1 ⟨h3, h4⟩
          rw [if_pos h3, if_pos h4] at h
          omega
        · rw [if_neg h3] at h
          omega
      obtain ⟨i, hi, h5⟩ := cntTo_grow k h2
      exact ⟨i, by omega, h5⟩
theorem shrTo_grow : ∀ k, shrTo g list a k < shrTo g list b k → ∃ i, i < k ∧ ¬ hasShare g list a ((i : Int) + 1) ∧ hasShare g list b ((i : Int) + 1)
  | 0, h => by simp [shrTo] at h
  | k + 1, h => by
    rw [shrTo, shrTo] at h
    by_cases h1 : hasShare g list b ((k : Int) + 1) ∧ ¬ hasShare g list a ((k : Int) + 1)
    · exact ⟨k, by omega, h1.2, h1.1⟩
    · have h2 : shrTo g list a k < shrTo g list b k := by
        by_cases h3 : hasShare g list b ((k : Int) + 1)
        · have h4 : hasShare g list a ((k : Int) + 1) := Decidable.byContradiction fun h4 => h1 ⟨h3, h4⟩
          rw [if_pos h3, if_pos h4] at h
          omega
        · rw [if_neg h3] at h
          omega
      obtain ⟨i, hi, h5⟩ := shrTo_grow k h2
      exact ⟨i, by omega, h5⟩
theorem cntTo_strict (h : ∀ x ∈ list, x.dev ∈ a → x.dev ∈ b) {n : ByteArray} {i : Nat} (h1 : ¬ there g list a (n, (i : Int))) (h2 : there g list b (n, (i : Int))) : ∀ k, i < k → cntTo g list a n k < cntTo g list b n k
  | k + 1, hk => by
    rw [cntTo, cntTo]
    rcases Nat.lt_or_ge i k with h3 | h3
    · have := cntTo_strict h h1 h2 k h3
      by_cases h4 : there g list a (n, (k : Int))
      · rw [if_pos h4, if_pos (there_mono h h4)]; omega
      · rw [if_neg h4]; omega
    · obtain rfl : i = k := by omega
      have := cntTo_mono (g := g) h n i
      rw [if_neg h1, if_pos h2]
      omega
theorem shrTo_strict (h : ∀ x ∈ list, x.dev ∈ a → x.dev ∈ b) {i : Nat} (h1 : ¬ hasShare g list a ((i : Int) + 1)) (h2 : hasShare g list b ((i : Int) + 1)) : ∀ k, i < k → shrTo g list a k < shrTo g list b k
  | k + 1, hk => by
    rw [shrTo, shrTo]
    rcases Nat.lt_or_ge i k with h3 | h3
    · have := shrTo_strict h h1 h2 k h3
      by_cases h4 : hasShare g list a ((k : Int) + 1)
      · rw [if_pos h4, if_pos (has_mono h h4)]; omega
      · rw [if_neg h4]; omega
    · obtain rfl : i = k := by omega
      have := shrTo_mono (g := g) h i
      rw [if_neg h1, if_pos h2]
      omega
theorem sum_nn {α : Type} (f : α → Int) (hf : ∀ x, 0 ≤ f x) (xs : List α) : 0 ≤ (xs.map f).sum := by
  induction xs with
  | nil => simp
  | cons x xs ih =>
    have := hf x
    simp only [List.map_cons, List.sum_cons]
    omega
theorem sum_zero_each {α : Type} (f : α → Int) (hf : ∀ x, 0 ≤ f x) : ∀ xs : List α, (xs.map f).sum = 0 → ∀ x ∈ xs, f x = 0
  | x :: xs, h, y, hy => by
    have h1 := sum_nn f hf xs
    have h2 := hf x
    simp only [List.map_cons, List.sum_cons] at h
    rcases List.mem_cons.1 hy with rfl | hy
    · omega
    · exact sum_zero_each f hf xs (by omega) y hy
theorem sum_pos_some {α : Type} (f : α → Int) (hf : ∀ x, 0 ≤ f x) : ∀ xs : List α, 0 < (xs.map f).sum → ∃ x ∈ xs, 0 < f x
  | x :: xs, h => by
    by_cases h1 : 0 < f x
    · exact ⟨x, List.mem_cons_self .., h1⟩
    · simp only [List.map_cons, List.sum_cons] at h
      obtain ⟨y, hy, h2⟩ := sum_pos_some f hf xs (by omega)
      exact ⟨y, List.mem_cons_of_mem _ hy, h2⟩
/-- What lacks and all have, one device more makes less. -/
theorem gain_ex (h0 : 0 < lackSum g list a) (hb : lackSum g list b = 0) : ∃ x ∈ list, lackSum g list (x.dev :: a) < lackSum g list a := by
  have nn : ∀ (d : List Int) (n : Need), 0 ≤ lackNeed g list d n := fun d n => subN_nn _ _
  have nb := sum_nn (lackNeed g list b) (nn b) g.needs
  have ns : 0 ≤ lackShares g list b := subN_nn _ _
  have ni : 0 ≤ lackIdx g list b := by unfold lackIdx; split <;> omega
  have grow : ∀ x : Hold, ∀ y ∈ list, y.dev ∈ a → y.dev ∈ x.dev :: a := fun x y _ h => List.mem_cons_of_mem _ h
  have le1 := fun x : Hold => sum_map_le (lackNeed g list (x.dev :: a)) (lackNeed g list a) g.needs (fun n _ => lackNeed_mono (grow x) n)
  have le2 := fun x : Hold => lackShares_mono (g := g) (grow x)
  have le3 := fun x : Hold => lackIdx_mono (g := g) (grow x)
  unfold lackSum lackNeeds at *
  have z1 : (g.needs.map (lackNeed g list b)).sum = 0 := by omega
  have z2 : lackShares g list b = 0 := by omega
  have z3 : lackIdx g list b = 0 := by omega
  have ms : 0 ≤ lackShares g list a := subN_nn _ _
  have mi : 0 ≤ lackIdx g list a := by unfold lackIdx; split <;> omega
  by_cases c1 : 0 < (g.needs.map (lackNeed g list a)).sum
  · obtain ⟨n, hn, hp⟩ := sum_pos_some _ (nn a) _ c1
    have hz := sum_zero_each _ (nn b) _ z1 n hn
    have hlt : cntTo g list a n.1 16 < cntTo g list b n.1 16 := by
      unfold lackNeed subN at hp hz
      omega
    obtain ⟨i, hi, h1, h2⟩ := cntTo_grow 16 hlt
    rcases h2 with h2 | ⟨x, hx, _, h3⟩
    · exact absurd (.inl h2) h1
    · refine ⟨x, hx, ?_⟩
      have hst := cntTo_strict (grow x) h1 (.inr ⟨x, hx, List.mem_cons_self .., h3⟩) 16 hi
      have hl : lackNeed g list (x.dev :: a) n < lackNeed g list a n := by
        unfold lackNeed subN at *
        omega
      have := sum_map_lt (lackNeed g list (x.dev :: a)) (lackNeed g list a) g.needs (fun n _ => lackNeed_mono (grow x) n) n hn hl
      have := le2 x
      have := le3 x
      omega
  · have n1 := sum_nn (lackNeed g list a) (nn a) g.needs
    by_cases c2 : 0 < lackShares g list a
    · have hlt : shrTo g list a 255 < shrTo g list b 255 := by
        unfold lackShares subN at c2 z2
        omega
      obtain ⟨i, hi, h1, h2⟩ := shrTo_grow 255 hlt
      rcases h2 with h2 | ⟨x, hx, _, h3⟩
      · exact absurd (.inl h2) h1
      · refine ⟨x, hx, ?_⟩
        have hst := shrTo_strict (grow x) h1 (.inr ⟨x, hx, List.mem_cons_self .., h3⟩) 255 hi
        have hl : lackShares g list (x.dev :: a) < lackShares g list a := by
          unfold lackShares subN at *
          omega
        have := le1 x
        have := le3 x
        omega
    · have c3 : lackIdx g list a = 1 := by
        have : lackIdx g list a ≤ 1 := by unfold lackIdx; split <;> omega
        omega
      have hl : lacksIdx g list a := by
        unfold lackIdx at c3
        split at c3
        · assumption
        · cases c3
      have hnb : ¬ lacksIdx g list b := fun h => by
        unfold lackIdx at z3
        rw [if_pos h] at z3
        cases z3
      have : ∃ x ∈ list, x.dev ∈ b ∧ x.index = true := Decidable.byContradiction fun h => hnb ⟨hl.1, h⟩
      obtain ⟨x, hx, _, h3⟩ := this
      refine ⟨x, hx, ?_⟩
      have h4 : lackIdx g list (x.dev :: a) = 0 := by
        unfold lackIdx
        rw [if_neg]
        exact fun h => h.2 ⟨x, hx, List.mem_cons_self .., h3⟩
      have := le1 x
      have := le2 x
      omega
end
end Go.Proofs.Ytlinhckgdfhppaa
namespace Go.Proofs.Ytlinhckgdfhppaa
open Go Go.Proofs.YtlinhckgdfhppaaK

/-! The program's sets and their devices. -/
theorem devs_inj {list : List Hold} (hd : (list.map (·.dev)).Nodup) {i j : Nat} (hi : i < list.length) (hj : j < list.length) (h : (hgt (sortH list) i).dev = (hgt (sortH list) j).dev) : i = j := by
  have hl := sortH_len list
  have hd2 : ((sortH list).map (·.dev)).Nodup := ((sortH_perm list).map _).nodup_iff.2 hd
  rw [hgt_eq _ _ (by omega), hgt_eq _ _ (by omega)] at h
  rcases Nat.lt_trichotomy i j with h1 | h1 | h1
  · exact absurd (by rw [List.getElem_map, List.getElem_map]; exact h) ((List.pairwise_iff_getElem.1 hd2) i j (by simp; omega) (by simp; omega) h1)
  · exact h1
  · exact absurd (by rw [List.getElem_map, List.getElem_map]; exact h.symm) ((List.pairwise_iff_getElem.1 hd2) j i (by simp; omega) (by simp; omega) h1)
theorem pickTo_mem (L : List Hold) (s : Nat) (d : Int) : ∀ k, d ∈ pickTo L s k ↔ ∃ j, j < k ∧ s.testBit j = true ∧ (hgt L j).dev = d
  | 0 => by simp [pickTo]
  | k + 1 => by
    have ih := pickTo_mem L s d k
    rw [pickTo]
    by_cases ht : s.testBit k = true
    · rw [if_pos ht, List.mem_append, ih, List.mem_singleton]
      constructor
      · rintro (⟨j, h1, h2⟩ | h)
        · exact ⟨j, by omega, h2⟩
        · exact ⟨k, by omega, ht, h.symm⟩
      · rintro ⟨j, h1, h2, h3⟩
        rcases Nat.lt_or_ge j k with h4 | h4
        · exact .inl ⟨j, h4, h2, h3⟩
        · obtain rfl : j = k := by omega
          exact .inr h3.symm
    · rw [if_neg ht, ih]
      constructor
      · rintro ⟨j, h1, h2⟩
        exact ⟨j, by omega, h2⟩
      · rintro ⟨j, h1, h2, h3⟩
        rcases Nat.lt_or_ge j k with h4 | h4
        · exact ⟨j, h4, h2, h3⟩
        · obtain rfl : j = k := by omega
          exact absurd h2 ht
section
variable {g : Goal} {list : List Hold}
theorem pick_bit (hv : Valid g list) (s j : Nat) (hj : j < list.length) : s.testBit j = true ↔ (hgt (sortH list) j).dev ∈ pickTo (sortH list) s list.length := by
  rw [pickTo_mem]
  constructor
  · exact fun h => ⟨j, hj, h, rfl⟩
  · rintro ⟨i, h1, h2, h3⟩
    rwa [← devs_inj hv.nodup h1 hj h3]
theorem psum_pick (hv : Valid g list) (s : Nat) : psum g list s = lackSum g list (pickTo (sortH list) s list.length) := psum_eq hv s _ (pick_bit hv s)
theorem or_bit (s i j : Nat) : (s ||| 2 ^ i).testBit j = true ↔ s.testBit j = true ∨ i = j := by
  rw [Nat.testBit_or, Bool.or_eq_true, Nat.testBit_two_pow, decide_eq_true_eq]
theorem psum_or (hv : Valid g list) (s i : Nat) (hi : i < list.length) : psum g list (s ||| 2 ^ i) = lackSum g list ((hgt (sortH list) i).dev :: pickTo (sortH list) s list.length) := by
  refine psum_eq hv _ _ fun j hj => ?_
  rw [or_bit, List.mem_cons, ← pick_bit hv s j hj]
  constructor
  · rintro (h | h)
    · exact .inr h
    · exact .inl (by rw [h])
  · rintro (h | h)
    · exact .inr (devs_inj hv.nodup hj hi h).symm
    · exact .inl h
theorem psum_full (hv : Valid g list) (devs : List Int) (hd : ∀ x ∈ list, x.dev ∈ devs) : psum g list (2 ^ list.length - 1) = lackSum g list devs := by
  refine psum_eq hv _ _ fun j hj => ?_
  rw [Nat.testBit_two_pow_sub_one, decide_eq_true hj]
  simp only [true_iff]
  exact hd _ ((sortH_perm list).mem_iff.1 (by rw [hgt_eq _ _ (by rw [sortH_len]; exact hj)]; exact List.getElem_mem _))
/-- The gain of holding i beside the set s. -/
def gainV (g : Goal) (list : List Hold) (s i : Nat) : Int := psum g list s - psum g list (s ||| 2 ^ i)
theorem gainV_nn (hv : Valid g list) (s i : Nat) (hi : i < list.length) : 0 ≤ gainV g list s i := by
  unfold gainV
  rw [psum_or hv s i hi, psum_pick hv s]
  have := lackSum_mono (g := g) (list := list) (a := pickTo (sortH list) s list.length) (b := (hgt (sortH list) i).dev :: pickTo (sortH list) s list.length) (fun x _ h => List.mem_cons_of_mem _ h)
  omega
/-- The holding with the greatest gain among the first k, and that gain. -/
def nextTo (g : Goal) (list : List Hold) (s : Nat) : Nat → Nat × Int
  | 0 => (0, -1)
  | k + 1 => if (nextTo g list s k).2 < gainV g list s k then (k, gainV g list s k) else nextTo g list s k
theorem nextTo_ge (s : Nat) : ∀ k i, i < k → gainV g list s i ≤ (nextTo g list s k).2
  | k + 1, i, hi => by
    rw [nextTo]
    by_cases h : (nextTo g list s k).2 < gainV g list s k
    · rw [if_pos h]
      show gainV g list s i ≤ gainV g list s k
      rcases Nat.lt_or_ge i k with h1 | h1
      · have := nextTo_ge s k i h1
        omega
      · rw [show i = k by omega]
        exact Int.le_refl _
    · rw [if_neg h]
      rcases Nat.lt_or_ge i k with h1 | h1
      · exact nextTo_ge s k i h1
      · rw [show i = k by omega]
        omega
theorem nextTo_is (hv : Valid g list) (s : Nat) : ∀ k, k ≤ list.length → (k = 0 ∧ nextTo g list s k = (0, -1)) ∨ ((nextTo g list s k).1 < k ∧ (nextTo g list s k).2 = gainV g list s (nextTo g list s k).1)
  | 0, _ => .inl ⟨rfl, rfl⟩
  | k + 1, hk => by
    right
    rw [nextTo]
    by_cases h : (nextTo g list s k).2 < gainV g list s k
    · rw [if_pos h]
      exact ⟨Nat.lt_succ_self _, rfl⟩
    · rw [if_neg h]
      rcases nextTo_is hv s k (by omega) with ⟨h1, h2⟩ | ⟨h1, h2⟩
      · rw [h2] at h
        have := gainV_nn hv s k (by omega)
        exact absurd (by omega) h
      · exact ⟨by omega, h2⟩
def nxt (g : Goal) (list : List Hold) (s : Nat) : Nat := (nextTo g list s list.length).1
theorem nxt_less (hv : Valid g list) (h0 : psum g list (2 ^ list.length - 1) = 0) (s : Nat) (hs : psum g list s ≠ 0) : nxt g list s < list.length ∧ psum g list (s ||| 2 ^ nxt g list s) < psum g list s := by
  have hp := psum_bd hv s
  rw [psum_full hv (list.map (·.dev)) (fun x hx => List.mem_map_of_mem hx)] at h0
  have h1 : 0 < lackSum g list (pickTo (sortH list) s list.length) := by rw [← psum_pick hv]; omega
  obtain ⟨x, hx, hlt⟩ := gain_ex h1 h0
  obtain ⟨i, hi, rfl⟩ := List.mem_iff_getElem.1 ((sortH_perm list).mem_iff.2 hx)
  have hi' : i < list.length := by rw [← sortH_len]; exact hi
  rw [← hgt_eq _ _ hi, ← psum_or hv s i hi', ← psum_pick hv s] at hlt
  have hg := nextTo_ge (g := g) (list := list) s list.length i hi'
  rcases nextTo_is hv s list.length (Nat.le_refl _) with ⟨h2, _⟩ | ⟨h2, h3⟩
  · omega
  · refine ⟨h2, ?_⟩
    unfold nxt
    rw [h3] at hg
    unfold gainV at hg
    omega
/-- The first m steps of Greedy: the set and the devices. -/
def grTo (g : Goal) (list : List Hold) : Nat → Nat × List Int
  | 0 => (0, [])
  | m + 1 => if psum g list (grTo g list m).1 = 0 then grTo g list m else ((grTo g list m).1 ||| 2 ^ nxt g list (grTo g list m).1, (grTo g list m).2 ++ [(hgt (sortH list) (nxt g list (grTo g list m).1)).dev])
theorem grTo_stay (m : Nat) (h : psum g list (grTo g list m).1 = 0) : ∀ j, grTo g list (m + j) = grTo g list m
  | 0 => rfl
  | j + 1 => by
    have ih := grTo_stay m h j
    rw [← Nat.add_assoc, grTo, ih, if_pos h]
theorem grTo_one (m k : Nat) (hm : psum g list (grTo g list m).1 = 0) (hk : psum g list (grTo g list k).1 = 0) : grTo g list m = grTo g list k := by
  rcases Nat.le_total m k with h | h
  · have := grTo_stay m hm (k - m)
    rwa [Nat.add_sub_cancel' h, eq_comm] at this
  · have := grTo_stay k hk (m - k)
    rwa [Nat.add_sub_cancel' h] at this
theorem grTo_lt (hv : Valid g list) (h0 : psum g list (2 ^ list.length - 1) = 0) : ∀ m, (grTo g list m).1 < 2 ^ list.length ∧ (grTo g list m).2.length ≤ m
  | 0 => ⟨Nat.pow_pos (by omega), Nat.le_refl _⟩
  | m + 1 => by
    have ih := grTo_lt hv h0 m
    rw [grTo]
    by_cases h : psum g list (grTo g list m).1 = 0
    · rw [if_pos h]
      exact ⟨ih.1, by omega⟩
    · rw [if_neg h]
      have h1 := nxt_less hv h0 _ h
      refine ⟨Nat.or_lt_two_pow ih.1 (Nat.pow_lt_pow_right (by omega) h1.1), ?_⟩
      show ((grTo g list m).2 ++ _).length ≤ _
      rw [List.length_append, List.length_singleton]
      omega
theorem grTo_sum (hv : Valid g list) (h0 : psum g list (2 ^ list.length - 1) = 0) : ∀ m, psum g list (grTo g list m).1 ≠ 0 → psum g list (grTo g list m).1 + m ≤ 66000
  | 0, _ => by have := (psum_bd hv (grTo g list 0).1).2; omega
  | m + 1, h => by
    rw [grTo] at h ⊢
    by_cases h1 : psum g list (grTo g list m).1 = 0
    · rw [if_pos h1] at h
      exact absurd h1 h
    · rw [if_neg h1]
      have ih := grTo_sum hv h0 m h1
      have h2 := (nxt_less hv h0 _ h1).2
      show psum g list ((grTo g list m).1 ||| 2 ^ nxt g list (grTo g list m).1) + _ ≤ _
      omega
end
end Go.Proofs.Ytlinhckgdfhppaa
