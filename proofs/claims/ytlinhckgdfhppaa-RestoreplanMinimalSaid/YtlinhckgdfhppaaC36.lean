/- A part of the proof: what the functions do, and plain laws. -/
import Derived.Test.YtlinhckgdfhppaaC35
import Derived.WalkMore
namespace Go.Proofs.Ytlinhckgdfhppaa
open Go Go.RowKit Go.Proofs.YtlinhckgdfhppaaK

/-- A set without its bit i. -/
def clrB (x : BitVec 64) (i : Nat) : BitVec 64 := x &&& ~~~ BitVec.ofNat 64 (2 ^ i)
theorem andNot_u64 (x : BitVec 64) (p : Nat) : bits .andNot .u64 (x.toNat : Int) (p : Int) = (((x &&& ~~~ BitVec.ofNat 64 p).toNat : Nat) : Int) := by
  show IntKind.u64.wrap ((BitVec.ofInt 64 (x.toNat : Int) &&& ~~~ BitVec.ofInt 64 (p : Int)).toNat : Int) = _
  rw [BitVec.ofInt_natCast, BitVec.ofInt_natCast, BitVec.ofNat_toNat, BitVec.setWidth_eq]
  exact wrap64 _ (BitVec.isLt _)
def minOK (g : Goal) (list : List Hold) (m : Nat) (x : BitVec 64) : Prop := ∀ i, i < m → x.toNat.testBit i = true → psum g list (clrB x i).toNat ≠ 0
instance (g : Goal) (list : List Hold) (m : Nat) (x : BitVec 64) : Decidable (minOK g list m x) := by unfold minOK; infer_instance
theorem minOK_succ {g : Goal} {list : List Hold} {m : Nat} {x : BitVec 64} (h : minOK g list m x) (hn : x.toNat.testBit m = true → psum g list (clrB x m).toNat ≠ 0) : minOK g list (m + 1) x := by
  intro i hi hb
  rcases Nat.lt_or_ge i m with h1 | h1
  · exact h i h1 hb
  · obtain rfl : i = m := by omega
    exact hn hb
/-- The minimal sets among the first k. -/
def minTo (g : Goal) (list : List Hold) (S : List (BitVec 64)) (k : Nat) : List (List Int) := ((S.take k).filter fun x => decide (minOK g list list.length x)).map fun x => pickTo (sortH list) x.toNat list.length
theorem minTo_succ (g : Goal) (list : List Hold) (S : List (BitVec 64)) (k : Nat) (hk : k < S.length) :
    minTo g list S (k + 1) = if minOK g list list.length (ug S k) then minTo g list S k ++ [pickTo (sortH list) (ug S k).toNat list.length] else minTo g list S k := by
  unfold minTo
  rw [filter_take_succ _ S k (ug S k) hk (ug_eq S k hk).symm]
  by_cases h : minOK g list list.length (ug S k) <;> simp [h]
theorem minTo_len (g : Goal) (list : List Hold) (S : List (BitVec 64)) (k : Nat) : (minTo g list S k).length ≤ k := by
  unfold minTo
  rw [List.length_map]
  exact Nat.le_trans (List.length_filter_le _ _) (List.length_take_le _ _)
def minimalP (g : Goal) (list : List Hold) : List (List Int) := if possOf g list = 0 then minTo g list (setsP g list) (setsP g list).length else []
section
variable (g : Goal) (A1 : Option Addr) (c1 : Nat) (A2 : Option Addr) (c2 : Nat) (A3 : Option Addr) (c3 : Nat) (A4 : Option Addr) (c4 : Nat) (list : List Hold) (w : World)
set_option maxRecDepth 100000 in
set_option maxHeartbeats 1000000 in
theorem minimal_any (hg : GoalIn w (fun k => k < w.heap.size) g A1 c1 A2 c2 A3 c3) (hl : Row kHold w (fun k => k < w.heap.size) A4 list.length list) (h6 : possOf g list = 0 → list.length ≤ 6) :
    Calls Try.prog 13 #[.agg (goalCells g A1 c1 A2 c2 A3 c3), .slice A4 list.length c4] w fun e w' => ∃ A c, e = .returned (.tuple #[.slice A (minimalP g list).length c, .int .i64 (possOf g list)]) ∧ Row kInts w' (fun k => w.heap.size ≤ k ∧ k < w'.heap.size) A (minimalP g list).length (minimalP g list) ∧ Below w.heap.size w w' := by
  have hB0 : Below w.heap.size w (w.alloc (.cells (goalCells g A1 c1 A2 c2 A3 c3) 26)) := (Below.refl _ _).alloc (Nat.le_refl _) _
  by_cases h0 : possOf g list = 0
  · have POS := As.mk (possYes g A1 c1 A2 c2 A3 c3 A4 c4 list w hg hl h0 _ hB0)
    have HB0 := As.mk hB0
    have hv := (possOf_zero h0).1
    have HF : As (minimalP g list = minTo g list (setsP g list) (setsP g list).length) := ⟨if_pos h0⟩
    have hn6 := h6 h0
    rw [h0]
    have SETS := As.mk fun (W : World) (pb : Nat) (h : PIn W pb g list) => setsP_any pb g list W h hv
    have PICK := As.mk fun (W : World) (pb : Nat) (h : PIn W pb g list) (x : BitVec 64) => pickQ h hv x.toNat x.isLt
    have SUF := As.mk fun (W : World) (pb : Nat) (h : PIn W pb g list) (x : BitVec 64) (b : Bool) hb => sufficesQ h hv x.toNat x.isLt b hb
    have hsl := setsP_len g list
    have h26 : 2 ^ list.length ≤ 2 ^ 6 := Nat.pow_le_pow_right (by omega) hn6
    have hsl2 : (setsP g list).length ≤ 64 := by omega
    have LN : As (∀ (W : World) (pb : Nat), PIn W pb g list → ∃ A c, W.cell? ⟨pb, 5, none⟩ = some (.slice A list.length c)) := ⟨fun W pb ⟨mb, A1, c1, A, cl, B, c, hp⟩ => ⟨A, cl, hp.h5⟩⟩
    clear hg hl hB0 hv h0 h6 hsl h26
    generalize minimalP g list = res at *
    generalize setsP g list = S at *
    go_enter Try.func13, Try.ntmps13
    go_wp2
    go_step3
    go_wp2_with (go_at_call 36; refine POS.o.mono ?_; rintro e w1 ⟨pb, rfl, hp1, hb1⟩)
    go_step3
    go_wp2_with (go_at_call 38; refine (SETS.o _ _ hp1).mono ?_; rintro e w2 ⟨A, n, c, rfl, hrow, hb2⟩)
    have hnS := hrow.1
    subst hnS
    have hnm := hrow.2.1
    have HROW := As.mk hrow
    have hp2 := hp1.below hb2
    have s1 := hb1.size
    have s2 := hb2.size
    simp at s1
    have HBW : As (Below w.heap.size w w2) := ⟨bthen (bthen HB0.o hb1 (by simp)) hb2 (by omega)⟩
    have HP := As.mk hp2
    clear hrow hp1 hb1 hb2 hp2
    go_loopw [8, 24] (fun v i' wr => ∃ k : Nat, k ≤ S.length ∧ i' = .int .i64 k ∧ As (OwnK (fun j => w2.heap.size ≤ j) kInts 24 wr w2.heap.size v (minTo g list S k)) ∧ As (Below w2.heap.size w2 wr)) (fun _ i' _ => S.length - (intOf i').toNat)
    case atStart => exact ⟨0, Nat.zero_le _, rfl, ⟨OwnK.nil _ _ _ _ _⟩, ⟨Below.refl _ _⟩⟩
    case round =>
      obtain ⟨k, hk, rfl, HO, HB⟩ := hrel
      by_cases hlt : k < S.length
      · obtain ⟨ad, rfl, _, hadl, p0⟩ := rowU (HROW.o.below HB.o) k hlt
        have HS := As.mk (minTo_succ g list S k hlt)
        have hln := minTo_len g list S k
        obtain ⟨Ah, ch, q5⟩ := LN.o wr pb (HP.o.below HB.o)
        have hki1 : (k : Int) < (S.length : Int) := by omega
        generalize ug S k = x at *
        have hx := x.isLt
        obtain ⟨wo, rfl⟩ : ∃ wo : World, wo = wr := ⟨_, rfl⟩
        go_wp2
        go_loopw [33] (fun i' wr => ∃ m : Nat, m ≤ list.length ∧ i' = .int .i64 m ∧ As (minOK g list m x) ∧ As (Below wo.heap.size wo wr)) (fun i' _ => list.length - (intOf i').toNat)
        case atStart => exact ⟨0, Nat.zero_le _, rfl, ⟨fun i hi => absurd hi (by omega)⟩, ⟨Below.refl _ _⟩⟩
        case round =>
          obtain ⟨m, hm, rfl, HMIN, HBM⟩ := hrel
          have HBB := As.mk (bthen HB.o HBM.o (Nat.le_refl _))
          by_cases hml : m < list.length
          · have hbit := bit_u64 x.toNat m hx
            have hm64 : (m : Int) ≤ 64 := by omega
            have hm0 : (0 : Int) ≤ (m : Int) := by omega
            by_cases ht : x.toNat.testBit m = true
            · rw [if_pos ht] at hbit
              have e1 : (2 : Int) ^ m = ((2 ^ m : Nat) : Int) := by simp
              have h2m : 2 ^ m ≤ 2 ^ 6 := Nat.pow_le_pow_right (by omega) (by omega)
              have e2 : IntKind.u64.wrap (2 ^ m) = ((2 ^ m : Nat) : Int) := by rw [e1]; exact wrap64 (2 ^ m) (by omega)
              have e3 := andNot_u64 x (2 ^ m)
              have e4 := wrap64 (2 ^ m) (by omega)
              rw [e1] at hbit
              obtain ⟨b, hb⟩ : ∃ b, (psum g list (clrB x m).toNat == 0) = b := ⟨_, rfl⟩
              have SUFX := As.mk (SUF.o wr pb (HP.o.below HBB.o) (clrB x m) b hb)
              have HBQ := As.mk hb
              have CLR := As.mk (show x &&& ~~~ BitVec.ofNat 64 (2 ^ m) = clrB x m from rfl)
              rw [CLR.o] at e3
              have HT := As.mk ht
              generalize hcy : clrB x m = y at *
              have HCL := As.mk hcy
              clear hcy
              clear hb ht h2m CLR
              generalize 2 ^ m = p at *
              cases b
              · have hne : psum g list y.toNat ≠ 0 := by
                  intro e
                  have := HBQ.o
                  rw [e] at this
                  cases this
                have HM2 := As.mk (minOK_succ HMIN.o (fun _ => by rw [HCL.o]; exact hne))
                clear hne
                go_wp2_with (go_at_call 39; refine SUFX.o.mono ?_; rintro e w5 ⟨rfl, hb5⟩)
                go_roundw
                case rel => exact ⟨m + 1, by omega, by go_num, HM2, ⟨bthen HBM.o hb5 (Nat.le_refl _)⟩⟩
                case measure => simp [intOf]; omega
              · have he : psum g list y.toNat = 0 := of_decide_eq_true HBQ.o
                have HNO := As.mk (show ¬ minOK g list list.length x from fun hc => hc m hml HT.o (by rw [HCL.o]; exact he))
                clear he
                go_wp2_with (go_at_call 39; refine SUFX.o.mono ?_; rintro e w5 ⟨rfl, hb5⟩)
                go_roundw
                case rel =>
                  refine ⟨k + 1, by omega, by go_num, ⟨by rw [HS.o, if_neg HNO.o]; exact (HO.o.below HBM.o).below hb5⟩, ⟨bthen HBB.o hb5 (Nat.le_refl _)⟩⟩
                case measure => simp [intOf]; omega
            · rw [if_neg ht] at hbit
              have HM2 := As.mk (minOK_succ HMIN.o (fun h => absurd h ht))
              clear ht
              go_wp2
              go_roundw
              case rel => exact ⟨m + 1, by omega, by go_num, HM2, HBM⟩
              case measure => simp [intOf]; omega
          · have e : m = list.length := by omega
            subst e
            have HS2 := As.mk (HS.o.trans (if_pos HMIN.o))
            obtain ⟨Ao, co, rfl, _, _⟩ := HO.o.shape
            have PICKX := As.mk (PICK.o wr pb (HP.o.below HBB.o) x)
            have HOR := As.mk (HO.o.below HBM.o)
            have hsr := HBB.o.size
            have HOL := As.mk HOR.o.lt
            have d256 : (((minTo g list S k).length : Int) == 256) = false := by
              have : ((minTo g list S k).length : Int) ≠ 256 := by omega
              simpa using this
            clear hml hm HMIN HS
            generalize pickTo (sortH list) x.toNat list.length = pk at *
            generalize minTo g list S k = mk at *
            go_wp2_with (first
              | (go_at_call 37; refine PICKX.o.mono ?_; rintro e w6 ⟨v, rfl, hown, hb6⟩; obtain ⟨A9, c9, rfl, hlc, hrv⟩ := own_row (flat_int .i64) hown; have HO6 := As.mk (HOR.o.below hb6); have hs6 := hb6.size; have HK6 : As (kInts.K w6 (fun b => w2.heap.size ≤ b ∧ (Value.slice Ao mk.length co).ownBlock ≠ some b) pk [.slice A9 pk.length c9]) := ⟨⟨A9, c9, rfl, hlc, hrv.mono fun b hb => ⟨Nat.le_trans hsr hb.1, fun e => by have h1 := (HOL.o b e).2; have h2 := hb.1; omega⟩⟩⟩)
              | (at_builtin; refine app_one kInts w2.heap.size rfl (.tmp 53) (.tmp 57) 33 (.slice none 0 0) 24 rfl Try.underlying33 info_ints rfl (by decide) (.slice Ao mk.length co) mk pk [.slice A9 pk.length c9] rfl (by show Value.slice _ _ _ = _; simp) HO6.o HK6.o (by omega) (by omega) (by omega) ?_; intro v1 w7 HO7 hg7 hat7))
            go_roundw
            case rel =>
              refine ⟨k + 1, by omega, by go_num, ⟨by rw [HS2.o]; exact HO7⟩, ⟨?_⟩⟩
              exact (bthen HBB.o hb6 (Nat.le_refl _)).trans (HO6.o.base_le hg7 (Nat.le_refl _) (by omega))
            case measure => simp [intOf]; omega
      · have e : k = S.length := by omega
        subst e
        obtain ⟨Ao, co, rfl, hco, hro⟩ := HO.o.reads
        go_wp2
        rw [Exit.noGoto_ret]
        go_ret2
        rw [HF.o]
        refine ⟨_, _, rfl, hro.mono fun j hj => ⟨?_, hj.2⟩, bthen HBW.o HB.o (Nat.le_refl _)⟩
        have := hj.1.elim id id
        omega
  · have POS := As.mk (possNo g A1 c1 A2 c2 A3 c3 A4 c4 list w hg hl h0 _ hB0)
    have HB0 := As.mk hB0
    have hF : minimalP g list = [] := if_neg h0
    rw [hF]
    have d0 : (possOf g list == 0) = false := by simp [h0]
    clear hg hl hB0 hF h6
    generalize possOf g list = r at *
    go_enter Try.func13, Try.ntmps13
    go_wp2
    go_step3
    go_wp2_with (go_at_call 36; refine POS.o.mono ?_; rintro e w1 ⟨rfl, hb1⟩)
    rw [Exit.noGoto_ret]
    go_ret2
    exact ⟨_, _, rfl, Row.nil _ _ _ _, bthen HB0.o hb1 (by simp)⟩
end
end Go.Proofs.Ytlinhckgdfhppaa
