/- A part of the proof: what the functions do, and plain laws. -/
import Derived.Test.YtlinhckgdfhppaaC31
namespace Go.Proofs.Ytlinhckgdfhppaa
open Go Go.RowKit Go.Proofs.YtlinhckgdfhppaaK Go.Sort

/-- A step of the reversal: neighbouring groups of k bits change places (p = 2 ^ k). -/
def swp1 (p M x : Nat) : Nat := (x / p &&& M) ||| ((x &&& M) * p)
def sg (k i : Nat) : Nat := if i / k % 2 = 0 then i + k else i - k
theorem swp1_bit (k M x i : Nat) (hk : 0 < k) (hM : ∀ j, j < 64 → M.testBit j = decide (j / k % 2 = 0)) (hi : i < 64) : (swp1 (2 ^ k) M x).testBit i = x.testBit (sg k i) := by
  unfold swp1 sg
  rw [Nat.testBit_or, Nat.testBit_and, Nat.testBit_div_two_pow, Nat.testBit_mul_two_pow, Nat.testBit_and, hM i hi]
  by_cases h : i / k % 2 = 0
  · rw [if_pos h, decide_eq_true h]
    by_cases hki : k ≤ i
    · have e : (i - k) / k = i / k - 1 := by have := Nat.sub_mul_div i k 1; rwa [Nat.mul_one] at this
      have h1 : 1 ≤ i / k := (Nat.one_le_div_iff hk).2 hki
      rw [hM (i - k) (by omega), e, decide_eq_false (show ¬ (i / k - 1) % 2 = 0 by omega)]
      simp
    · simp [hki]
  · have h1 : 1 ≤ i / k := by
      rcases Nat.eq_zero_or_pos (i / k) with h0 | h0
      · rw [h0] at h; exact absurd rfl h
      · exact h0
    have hki : k ≤ i := (Nat.one_le_div_iff hk).1 h1
    have e : (i - k) / k = i / k - 1 := by have := Nat.sub_mul_div i k 1; rwa [Nat.mul_one] at this
    rw [if_neg h, decide_eq_false h, hM (i - k) (by omega), e, decide_eq_true (show (i / k - 1) % 2 = 0 by omega)]
    simp [hki]
theorem swp1_lt (k M x : Nat) (hM : M * 2 ^ k < 2 ^ 64) (hm : M < 2 ^ 64) : swp1 (2 ^ k) M x < 2 ^ 64 :=
  Nat.or_lt_two_pow (Nat.lt_of_le_of_lt Nat.and_le_right hm) (Nat.lt_of_le_of_lt (Nat.mul_le_mul_right _ Nat.and_le_right) hM)
def swp6 (x : Nat) : Nat := x / 4294967296 ||| x * 4294967296 % 18446744073709551616
theorem swp6_bit (x i : Nat) (hx : x < 2 ^ 64) (hi : i < 64) : (swp6 x).testBit i = x.testBit (sg 32 i) := by
  unfold swp6 sg
  rw [show (4294967296 : Nat) = 2 ^ 32 from rfl, show (18446744073709551616 : Nat) = 2 ^ 64 from rfl, Nat.testBit_or, Nat.testBit_div_two_pow, Nat.testBit_mod_two_pow, Nat.testBit_mul_two_pow, decide_eq_true hi]
  by_cases h : i < 32
  · rw [if_pos (show i / 32 % 2 = 0 by omega), decide_eq_false (show ¬ 32 ≤ i by omega)]
    simp
  · rw [if_neg (show ¬ i / 32 % 2 = 0 by omega), decide_eq_true (show 32 ≤ i by omega), Nat.testBit_lt_two_pow (x := x) (i := i + 32) (Nat.lt_of_lt_of_le hx (Nat.pow_le_pow_right (by omega) (by omega)))]
    simp
theorem swp6_lt (x : Nat) (hx : x < 2 ^ 64) : swp6 x < 2 ^ 64 := Nat.or_lt_two_pow (Nat.lt_of_le_of_lt (Nat.div_le_self _ _) hx) (Nat.mod_lt _ (by decide))
def rev64 (x : Nat) : Nat := swp6 (swp1 65536 281470681808895 (swp1 256 71777214294589695 (swp1 16 1085102592571150095 (swp1 4 3689348814741910323 (swp1 2 6148914691236517205 x)))))
theorem rev64_lt (x : Nat) : rev64 x < 2 ^ 64 := swp6_lt _ (swp1_lt 16 _ _ (by decide) (by decide))
theorem sg_all : ∀ i : Fin 64, sg 32 i < 64 ∧ sg 16 (sg 32 i) < 64 ∧ sg 8 (sg 16 (sg 32 i)) < 64 ∧ sg 4 (sg 8 (sg 16 (sg 32 i))) < 64 ∧ sg 2 (sg 4 (sg 8 (sg 16 (sg 32 i)))) < 64 ∧ sg 1 (sg 2 (sg 4 (sg 8 (sg 16 (sg 32 i))))) = 63 - i := by decide +kernel
theorem mask1 : ∀ j : Fin 64, (6148914691236517205 : Nat).testBit j = decide (j.1 / 1 % 2 = 0) := by decide +kernel
theorem mask2 : ∀ j : Fin 64, (3689348814741910323 : Nat).testBit j = decide (j.1 / 2 % 2 = 0) := by decide +kernel
theorem mask4 : ∀ j : Fin 64, (1085102592571150095 : Nat).testBit j = decide (j.1 / 4 % 2 = 0) := by decide +kernel
theorem mask8 : ∀ j : Fin 64, (71777214294589695 : Nat).testBit j = decide (j.1 / 8 % 2 = 0) := by decide +kernel
theorem mask16 : ∀ j : Fin 64, (281470681808895 : Nat).testBit j = decide (j.1 / 16 % 2 = 0) := by decide +kernel
theorem rev64_bit (x i : Nat) (hi : i < 64) : (rev64 x).testBit i = x.testBit (63 - i) := by
  obtain ⟨h1, h2, h3, h4, h5, h6⟩ := sg_all ⟨i, hi⟩
  simp only at h1 h2 h3 h4 h5 h6
  unfold rev64
  rw [swp6_bit _ _ (swp1_lt 16 _ _ (by decide) (by decide)) hi]
  have e5 := swp1_bit 16 281470681808895 (swp1 256 71777214294589695 (swp1 16 1085102592571150095 (swp1 4 3689348814741910323 (swp1 2 6148914691236517205 x)))) _ (by omega) (fun j hj => mask16 ⟨j, hj⟩) h1
  have e4 := swp1_bit 8 71777214294589695 (swp1 16 1085102592571150095 (swp1 4 3689348814741910323 (swp1 2 6148914691236517205 x))) _ (by omega) (fun j hj => mask8 ⟨j, hj⟩) h2
  have e3 := swp1_bit 4 1085102592571150095 (swp1 4 3689348814741910323 (swp1 2 6148914691236517205 x)) _ (by omega) (fun j hj => mask4 ⟨j, hj⟩) h3
  have e2 := swp1_bit 2 3689348814741910323 (swp1 2 6148914691236517205 x) _ (by omega) (fun j hj => mask2 ⟨j, hj⟩) h4
  have e1 := swp1_bit 1 6148914691236517205 x _ (by omega) (fun j hj => mask1 ⟨j, hj⟩) h5
  rw [h6] at e1
  exact e5.trans (e4.trans (e3.trans (e2.trans e1)))
/-- The step as the program computes it. -/
theorem swr (p M : Nat) (x : Nat) (hx : x < 18446744073709551616) (hp : 0 < p) (hM : M * p < 18446744073709551616) (hm : M < 18446744073709551616) :
    bits .or .u64 (bits .and .u64 ((x / p : Nat) : Int) (M : Int)) (IntKind.u64.wrap (bits .and .u64 (x : Int) (M : Int) * (p : Int))) = ((swp1 p M x : Nat) : Int) := by
  have h1 : (x &&& M) * p < 18446744073709551616 := Nat.lt_of_le_of_lt (Nat.mul_le_mul_right _ Nat.and_le_right) hM
  rw [and_u64 _ _ (Nat.lt_of_le_of_lt (Nat.div_le_self _ _) hx), and_u64 _ _ hx, ← Int.natCast_mul, wrap64 _ h1, or_nat64 _ _ (Nat.lt_of_le_of_lt Nat.and_le_right hm) h1]
  rfl
set_option maxRecDepth 100000 in
set_option maxHeartbeats 1000000 in
theorem revB_any (x : Nat) (hx : x < 18446744073709551616) (w : World) : Calls Try.prog 99 #[.int .u64 (x : Int)] w fun e w' => e = .returned (.int .u64 (swp6 (swp1 65536 281470681808895 (swp1 256 71777214294589695 x)) : Nat)) ∧ w = w' := by
  have e1 : bits .or .u64 (bits .and .u64 ((x : Int) / 256) 71777214294589695) (IntKind.u64.wrap (bits .and .u64 (x : Int) 71777214294589695 * 256)) = _ := swr 256 71777214294589695 x hx (by decide) (by decide) (by decide)
  have l1 : swp1 256 71777214294589695 x < 18446744073709551616 := swp1_lt 8 _ _ (by decide) (by decide)
  generalize swp1 256 71777214294589695 x = x1 at *
  have e2 : bits .or .u64 (bits .and .u64 ((x1 : Int) / 65536) 281470681808895) (IntKind.u64.wrap (bits .and .u64 (x1 : Int) 281470681808895 * 65536)) = _ := swr 65536 281470681808895 x1 l1 (by decide) (by decide) (by decide)
  have l2 : swp1 65536 281470681808895 x1 < 18446744073709551616 := swp1_lt 16 _ _ (by decide) (by decide)
  generalize swp1 65536 281470681808895 x1 = x2 at *
  have e3 : bits .or .u64 ((x2 : Int) / 4294967296) (IntKind.u64.wrap ((x2 : Int) * 4294967296)) = ((swp6 x2 : Nat) : Int) := by
    have h : IntKind.u64.wrap ((x2 : Int) * 4294967296) = ((x2 * 4294967296 % 18446744073709551616 : Nat) : Int) := by
      simp [IntKind.wrap, IntKind.bits, IntKind.signed]
    rw [h]
    exact or_nat64 (x2 / 4294967296) _ (Nat.lt_of_le_of_lt (Nat.div_le_self _ _) l2) (Nat.mod_lt _ (by decide))
  generalize swp6 x2 = x3 at *
  clear l1 l2
  go_enter Try.func99, Try.ntmps99
  go_wp2
  go_ret
  exact ⟨rfl, rfl⟩
set_option maxRecDepth 100000 in
set_option maxHeartbeats 1000000 in
theorem rev64_any (x : Nat) (hx : x < 18446744073709551616) (w : World) : Calls Try.prog 84 #[.int .u64 (x : Int)] w fun e w' => e = .returned (.int .u64 (rev64 x : Nat)) ∧ w = w' := by
  have REV := As.mk fun y hy => revB_any y hy w
  unfold rev64
  have e1 : bits .or .u64 (bits .and .u64 ((x : Int) / 2) 6148914691236517205) (IntKind.u64.wrap (bits .and .u64 (x : Int) 6148914691236517205 * 2)) = _ := swr 2 6148914691236517205 x hx (by decide) (by decide) (by decide)
  have l1 : swp1 2 6148914691236517205 x < 18446744073709551616 := swp1_lt 1 _ _ (by decide) (by decide)
  generalize swp1 2 6148914691236517205 x = x1 at *
  have e2 : bits .or .u64 (bits .and .u64 ((x1 : Int) / 4) 3689348814741910323) (IntKind.u64.wrap (bits .and .u64 (x1 : Int) 3689348814741910323 * 4)) = _ := swr 4 3689348814741910323 x1 l1 (by decide) (by decide) (by decide)
  have l2 : swp1 4 3689348814741910323 x1 < 18446744073709551616 := swp1_lt 2 _ _ (by decide) (by decide)
  generalize swp1 4 3689348814741910323 x1 = x2 at *
  have e3 : bits .or .u64 (bits .and .u64 ((x2 : Int) / 16) 1085102592571150095) (IntKind.u64.wrap (bits .and .u64 (x2 : Int) 1085102592571150095 * 16)) = _ := swr 16 1085102592571150095 x2 l2 (by decide) (by decide) (by decide)
  have l3 : swp1 16 1085102592571150095 x2 < 18446744073709551616 := swp1_lt 4 _ _ (by decide) (by decide)
  generalize swp1 16 1085102592571150095 x2 = x3 at *
  have REV3 := As.mk (REV.o x3 l3)
  clear l1 l2 l3
  go_enter Try.func84, Try.ntmps84
  go_wp2_with (go_at_call 99; refine REV3.o.mono ?_; rintro e w1 ⟨rfl, rfl⟩)
  go_ret
  exact ⟨rfl, rfl⟩
set_option maxRecDepth 100000 in
theorem rev_any (x : Nat) (hx : x < 18446744073709551616) (w : World) : Calls Try.prog 67 #[.int .u64 (x : Int)] w fun e w' => e = .returned (.int .u64 (rev64 x : Nat)) ∧ w = w' := by
  have REV := As.mk (rev64_any x hx w)
  generalize rev64 x = r at *
  go_enter Try.func67, Try.ntmps67
  go_wp2_with (go_at_call 84; refine REV.o.mono ?_; rintro e w1 ⟨rfl, rfl⟩)
  go_ret
  exact ⟨rfl, rfl⟩
set_option maxRecDepth 100000 in
theorem ones_any (x : Nat) (hx : x < 18446744073709551616) (w : World) : Calls Try.prog 65 #[.int .u64 (x : Int)] w fun e w' => e = .returned (.int .i64 (cntB x.testBit 64 : Nat)) ∧ w = w' := by
  have REV := As.mk (ones64_any x hx w)
  generalize cntB x.testBit 64 = r at *
  go_enter Try.func65, Try.ntmps65
  go_wp2_with (go_at_call 77; refine REV.o.mono ?_; rintro e w1 ⟨rfl, rfl⟩)
  go_ret
  exact ⟨rfl, rfl⟩
set_option maxRecDepth 100000 in
theorem nanU_any (x : Int) (w : World) : Calls Try.prog 82 #[.int .u64 x] w fun e w' => e = .returned (.bool false) ∧ w = w' := by
  go_enter Try.func82, Try.ntmps82
  go_wp2
  go_ret
  exact ⟨rfl, rfl⟩
set_option maxRecDepth 100000 in
theorem cmpU_any (x y : Int) (w : World) : Calls Try.prog 66 #[.int .u64 x, .int .u64 y] w fun e w' => e = .returned (.int .i64 (Lib.compareInt x y)) ∧ w = w' := by
  have NAN := As.mk fun z => nanU_any z w
  by_cases h1 : x < y
  · have d1 : decide (x < y) = true := decide_eq_true h1
    have hr : Lib.compareInt x y = -1 := by simp [Lib.compareInt, h1]
    rw [hr]
    go_enter Try.func66, Try.ntmps66
    go_wp2_with (go_at_call 82; refine (NAN.o _).mono ?_; rintro e w1 ⟨rfl, rfl⟩)
    go_ret
    exact ⟨rfl, rfl⟩
  · by_cases h2 : y < x
    · have hr : Lib.compareInt x y = 1 := by simp [Lib.compareInt, h1, h2]
      have d1 : decide (x < y) = false := decide_eq_false h1
      have d2 : decide (y < x) = true := decide_eq_true h2
      rw [hr]
      go_enter Try.func66, Try.ntmps66
      go_wp2_with (go_at_call 82; refine (NAN.o _).mono ?_; rintro e w1 ⟨rfl, rfl⟩)
      go_ret
      exact ⟨rfl, rfl⟩
    · have hr : Lib.compareInt x y = 0 := by simp [Lib.compareInt, h1, h2]
      have d1 : decide (x < y) = false := decide_eq_false h1
      have d2 : decide (y < x) = false := decide_eq_false h2
      rw [hr]
      go_enter Try.func66, Try.ntmps66
      go_wp2_with (go_at_call 82; refine (NAN.o _).mono ?_; rintro e w1 ⟨rfl, rfl⟩)
      go_ret
      exact ⟨rfl, rfl⟩
end Go.Proofs.Ytlinhckgdfhppaa
