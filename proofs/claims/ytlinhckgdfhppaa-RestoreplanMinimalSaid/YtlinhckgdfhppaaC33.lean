/- A part of the proof: what the functions do, and plain laws. -/
import Derived.Test.YtlinhckgdfhppaaC32
namespace Go.Proofs.Ytlinhckgdfhppaa
open Go Go.RowKit Go.Proofs.YtlinhckgdfhppaaK Go.Sort

/-- The first number that is not 0, or 0. -/
def firstNZ (xs : List Int) : Int := (xs.find? fun x => decide (x ≠ 0)).getD 0
theorem firstNZ_at {xs : List Int} {k : Nat} (hk : k < xs.length) (h0 : ∀ x ∈ xs.take k, x = 0) (h : ig xs k ≠ 0) : firstNZ xs = ig xs k := by
  have e : xs = xs.take k ++ ig xs k :: xs.drop (k + 1) := by rw [ig_eq xs k hk, List.getElem_cons_drop, List.take_append_drop]
  unfold firstNZ
  rw [e, List.find?_append, List.find?_eq_none.2 (fun x hx => by simp [h0 x hx])]
  rw [← e]
  simp [h]
theorem firstNZ_none {xs : List Int} (h0 : ∀ x ∈ xs, x = 0) : firstNZ xs = 0 := by
  unfold firstNZ
  rw [List.find?_eq_none.2 (fun x hx => by simp [h0 x hx])]
  rfl
set_option maxRecDepth 100000 in
set_option maxHeartbeats 1000000 in
theorem or_any (A : Option Addr) (n c : Nat) (ok : Nat → Prop) (xs : List Int) (w : World) (h : Row (Kn.int .i64) w ok A n xs) :
    Calls Try.prog 63 #[.slice A n c] w fun e w' => e = .returned (.int .i64 (firstNZ xs)) ∧ w = w' := by
  have hm := h.2.1
  have HL := As.mk h.1
  have HR := As.mk h
  clear h
  go_enter Try.func63, Try.ntmps63
  go_wp2
  go_loopw [8] (fun i' wr => ∃ k : Nat, k ≤ n ∧ i' = .int .i64 k ∧ As (∀ x ∈ xs.take k, x = 0) ∧ w = wr) (fun i' _ => n - (intOf i').toNat)
  case atStart => exact ⟨0, Nat.zero_le _, rfl, ⟨by simp⟩, rfl⟩
  case round =>
    obtain ⟨k, hk, rfl, HZ, rfl⟩ := hrel
    by_cases hlt : k < n
    · obtain ⟨ad, rfl, _, _, p0⟩ := HR.o.int_at k hlt
      have hkl : k < xs.length := by rw [HL.o]; exact hlt
      have HS := As.mk (take_ig xs k hkl)
      have HF := As.mk (fun h => firstNZ_at (xs := xs) (k := k) hkl HZ.o h)
      generalize ig xs k = y at *
      by_cases hy : y = 0
      · subst hy
        clear HF
        go_wp2
        go_roundw
        case rel =>
          refine ⟨k + 1, by omega, by go_num, ⟨?_⟩, trivial⟩
          rw [HS.o]
          intro x hx
          rcases List.mem_append.1 hx with h1 | h1
          · exact HZ.o x h1
          · simpa using h1
        case measure => simp [intOf]; omega
      · have HY := As.mk (HF.o hy)
        have d0 : (y == 0) = false := by simp [hy]
        clear HF
        go_wp2
        go_ret
        exact ⟨by rw [HY.o]; rfl, rfl⟩
    · have e : k = n := by omega
      subst e
      rw [List.take_of_length_le (by rw [HL.o]; exact Nat.le_refl _)] at HZ
      go_wp2
      go_ret
      exact ⟨by rw [firstNZ_none HZ.o]; rfl, rfl⟩

/-- How the program orders sets: by their number of bits, then by the reversed bits, the greater first. -/
def cnt64 (x : BitVec 64) : Nat := cntB x.toNat.testBit 64
def rv64 (x : BitVec 64) : Nat := rev64 x.toNat
def cfU (x y : BitVec 64) : Int := firstNZ [Lib.compareInt (cnt64 x) (cnt64 y), Lib.compareInt (rv64 y) (rv64 x)]
def ltU (x y : BitVec 64) : Prop := cnt64 x < cnt64 y ∨ (cnt64 x = cnt64 y ∧ rv64 y < rv64 x)
instance (x y : BitVec 64) : Decidable (ltU x y) := by unfold ltU; infer_instance
theorem orLt (a b c d : Nat) : firstNZ [Lib.compareInt (a : Int) b, Lib.compareInt (d : Int) c] < 0 ↔ (a < b ∨ (a = b ∧ d < c)) := by
  unfold firstNZ Lib.compareInt
  by_cases h1 : (a : Int) < b
  · simp [h1]; omega
  · by_cases h2 : (b : Int) < a
    · simp [h1, h2]; omega
    · have e : a = b := by omega
      subst e
      by_cases h3 : (d : Int) < c
      · simp [h3]; omega
      · by_cases h4 : (c : Int) < d
        · simp [h3, h4]; omega
        · simp [h3, h4]; omega
theorem ltU_yes {x y : BitVec 64} : ltOf cfU x y = true ↔ ltU x y := decide_eq_true_iff.trans (orLt _ _ _ _)
theorem ltU_no {x y : BitVec 64} : ltOf cfU x y = false ↔ ¬ ltU x y := by rw [← ltU_yes, Bool.not_eq_true]
theorem rv64_inj {x y : BitVec 64} (h : rv64 x = rv64 y) : x = y := by
  refine BitVec.eq_of_toNat_eq (Nat.eq_of_testBit_eq fun i => ?_)
  rcases Nat.lt_or_ge i 64 with hi | hi
  · have h1 := rev64_bit x.toNat (63 - i) (by omega)
    have h2 := rev64_bit y.toNat (63 - i) (by omega)
    rw [show 63 - (63 - i) = i by omega] at h1 h2
    rw [← h1, ← h2]
    exact congrArg (fun z : Nat => z.testBit (63 - i)) h
  · rw [Nat.testBit_lt_two_pow (Nat.lt_of_lt_of_le x.isLt (Nat.pow_le_pow_right (by omega) hi)), Nat.testBit_lt_two_pow (Nat.lt_of_lt_of_le y.isLt (Nat.pow_le_pow_right (by omega) hi))]
theorem swoU : SWO (ltOf cfU) where
  irrefl x := ltU_no.2 (by unfold ltU; omega)
  trans x y z h1 h2 := by
    rw [ltU_yes] at *
    unfold ltU at *
    omega
  ntrans x y z h1 h2 := by
    rw [ltU_no] at *
    unfold ltU at *
    omega
theorem totU (x y : BitVec 64) (h1 : ltOf cfU x y = false) (h2 : ltOf cfU y x = false) : x = y := by
  rw [ltU_no] at *
  unfold ltU at *
  exact rv64_inj (by omega)
abbrev eU (x : BitVec 64) : Value := .int .u64 (x.toNat : Int)
def kU : Kn (BitVec 64) := Kn.scalar eU fun _ => rfl
theorem info_uint : (Try.prog.info? 85).map (fun i => (i.zero, i.size, i.bytes)) = some (some (.int .u64 0), 1, 8) := by kernel_rfl
set_option maxRecDepth 100000 in
set_option maxHeartbeats 1000000 in
theorem closeU (x y : BitVec 64) (W : World) : Calls Try.prog 62 #[eU x, eU y] W fun e w' => e = .returned (.int .i64 (cfU x y)) ∧ ∃ q os', w' = grow (W.drewN q) os' := by
  have hx := x.isLt
  have hy := y.isLt
  have ONX := As.mk fun W => ones_any x.toNat hx W
  have ONY := As.mk fun W => ones_any y.toNat hy W
  have RVX := As.mk fun W => rev_any x.toNat hx W
  have RVY := As.mk fun W => rev_any y.toNat hy W
  have CI := As.mk fun W => AnyG.cmp_Compare_int Try.cmpI (cnt64 x) (cnt64 y) W
  have CU := As.mk fun W => cmpU_any (rv64 y) (rv64 x) W
  obtain ⟨r, hr⟩ : ∃ r, r = cfU x y := ⟨_, rfl⟩
  rw [← hr]
  have HR := As.mk (show firstNZ [Lib.compareInt (cnt64 x) (cnt64 y), Lib.compareInt (rv64 y) (rv64 x)] = r from hr.symm)
  change As (∀ W, Calls Try.prog 64 _ _ _) at CI
  change As (∀ W, Calls Try.prog _ #[.int .u64 (x.toNat : Int)] _ fun e w' => e = .returned (.int .i64 (cnt64 x : Nat)) ∧ W = w') at ONX
  change As (∀ W, Calls Try.prog _ #[.int .u64 (y.toNat : Int)] _ fun e w' => e = .returned (.int .i64 (cnt64 y : Nat)) ∧ W = w') at ONY
  change As (∀ W, Calls Try.prog _ #[.int .u64 (x.toNat : Int)] _ fun e w' => e = .returned (.int .u64 (rv64 x : Nat)) ∧ W = w') at RVX
  change As (∀ W, Calls Try.prog _ #[.int .u64 (y.toNat : Int)] _ fun e w' => e = .returned (.int .u64 (rv64 y : Nat)) ∧ W = w') at RVY
  clear hr
  show Calls Try.prog 62 #[.int .u64 (x.toNat : Int), .int .u64 (y.toNat : Int)] W _
  generalize cnt64 x = a at *
  generalize cnt64 y = b at *
  generalize rv64 x = c at *
  generalize rv64 y = d at *
  generalize Lib.compareInt (a : Int) (b : Int) = p at *
  generalize Lib.compareInt (d : Int) (c : Int) = q at *
  generalize (x.toNat : Int) = xi at *
  generalize (y.toNat : Int) = yi at *
  have OR : As (Calls Try.prog 63 #[.slice (some ⟨W.heap.size, 0, none⟩) 2 2] (W.alloc (.cells #[.int .i64 p, .int .i64 q] 3)) fun e w' => e = .returned (.int .i64 r) ∧ W.alloc (.cells #[.int .i64 p, .int .i64 q] 3) = w') := ⟨by
    have hrow : Row (Kn.int .i64) (W.alloc (.cells #[.int .i64 p, .int .i64 q] 3)) (fun _ => True) (some ⟨W.heap.size, 0, none⟩) 2 [p, q] := by
      refine ⟨rfl, by omega, fun _ => ⟨_, rfl, trivial, by simp, fun j z hz => ⟨_, rfl, fun i u hu => ?_⟩⟩⟩
      match i, hu with
      | 0, hu =>
        rw [add_lit0, cell_of_row _ _ _ _ _ _ (heap_alloc_new W _)]
        match j, hz with
        | 0, hz => simp at hz hu; subst hz; subst hu; rfl
        | 1, hz => simp at hz hu; subst hz; subst hu; rfl
      | i + 1, hu => simp at hu
    have := or_any _ 2 2 _ _ _ hrow
    rw [HR.o] at this
    exact this⟩
  clear HR
  go_enter Try.func62, Try.ntmps62
  go_wp2_with (first
    | (go_at_call 65; first | (refine (ONX.o _).mono ?_; rintro e w1 ⟨rfl, rfl⟩) | (refine (ONY.o _).mono ?_; rintro e w1 ⟨rfl, rfl⟩))
    | (go_at_call 67; first | (refine (RVX.o _).mono ?_; rintro e w1 ⟨rfl, rfl⟩) | (refine (RVY.o _).mono ?_; rintro e w1 ⟨rfl, rfl⟩))
    | (go_at_call 64; refine (CI.o _).mono ?_; rintro e w1 ⟨rfl, rfl⟩)
    | (go_at_call 66; refine (CU.o _).mono ?_; rintro e w1 ⟨rfl, rfl⟩)
    | (go_at_call 63; refine OR.o.mono ?_; rintro e w1 ⟨rfl, rfl⟩))
  go_ret
  exact ⟨rfl, 0, _, by rw [alloc_eq_grow]; rfl⟩
end Go.Proofs.Ytlinhckgdfhppaa
