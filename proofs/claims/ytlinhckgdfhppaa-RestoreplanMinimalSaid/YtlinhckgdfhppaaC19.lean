/- A part of the proof: what the functions do, and plain laws. -/
import Derived.Test.YtlinhckgdfhppaaC18
namespace Go.Proofs.Ytlinhckgdfhppaa
open Go Go.RowKit Go.Proofs.YtlinhckgdfhppaaK
theorem cnt16 (x : Nat) (hx : x < 65536) : cntB (x / 256).testBit 8 + cntB (x % 256).testBit 8 = cntB x.testBit 16 := by
  have h := cnt_val [x % 256, x / 256] (by
    intro b hb
    simp only [List.mem_cons, List.not_mem_nil, or_false] at hb
    omega)
  have e : val [x % 256, x / 256] = x := by
    simp only [val]
    omega
  rw [e] at h
  have h' : cntB x.testBit 16 = cntB (x % 256).testBit 8 + (cntB (x / 256).testBit 8 + 0) := h
  omega
theorem and255 (x : Nat) (hx : x < 65536) : bits .and .u16 (x : Int) 255 = ((x % 256 : Nat) : Int) := by
  have h1 : (BitVec.ofNat 16 x &&& BitVec.ofNat 16 255).toNat = x % 256 := by
    rw [BitVec.toNat_and, BitVec.toNat_ofNat, BitVec.toNat_ofNat, Nat.mod_eq_of_lt (by omega), Nat.mod_eq_of_lt (by omega)]
    exact Nat.and_two_pow_sub_one_eq_mod x 8
  show IntKind.u16.wrap ((BitVec.ofInt 16 (x : Int) &&& BitVec.ofInt 16 ((255 : Nat) : Int)).toNat : Int) = _
  rw [BitVec.ofInt_natCast, BitVec.ofInt_natCast, h1]
  simp [IntKind.wrap, IntKind.bits, IntKind.signed]
  omega
theorem run_table (T : ByteArray) (hT : T.size = 256 ∧ ∀ i, (h : i < T.size) → (T[i]'h).toNat = cntB i.testBit 8) (k : IntKind) (i : Nat) (hi : i < 256) (W : World) :
    (Instr.index 9 (.string T) (.int k (i : Int))).run Try.prog W = .ok (.int .u8 ((cntB i.testBit 8 : Nat) : Int)) W := by
  have hh : 0 ≤ (i : Int) ∧ (i : Int) < T.size := by rw [hT.1]; omega
  rw [run_index_string W 9 T k (i : Int) Try.underlying9 , dif_pos hh]
  have := hT.2 i (by rw [hT.1]; exact hi)
  simp only [Int.toNat_natCast, this]
set_option maxRecDepth 100000 in
set_option maxHeartbeats 1000000 in
theorem ones16_any (x : Nat) (hx : x < 65536) (w : World) : Calls Try.prog 46 #[.int .u16 (x : Int)] w fun e w' => e = .returned (.int .i64 (cntB x.testBit 16 : Nat)) ∧ ∃ q, w' = w.drewN q := by
  have h1 : (x : Int) / 256 = ((x / 256 : Nat) : Int) := by omega
  have h2 := and255 x hx
  have k1 := cntB_le (x / 256).testBit 8
  have k2 := cntB_le (x % 256).testBit 8
  have HC := As.mk (cnt16 x hx)
  go_enter Try.func46, Try.ntmps46
  generalize hT : ByteArray.mk _ = T
  have HT : As (T.size = 256 ∧ ∀ i, (h : i < T.size) → (T[i]'h).toNat = cntB i.testBit 8) := ⟨by
    subst hT
    decide +kernel⟩
  clear hT
  have R1 := fun W => run_table T HT.o .u16 (x / 256) (by omega) W
  have R2 := fun W => run_table T HT.o .u16 (x % 256) (by omega) W
  generalize cntB (x / 256).testBit 8 = a at *
  generalize cntB (x % 256).testBit 8 = b at *
  have e1 : IntKind.u8.wrap ((a : Int) + (b : Int)) = ((a + b : Nat) : Int) := by
    simp [IntKind.wrap, IntKind.bits, IntKind.signed]
    omega
  have e2 : IntKind.i64.wrap ((a + b : Nat) : Int) = ((a + b : Nat) : Int) := IntWalk.i64_in _ (by omega)
  rw [← HC.o]
  clear HC HT hx
  generalize a + b = c at *
  generalize x / 256 = d at *
  generalize x % 256 = m at *
  go_wp2
  go_quiet (fail)
  go_wp2
  go_ret
  exact ⟨rfl, _, rfl⟩
end Go.Proofs.Ytlinhckgdfhppaa
