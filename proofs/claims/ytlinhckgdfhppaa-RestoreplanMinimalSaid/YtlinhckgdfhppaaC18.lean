/- A part of the proof: what the functions do, and plain laws. -/
import Derived.Test.YtlinhckgdfhppaaC17
import Derived.Test.YtlinhckgdfhppaaK6
namespace Go.Proofs.Ytlinhckgdfhppaa
open Go Go.RowKit Go.Proofs.YtlinhckgdfhppaaK

theorem and_u64 (a m : Nat) (ha : a < 18446744073709551616) : bits .and .u64 (a : Int) (m : Int) = ((a &&& m : Nat) : Int) := by
  have h1 : (BitVec.ofNat 64 a &&& BitVec.ofNat 64 m).toNat = a &&& m := by
    rw [BitVec.toNat_and, BitVec.toNat_ofNat, BitVec.toNat_ofNat, Nat.mod_eq_of_lt ha, ← Nat.and_two_pow_sub_one_eq_mod m 64, ← Nat.and_assoc, Nat.and_comm, ← Nat.and_assoc, Nat.and_comm _ a, Nat.and_two_pow_sub_one_eq_mod, Nat.mod_eq_of_lt ha]
  show IntKind.u64.wrap ((BitVec.ofInt 64 (a : Int) &&& BitVec.ofInt 64 (m : Int)).toNat : Int) = _
  rw [BitVec.ofInt_natCast, BitVec.ofInt_natCast, h1]
  have h2 : a &&& m < 18446744073709551616 := Nat.lt_of_le_of_lt Nat.and_le_left ha
  simp [IntKind.wrap, IntKind.bits, IntKind.signed]
  omega
theorem wrap64 (a : Nat) (h : a < 18446744073709551616) : IntKind.u64.wrap (a : Int) = (a : Int) := by
  simp [IntKind.wrap, IntKind.bits, IntKind.signed]
  omega
theorem sw1 (x : Nat) (hx : x < 18446744073709551616) (h : st1 x < 18446744073709551616) : IntKind.u64.wrap (bits .and .u64 ((x : Int) / 2) 6148914691236517205 + bits .and .u64 (x : Int) 6148914691236517205) = ((st1 x : Nat) : Int) := by
  have e1 : bits .and .u64 ((x : Int) / 2) 6148914691236517205 = ((x / 2 &&& 6148914691236517205 : Nat) : Int) := and_u64 (x / 2) 6148914691236517205 (by omega)
  have e2 : bits .and .u64 (x : Int) 6148914691236517205 = ((x &&& 6148914691236517205 : Nat) : Int) := and_u64 x 6148914691236517205 hx
  rw [e1, e2]
  exact wrap64 (st1 x) h
theorem sw2 (x : Nat) (hx : x < 18446744073709551616) (h : st2 x < 18446744073709551616) : IntKind.u64.wrap (bits .and .u64 ((x : Int) / 4) 3689348814741910323 + bits .and .u64 (x : Int) 3689348814741910323) = ((st2 x : Nat) : Int) := by
  have e1 : bits .and .u64 ((x : Int) / 4) 3689348814741910323 = ((x / 4 &&& 3689348814741910323 : Nat) : Int) := and_u64 (x / 4) 3689348814741910323 (by omega)
  have e2 : bits .and .u64 (x : Int) 3689348814741910323 = ((x &&& 3689348814741910323 : Nat) : Int) := and_u64 x 3689348814741910323 hx
  rw [e1, e2]
  exact wrap64 (st2 x) h
theorem sw3 (x : Nat) (h : x / 16 + x < 18446744073709551616) : bits .and .u64 (IntKind.u64.wrap ((x : Int) / 16 + (x : Int))) 1085102592571150095 = ((st3 x : Nat) : Int) := by
  have e1 : IntKind.u64.wrap ((x : Int) / 16 + (x : Int)) = ((x / 16 + x : Nat) : Int) := wrap64 (x / 16 + x) h
  rw [e1]
  exact and_u64 (x / 16 + x) 1085102592571150095 h
theorem sw4 (x : Nat) (h : st4 x < 18446744073709551616) : IntKind.u64.wrap ((x : Int) + (x : Int) / 256) = ((st4 x : Nat) : Int) := wrap64 (st4 x) h
theorem sw5 (x : Nat) (h : st5 x < 18446744073709551616) : IntKind.u64.wrap ((x : Int) + (x : Int) / 65536) = ((st5 x : Nat) : Int) := wrap64 (st5 x) h
theorem sw6 (x : Nat) (h : st6 x < 18446744073709551616) : IntKind.u64.wrap ((x : Int) + (x : Int) / 4294967296) = ((st6 x : Nat) : Int) := wrap64 (st6 x) h
theorem sw7 (x : Nat) (h : x < 9223372036854775808) : IntKind.i64.wrap (x : Int) = (x : Int) ∧ bits .and .i64 (x : Int) 127 = ((x &&& 127 : Nat) : Int) := by
  refine ⟨IntWalk.i64_in _ (by omega), ?_⟩
  have h1 : (BitVec.ofNat 64 x &&& BitVec.ofNat 64 127).toNat = x &&& 127 := by
    rw [BitVec.toNat_and, BitVec.toNat_ofNat, BitVec.toNat_ofNat, Nat.mod_eq_of_lt (by omega), Nat.mod_eq_of_lt (by omega)]
  show IntKind.i64.wrap ((BitVec.ofInt 64 (x : Int) &&& BitVec.ofInt 64 ((127 : Nat) : Int)).toNat : Int) = _
  rw [BitVec.ofInt_natCast, BitVec.ofInt_natCast, h1]
  have h2 : x &&& 127 ≤ 127 := Nat.and_le_right
  exact IntWalk.i64_in _ (by omega)
set_option maxRecDepth 100000 in
set_option maxHeartbeats 1000000 in
theorem ones64_any (x : Nat) (hx : x < 18446744073709551616) (w : World) : Calls Try.prog 77 #[.int .u64 (x : Int)] w fun e w' => e = .returned (.int .i64 (cntB x.testBit 64 : Nat)) ∧ w = w' := by
  obtain ⟨p0, p1, p2, p3, p4, p5, p6⟩ := popcount x hx
  have P0 := As.mk p0
  have e1 := sw1 x hx p1
  generalize st1 x = x1 at *
  have e2 := sw2 x1 p1 p2
  generalize st2 x1 = x2 at *
  have e3 := sw3 x2 p3
  generalize st3 x2 = x3 at *
  have e4 := sw4 x3 p4
  generalize st4 x3 = x4 at *
  have e5 := sw5 x4 p5
  generalize st5 x4 = x5 at *
  have e6 := sw6 x5 (by omega)
  generalize st6 x5 = x6 at *
  obtain ⟨e7, e8⟩ := sw7 x6 p6
  generalize x6 &&& 127 = r at *
  clear p0 p1 p2 p3 p4 p5 p6
  have := P0.o
  subst this
  clear P0
  go_enter Try.func77, Try.ntmps77
  go_wp2
  go_ret
  exact ⟨rfl, rfl⟩
end Go.Proofs.Ytlinhckgdfhppaa
