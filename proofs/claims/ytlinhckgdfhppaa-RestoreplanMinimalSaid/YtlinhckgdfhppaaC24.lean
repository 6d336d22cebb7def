/- A part of the proof: what the functions do, and plain laws. -/
import Derived.Test.YtlinhckgdfhppaaC23
namespace Go.Proofs.Ytlinhckgdfhppaa
open Go Go.RowKit Go.Proofs.YtlinhckgdfhppaaK

set_option maxHeartbeats 400000 in
theorem libIndex_any (A : Option Addr) (n c : Nat) (ok : Nat → Prop) (xs : List Int) (x : Int) (w : World) (h : Row (Kn.int .i64) w ok A n xs) :
    Calls Try.prog 87 #[.slice A n c, .int .i64 x] w fun e w' => (∃ r : Int, e = .returned (.int .i64 r) ∧ (0 ≤ r ↔ x ∈ xs)) ∧ w = w' := by
  have hm := h.2.1
  have HL := As.mk h.1
  go_enter Try.func87, Try.ntmps87
  go_wp2
  go_loop [8] (fun i => ∃ k : Nat, k ≤ n ∧ i = .int .i64 k ∧ As (x ∉ xs.take k)) (fun i => n - (intOf i).toNat)
  case atStart => exact ⟨0, Nat.zero_le _, rfl, ⟨by simp⟩⟩
  case round =>
    obtain ⟨k, hk, rfl, hne⟩ := hrel
    by_cases hlt : k < n
    · obtain ⟨ad, rfl, _, _, hcell⟩ := h.int_at k hlt
      have HS := As.mk (ints_snoc (x := x) (show k < xs.length by rw [HL.o]; exact hlt))
      by_cases hx : x = ig xs k
      · have hb : (x == ig xs k) = true := beq_iff_eq.2 hx
        have HX := As.mk hx
        clear hx
        go_wp2
        go_ret
        exact ⟨⟨(k : Int), rfl, fun _ => List.mem_of_mem_take (HS.o.2 (.inr HX.o.symm)), fun _ => by omega⟩, rfl⟩
      · have hb : (x == ig xs k) = false := beq_eq_false_iff_ne.2 hx
        go_wp2
        go_round
        case rel => exact ⟨k + 1, by omega, by go_num, ⟨fun hc => (HS.o.1 hc).elim hne.o fun e => hx e.symm⟩⟩
        case measure => simp [intOf]; omega
    · go_wp2
      go_ret
      have : xs.take k = xs := List.take_of_length_le (by rw [HL.o]; omega)
      refine ⟨⟨-1, rfl, fun h => absurd h (by decide), fun h => absurd h (by rw [← this]; exact hne.o)⟩, rfl⟩
set_option maxHeartbeats 400000 in
theorem libContains_any (A : Option Addr) (n c : Nat) (ok : Nat → Prop) (xs : List Int) (x : Int) (w : World) (h : Row (Kn.int .i64) w ok A n xs) :
    Calls Try.prog 76 #[.slice A n c, .int .i64 x] w fun e w' => e = .returned (.bool (decide (x ∈ xs))) ∧ w = w' := by
  have IDX := As.mk (libIndex_any A n c ok xs x w h)
  clear h
  go_enter Try.func76, Try.ntmps76
  go_wp2_with (go_at_call 87; refine IDX.o.mono ?_; rintro e w1 ⟨⟨r, rfl, hr⟩, rfl⟩)
  go_ret
  exact ⟨by rw [show decide (x ∈ xs) = decide (0 ≤ r) from decide_eq_decide.2 hr.symm]; rfl, rfl⟩

/-- The set of the devices among the first k holdings. -/
def setTo (list : List Hold) (devs : List Int) : Nat → Nat
  | 0 => 0
  | k + 1 => if (hgt list k).dev ∈ devs then setTo list devs k ||| 2 ^ k else setTo list devs k
theorem setTo_lt (list : List Hold) (devs : List Int) : ∀ k, setTo list devs k < 2 ^ k
  | 0 => by simp [setTo]
  | k + 1 => by
    have h := setTo_lt list devs k
    have h2 : 2 ^ k < 2 ^ (k + 1) := Nat.pow_lt_pow_right (by omega) (by omega)
    rw [setTo]
    split
    · exact Nat.or_lt_two_pow (by omega) h2
    · omega
theorem or_nat64 (a b : Nat) (ha : a < 18446744073709551616) (hb : b < 18446744073709551616) : bits .or .u64 (a : Int) (b : Int) = ((a ||| b : Nat) : Int) := by
  have h := or_u64 (BitVec.ofNat 64 a) (BitVec.ofNat 64 b)
  rw [BitVec.toNat_or, BitVec.toNat_ofNat, BitVec.toNat_ofNat, Nat.mod_eq_of_lt ha, Nat.mod_eq_of_lt hb] at h
  exact h
set_option maxRecDepth 100000 in
set_option maxHeartbeats 1000000 in
theorem toSet_any (pb : Nat) (A : Option Addr) (n c : Nat) (list : List Hold) (B : Option Addr) (nd cd : Nat) (devs : List Int) (ok : Nat → Prop) (w : World) (h5 : w.cell? ⟨pb, 5, none⟩ = some (.slice A n c)) (hR : Row kHold w ok A n list) (hD : Row (Kn.int .i64) w ok B nd devs) (hn : n ≤ 12) :
    Calls Try.prog 55 #[.pointer (some ⟨pb, 0, none⟩), .slice B nd cd] w fun e w' => e = .returned (.int .u64 (setTo list devs n : Nat)) ∧ Below w.heap.size w w' := by
  have HR := As.mk hR
  have CON : As (∀ (W : World) (x : Int), Below w.heap.size w W → Calls Try.prog 76 #[.slice B nd cd, .int .i64 x] W fun e w' => e = .returned (.bool (decide (x ∈ devs))) ∧ W = w') := ⟨fun W x hW => libContains_any _ _ _ _ _ _ _ (hD.below hW)⟩
  clear hR hD
  go_enter Try.func55, Try.ntmps55
  go_wp2
  go_loopw [5, 13] (fun v i' wr => ∃ k : Nat, k ≤ n ∧ i' = .int .i64 k ∧ v = .int .u64 (setTo list devs k : Nat) ∧ (Below w.heap.size w wr)) (fun _ i' _ => n - (intOf i').toNat)
  case atStart => exact ⟨0, Nat.zero_le _, rfl, rfl, Below.refl _ _⟩
  case round =>
    obtain ⟨k, hk, rfl, rfl, hb⟩ := hrel
    by_cases hlt : k < n
    · obtain ⟨ad, A1, c1, A2, c2, e1, _, hla, p0, p1, p2, p3, _⟩ := rowHold (HR.o.below hb) k hlt
      subst e1
      have HS := As.mk (show setTo list devs (k + 1) = if (hgt list k).dev ∈ devs then setTo list devs k ||| 2 ^ k else setTo list devs k from rfl)
      have hki : (k : Int) ≤ 64 := by omega
      have hk0 : (0 : Int) ≤ (k : Int) := by omega
      have hsz := hb.size
      have HB := As.mk hb
      have h12 : 2 ^ k ≤ 2 ^ 12 := Nat.pow_le_pow_right (by omega) (by omega)
      have hsl : setTo list devs k < 2 ^ 12 := Nat.lt_of_lt_of_le (setTo_lt list devs k) h12
      have e1 : (2 : Int) ^ k = ((2 ^ k : Nat) : Int) := by simp
      have e2 : IntKind.u64.wrap (2 ^ k) = ((2 ^ k : Nat) : Int) := by rw [e1]; exact wrap64 (2 ^ k) (by omega)
      have e3 := or_nat64 (setTo list devs k) (2 ^ k) (by omega) (by omega)
      generalize hgt list k = y at *
      generalize setTo list devs k = s at *
      generalize 2 ^ k = p at *
      have CON2 : As (∀ (W : World), Below w.heap.size w W → Calls Try.prog 76 #[.slice B nd cd, .int .i64 y.dev] W fun e w' => e = .returned (.bool (decide (y.dev ∈ devs))) ∧ W = w') := ⟨fun W hW => CON.o W y.dev hW⟩
      by_cases ht : y.dev ∈ devs
      · rw [if_pos ht] at HS
        rw [decide_eq_true ht] at CON2
        clear ht
        go_wp2_with (go_at_call 76; refine (CON2.o _ (HB.o.alloc hsz _)).mono ?_; rintro e w5 ⟨rfl, rfl⟩)
        go_roundw
        case rel => exact ⟨k + 1, by omega, by go_num, by rw [HS.o], HB.o.alloc hsz _⟩
        case measure => simp [intOf]; omega
      · rw [if_neg ht] at HS
        rw [decide_eq_false ht] at CON2
        clear ht
        go_wp2_with (go_at_call 76; refine (CON2.o _ (HB.o.alloc hsz _)).mono ?_; rintro e w5 ⟨rfl, rfl⟩)
        go_roundw
        case rel => exact ⟨k + 1, by omega, by go_num, by rw [HS.o], HB.o.alloc hsz _⟩
        case measure => simp [intOf]; omega
    · have e : k = n := by omega
      subst e
      go_wp2
      go_ret
      exact ⟨rfl, hb⟩
end Go.Proofs.Ytlinhckgdfhppaa
