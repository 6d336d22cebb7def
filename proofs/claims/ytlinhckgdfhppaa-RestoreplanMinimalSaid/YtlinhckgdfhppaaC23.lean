/- A part of the proof: what the functions do, and plain laws. -/
import Derived.Test.YtlinhckgdfhppaaC22
namespace Go.Proofs.Ytlinhckgdfhppaa
open Go Go.RowKit Go.Proofs.YtlinhckgdfhppaaK

/-- The devices of the set s among the first k holdings. -/
def pickTo (list : List Hold) (s : Nat) : Nat → List Int
  | 0 => []
  | k + 1 => if s.testBit k = true then pickTo list s k ++ [(hgt list k).dev] else pickTo list s k
theorem pickTo_len (list : List Hold) (s : Nat) : ∀ k, (pickTo list s k).length ≤ k
  | 0 => Nat.le_refl _
  | k + 1 => by
    have := pickTo_len list s k
    rw [pickTo]
    split
    · rw [List.length_append, List.length_singleton]; omega
    · omega
theorem bit_u64 (s k : Nat) (hs : s < 18446744073709551616) : bits .and .u64 ((s : Int) / 2 ^ k) 1 = if s.testBit k = true then 1 else 0 := by
  have h := and_u64 (s / 2 ^ k) 1 (Nat.lt_of_le_of_lt (Nat.div_le_self _ _) hs)
  have e : ((s / 2 ^ k : Nat) : Int) = (s : Int) / 2 ^ k := by simp
  rw [e] at h
  refine (show bits .and .u64 ((s : Int) / 2 ^ k) 1 = bits .and .u64 ((s : Int) / 2 ^ k) ((1 : Nat) : Int) from rfl).trans (h.trans ?_)
  rw [Nat.and_one_is_mod, Nat.testBit_eq_decide_div_mod_eq]
  by_cases h1 : s / 2 ^ k % 2 = 1
  · simp [h1]
  · simp [h1]
    omega
set_option maxRecDepth 100000 in
set_option maxHeartbeats 1000000 in
theorem setAll_any (pb : Nat) (A : Option Addr) (n c : Nat) (w : World) (h5 : w.cell? ⟨pb, 5, none⟩ = some (.slice A n c)) (hn : n ≤ 12) :
    Calls Try.prog 60 #[.pointer (some ⟨pb, 0, none⟩)] w fun e w' => e = .returned (.int .u64 ((2 ^ n - 1 : Nat) : Int)) ∧ w = w' := by
  have h1 : 2 ^ n ≤ 2 ^ 12 := Nat.pow_le_pow_right (by omega) hn
  have h0 : 0 < 2 ^ n := Nat.pow_pos (by omega)
  have e1 : (2 : Int) ^ n = ((2 ^ n : Nat) : Int) := by simp
  have e2 : IntKind.u64.wrap (2 ^ n) = ((2 ^ n : Nat) : Int) := by rw [e1]; exact wrap64 (2 ^ n) (by omega)
  have e3 : IntKind.u64.wrap (((2 ^ n : Nat) : Int) - 1) = ((2 ^ n - 1 : Nat) : Int) := by
    rw [show ((2 ^ n : Nat) : Int) - 1 = ((2 ^ n - 1 : Nat) : Int) by omega]
    exact wrap64 _ (by omega)
  generalize 2 ^ n - 1 = r at *
  have hni : (n : Int) ≤ 64 := by omega
  generalize 2 ^ n = p at *
  go_enter Try.func60, Try.ntmps60
  go_wp2
  go_ret
  exact ⟨rfl, rfl⟩
set_option maxRecDepth 100000 in
set_option maxHeartbeats 1000000 in
theorem pick_any (pb : Nat) (A : Option Addr) (n c : Nat) (list : List Hold) (s : Nat) (ok : Nat → Prop) (w : World) (h5 : w.cell? ⟨pb, 5, none⟩ = some (.slice A n c)) (hR : Row kHold w ok A n list) (hn : n ≤ 12) (hs : s < 18446744073709551616) :
    Calls Try.prog 37 #[.pointer (some ⟨pb, 0, none⟩), .int .u64 (s : Int)] w fun e w' => ∃ v, e = .returned v ∧ Own (Kn.int .i64) 3 w' w.heap.size v (pickTo list s n) ∧ Below w.heap.size w w' := by
  have HR := As.mk hR
  clear hR
  go_enter Try.func37, Try.ntmps37
  go_wp2
  go_loopw [5, 13] (fun v i' wr => ∃ k : Nat, k ≤ n ∧ i' = .int .i64 k ∧ As (Own (Kn.int .i64) 3 wr w.heap.size v (pickTo list s k)) ∧ (Below w.heap.size w wr)) (fun _ i' _ => n - (intOf i').toNat)
  case atStart => exact ⟨0, Nat.zero_le _, rfl, ⟨Own.nil _ _ _ _⟩, Below.refl _ _⟩
  case round =>
    obtain ⟨k, hk, rfl, HO, hb⟩ := hrel
    by_cases hlt : k < n
    · obtain ⟨ad, A1, c1, A2, c2, e1, _, hla, p0, p1, p2, p3, _⟩ := rowHold (HR.o.below hb) k hlt
      subst e1
      have HS := As.mk (show pickTo list s (k + 1) = if s.testBit k = true then pickTo list s k ++ [(hgt list k).dev] else pickTo list s k from rfl)
      have HL := pickTo_len list s k
      have hki : (k : Int) ≤ 64 := by omega
      have hk0 : (0 : Int) ≤ (k : Int) := by omega
      have hbit := bit_u64 s k hs
      have hsz := hb.size
      have HB := As.mk hb
      generalize hgt list k = y at *
      by_cases ht : s.testBit k = true
      · rw [if_pos ht] at hbit HS
        clear ht
        have HO1 := As.mk (HO.o.below ((Below.refl wr.heap.size wr).alloc (Nat.le_refl _) (.cells #[.int .i64 y.dev, .slice A1 y.pieces.length c1, .slice A2 y.shares.length c2, .bool y.index] 78)))
        go_wp2_with (at_builtin; refine app_one (Kn.int .i64) w.heap.size rfl (.tmp 23) (.tmp 26) 24 (.int .i64 0) 8 rfl Try.underlying24 info_int rfl (by decide) u5 _ y.dev _ rfl (by show Value.slice _ _ _ = _; simp) HO1.o rfl (by simp; omega) (by omega) (by omega) ?_; intro v1 w1 HO2 hg hat)
        go_roundw
        case rel =>
          refine ⟨k + 1, by omega, by go_num, ⟨by rw [HS.o]; exact HO2⟩, ?_⟩
          exact (HB.o.alloc (by omega) _).trans (HO1.o.base_le hg (Nat.le_refl _) (by simp; omega))
        case measure => simp [intOf]; omega
      · rw [if_neg ht] at hbit HS
        go_wp2
        go_roundw
        case rel => exact ⟨k + 1, by omega, by go_num, ⟨by rw [HS.o]; exact HO.o.below ((Below.refl wr.heap.size wr).alloc (Nat.le_refl _) _)⟩, HB.o.alloc (by omega) _⟩
        case measure => simp [intOf]; omega
    · have e : k = n := by omega
      subst e
      go_wp2
      go_ret
      exact ⟨_, rfl, HO.o, hb⟩
end Go.Proofs.Ytlinhckgdfhppaa
