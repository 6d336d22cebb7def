/- A part of the proof: what the functions do, and plain laws. -/
import Derived.Test.YtlinhckgdfhppaaC14
namespace Go.Proofs.Ytlinhckgdfhppaa
open Go Go.RowKit Go.Proofs.YtlinhckgdfhppaaK
open Go.ChangeMaps (setBlock)
attribute [local go_sem high] eq_piece

/-- The last of the first k shares, or 0. -/
def lastOf (xs : List Int) (k : Nat) : Int := if k = 0 then 0 else ig xs (k - 1)
theorem lastOf_succ (xs : List Int) (k : Nat) : lastOf xs (k + 1) = ig xs k := by simp [lastOf]
theorem asc_snoc {xs : List Int} {k : Nat} (hk : k < xs.length) (h : okShares (xs.take k)) : okShares (xs.take (k + 1)) ↔ ¬ ig xs k ≤ lastOf xs k ∧ ¬ 255 < ig xs k := by
  rw [okShares_snoc hk, lastOf]
  by_cases h0 : k = 0
  · subst h0
    rw [if_pos rfl]
    constructor
    · rintro ⟨_, h1, h2, _⟩; omega
    · rintro ⟨h1, h2⟩; exact ⟨h, by omega, by omega, fun h => absurd h (by omega)⟩
  · rw [if_neg h0]
    have hm : ig xs (k - 1) ∈ xs.take k := by
      unfold ig
      rw [List.getD_eq_getElem?_getD, List.getElem?_eq_getElem (by omega)]
      exact List.mem_take_iff_getElem.2 ⟨k - 1, by omega, rfl⟩
    have := h.1 _ hm
    constructor
    · rintro ⟨_, h1, h2, h3⟩; have := h3 (by omega); omega
    · rintro ⟨h1, h2⟩; exact ⟨h, by omega, by omega, fun _ => by omega⟩

set_option maxRecDepth 100000 in
set_option maxHeartbeats 1000000 in
theorem ascending_any (A : Option Addr) (n c : Nat) (ok : Nat → Prop) (xs : List Int) (w : World) (h : Row (Kn.int .i64) w ok A n xs) :
    Calls Try.prog 59 #[.slice A n c] w fun e w' => e = .returned (.bool (decide (okShares xs))) ∧ Below w.heap.size w w' := by
  have hm := h.2.1
  have HL := As.mk h.1
  have HR := As.mk h
  clear h
  go_enter Try.func59, Try.ntmps59
  go_wp2
  go_loopw [3, 8] (fun l i' wr => ∃ k : Nat, k ≤ n ∧ i' = .int .i64 k ∧ l = .int .i64 (lastOf xs k) ∧ As (okShares (xs.take k)) ∧ (Below w.heap.size w wr)) (fun _ i' _ => n - (intOf i').toNat)
  case atStart => exact ⟨0, Nat.zero_le _, rfl, rfl, ⟨by simp [okShares]⟩, Below.refl _ _⟩
  case round =>
    obtain ⟨k, hk, rfl, rfl, hne, hb⟩ := hrel
    by_cases hlt : k < n
    · obtain ⟨ad, rfl, _, _, p0⟩ := (HR.o.below hb).int_at k hlt
      have HS := As.mk (asc_snoc (show k < xs.length by rw [HL.o]; exact hlt) hne.o)
      have HLS := As.mk (lastOf_succ xs k)
      generalize lastOf xs k = l at *
      generalize ig xs k = x at *
      by_cases h1 : x ≤ l
      · have hd : decide (x ≤ l) = true := decide_eq_true h1
        have HN : As (¬ okShares xs) := ⟨fun hc => (HS.o.1 (okShares_take hc _)).1 h1⟩
        clear HS
        go_wp2
        go_ret
        exact ⟨by rw [decide_eq_false HN.o]; rfl, hb⟩
      · have hd : decide (x ≤ l) = false := decide_eq_false h1
        by_cases h2 : 255 < x
        · have hd2 : decide (255 < x) = true := decide_eq_true h2
          have HN : As (¬ okShares xs) := ⟨fun hc => (HS.o.1 (okShares_take hc _)).2 h2⟩
          clear HS
          go_wp2
          go_ret
          exact ⟨by rw [decide_eq_false HN.o]; rfl, hb⟩
        · have hd2 : decide (255 < x) = false := decide_eq_false h2
          have HN : As (okShares (xs.take (k + 1))) := ⟨HS.o.2 ⟨h1, h2⟩⟩
          clear HS
          go_wp2
          go_roundw
          case rel => exact ⟨k + 1, by omega, by go_num, by rw [HLS.o], HN, hb⟩
          case measure => simp [intOf]; omega
    · have e : k = n := by omega
      subst e
      rw [List.take_of_length_le (by rw [HL.o]; exact Nat.le_refl _)] at hne
      go_wp2
      go_ret
      exact ⟨by rw [decide_eq_true hne.o]; rfl, hb⟩
end Go.Proofs.Ytlinhckgdfhppaa
