/- A part of the proof: what the functions do, and plain laws. -/
import Derived.Test.YtlinhckgdfhppaaP3
namespace Go.Proofs.Ytlinhckgdfhppaa
open Go Go.RowKit Go.Proofs.YtlinhckgdfhppaaK

section
variable {g : Goal} {list : List Hold}
theorem gainV_bd (hv : Valid g list) (s i : Nat) : -66000 ≤ gainV g list s i ∧ gainV g list s i ≤ 66000 := by
  have h1 := psum_bd hv s
  have h2 := psum_bd hv (s ||| 2 ^ i)
  unfold gainV
  omega
set_option maxRecDepth 100000 in
set_option maxHeartbeats 1000000 in
theorem next_any (pb xb sb s : Nat) (w : World) (h : PIn w pb g list) (hv : Valid g list) (hs : s < 2 ^ list.length) (hxc : w.cell? ⟨xb, 0, none⟩ = some (.pointer (some ⟨pb, 0, none⟩))) (hsc : w.cell? ⟨sb, 0, none⟩ = some (.int .u64 (s : Int))) :
    Calls Try.prog 56 #[.pointer (some ⟨xb, 0, none⟩), .pointer (some ⟨sb, 0, none⟩)] w fun e w' => e = .returned (.int .i64 (nxt g list s : Nat)) ∧ Below w.heap.size w w' := by
  have HP := As.mk h
  have hxl := World.block_lt_of_cell? w _ hxc
  have hsl := World.block_lt_of_cell? w _ hsc
  have h12 := hv.ok.hnl
  have h212 : 2 ^ list.length ≤ 2 ^ 12 := Nat.pow_le_pow_right (by omega) h12
  have LN : As (∀ W : World, Below w.heap.size w W → ∃ A c, W.cell? ⟨pb, 5, none⟩ = some (.slice A list.length c)) := ⟨fun W hW => by
    obtain ⟨mb, A1, c1, A, cl, B, c, hp⟩ := HP.o.below hW
    exact ⟨A, cl, hp.h5⟩⟩
  have GAIN : As (∀ (W : World) (i : Nat), Below w.heap.size w W → i < list.length → Calls Try.prog 54 #[.pointer (some ⟨pb, 0, none⟩), .int .u64 (s : Int), .int .i64 (i : Int)] W fun e w' => e = .returned (.int .i64 (gainV g list s i)) ∧ Below W.heap.size W w') := ⟨fun W i hW hi => gainQ (HP.o.below hW) hv s i (by omega) (by omega)⟩
  have HN := As.mk (show nxt g list s = (nextTo g list s list.length).1 from rfl)
  have HIS := As.mk (nextTo_is hv s)
  generalize nxt g list s = res at *
  clear h h212 hs
  obtain ⟨A, c, q5⟩ := LN.o w (Below.refl _ _)
  go_enter Try.func56, Try.ntmps56
  go_wp2
  go_loopw [3, 4, 12] (fun v m i' wr => ∃ k : Nat, k ≤ list.length ∧ i' = .int .i64 k ∧ v = .int .i64 ((nextTo g list s k).1 : Nat) ∧ m = .int .i64 (nextTo g list s k).2 ∧ Below w.heap.size w wr) (fun _ _ i' _ => list.length - (intOf i').toNat)
  case atStart => exact ⟨0, Nat.zero_le _, rfl, rfl, rfl, Below.refl _ _⟩
  case round =>
    obtain ⟨k, hk, rfl, rfl, rfl, hb⟩ := hrel
    by_cases hlt : k < list.length
    · have HS := As.mk (show nextTo g list s (k + 1) = if (nextTo g list s k).2 < gainV g list s k then (k, gainV g list s k) else nextTo g list s k from rfl)
      have GK := As.mk (GAIN.o wr k hb hlt)
      have x0 := (hb.cell (p := ⟨xb, 0, none⟩) hxl).trans hxc
      have s0 := (hb.cell (p := ⟨sb, 0, none⟩) hsl).trans hsc
      generalize nextTo g list s k = r at *
      obtain ⟨b, m⟩ := r
      generalize gainV g list s k = gv at *
      by_cases hc : m < gv
      · have d0 : decide (m < gv) = true := decide_eq_true hc
        have HS2 := As.mk (HS.o.trans (if_pos hc))
        clear HS
        go_wp2_with (go_at_call 54; refine GK.o.mono ?_; rintro e w1 ⟨rfl, hb1⟩)
        go_roundw
        case rel => exact ⟨k + 1, by omega, by go_num, by rw [HS2.o], by rw [HS2.o], bthen hb hb1 (Nat.le_refl _)⟩
        case measure => simp [intOf]; omega
      · have d0 : decide (m < gv) = false := decide_eq_false hc
        have HS2 := As.mk (HS.o.trans (if_neg hc))
        clear HS
        go_wp2_with (go_at_call 54; refine GK.o.mono ?_; rintro e w1 ⟨rfl, hb1⟩)
        go_roundw
        case rel => exact ⟨k + 1, by omega, by go_num, by rw [HS2.o], by rw [HS2.o], bthen hb hb1 (Nat.le_refl _)⟩
        case measure => simp [intOf]; omega
    · have e : k = list.length := by omega
      subst e
      rw [← HN.o]
      go_wp2
      go_ret
      exact ⟨rfl, hb⟩
end
end Go.Proofs.Ytlinhckgdfhppaa
