/- A part of the proof: what the functions do, and plain laws. -/
import Derived.Test.YtlinhckgdfhppaaC24
namespace Go.Proofs.Ytlinhckgdfhppaa
open Go Go.RowKit Go.Proofs.YtlinhckgdfhppaaK

theorem info_u16 : (Try.prog.info? 110).map (fun i => (i.zero, i.size, i.bytes)) = some (some (.int .u16 0), 1, 2) := by kernel_rfl
theorem info_holding : (Try.prog.info? 78).map (fun i => (i.zero, i.size, i.bytes)) = some (some (.agg #[(.int .i64 0), (.slice none 0 0), (.slice none 0 0), (.bool false)]), 4, 64) := by kernel_rfl
set_option maxHeartbeats 400000 in
theorem clone16_any (A : Option Addr) (n c : Nat) (ok : Nat → Prop) (ms : List (BitVec 16)) (w : World) (h : Row kMask w ok A n ms) (hn : n ≤ 64) :
    Calls Try.prog 74 #[.slice A n c] w fun e w' => ∃ v, e = .returned v ∧ Own kMask 110 w' w.heap.size v ms ∧ Below w.heap.size w w' := by
  have hm := h.2.1
  have HL := As.mk h.1
  have HR := As.mk h.bound
  have q : ∀ (W : World) (a : Option Addr) (n c n' c' : Nat), (binOp .eql 89 (.slice a n c) (.slice none n' c')).run Try.prog W = .ok (.bool a.isNone) W := fun W a n c n' c' => Lib.run_eql_slice_nil W _ _ a n c n' c' Try.underlying89
  cases A with
  | none =>
    have hms : ms = [] := List.eq_nil_of_length_eq_zero (by
      rw [HL.o]
      rcases Nat.eq_zero_or_pos n with h0 | h0
      · exact h0
      · obtain ⟨_, e, _⟩ := h.2.2 h0
        cases e)
    subst hms
    clear h
    go_enter Try.func74, Try.ntmps74
    go_wp2
    go_ret
    exact ⟨_, rfl, Own.nil _ _ _ _, Below.refl _ _⟩
  | some ad =>
    clear h
    have E0 : As (Own kMask 110 (w.alloc (.cells #[] 110)) w.heap.size (.slice (some ⟨w.heap.size, 0, none⟩) 0 0) []) := ⟨Own.empty _ _ _ _ (Nat.le_refl _)⟩
    have hb0 : Below w.heap.size w (w.alloc (.cells #[] 110)) := (Below.refl _ _).alloc (Nat.le_refl _) _
    have R0 : As (Row kMask (w.alloc (.cells #[] 110)) (fun k => True ∧ Value.ownBlock (.slice (some ⟨w.heap.size, 0, none⟩) 0 0) ≠ some k) (some ad) n ms) := ⟨(HR.o.below hb0).mono fun j hj => ⟨trivial, fun e => by simp [Value.ownBlock] at e; omega⟩⟩
    have HB0 := As.mk hb0
    clear hb0
    go_enter Try.func74, Try.ntmps74
    go_wp2_with (at_builtin; refine app_row kMask w.heap.size rfl (.tmp 5) (.tmp 6) 89 (.int .u16 0) 2 rfl Try.underlying89 info_u16 rfl (by decide) (.slice (some ⟨w.heap.size, 0, none⟩) 0 0) [] ms (some ad) n c rfl rfl E0.o R0.o (by simp) (by simp; omega) (by simp; omega) ?_; intro v1 w1 HO1 hg1 hat1)
    go_ret
    exact ⟨_, rfl, by simpa using HO1, HB0.o.trans (E0.o.base_le hg1 (Nat.le_refl _) (by simp))⟩
set_option maxHeartbeats 400000 in
theorem cloneHold_any (A : Option Addr) (n c : Nat) (ok : Nat → Prop) (ms : List Hold) (w : World) (h : Row kHold w ok A n ms) (hn : n ≤ 64) :
    Calls Try.prog 70 #[.slice A n c] w fun e w' => ∃ v, e = .returned v ∧ OwnK ok kHold 78 w' w.heap.size v ms ∧ Below w.heap.size w w' := by
  have hm := h.2.1
  have HL := As.mk h.1
  have HR := As.mk h.bound
  have q : ∀ (W : World) (a : Option Addr) (n c n' c' : Nat), (binOp .eql 27 (.slice a n c) (.slice none n' c')).run Try.prog W = .ok (.bool a.isNone) W := fun W a n c n' c' => Lib.run_eql_slice_nil W _ _ a n c n' c' Try.underlying27
  cases A with
  | none =>
    have hms : ms = [] := List.eq_nil_of_length_eq_zero (by
      rw [HL.o]
      rcases Nat.eq_zero_or_pos n with h0 | h0
      · exact h0
      · obtain ⟨_, e, _⟩ := h.2.2 h0
        cases e)
    subst hms
    clear h
    go_enter Try.func70, Try.ntmps70
    go_wp2
    go_ret
    exact ⟨_, rfl, OwnK.nil _ _ _ _ _, Below.refl _ _⟩
  | some ad =>
    clear h
    have E0 : As (OwnK ok kHold 78 (w.alloc (.cells #[] 78)) w.heap.size (.slice (some ⟨w.heap.size, 0, none⟩) 0 0) []) := ⟨OwnK.empty _ _ _ _ _ (Nat.le_refl _)⟩
    have hb0 : Below w.heap.size w (w.alloc (.cells #[] 78)) := (Below.refl _ _).alloc (Nat.le_refl _) _
    have R0 : As (Row kHold (w.alloc (.cells #[] 78)) (fun k => ok k ∧ Value.ownBlock (.slice (some ⟨w.heap.size, 0, none⟩) 0 0) ≠ some k) (some ad) n ms) := ⟨(HR.o.below hb0).mono fun j hj => ⟨hj.1, fun e => by simp [Value.ownBlock] at e; have := hj.2; omega⟩⟩
    have HB0 := As.mk hb0
    clear hb0
    go_enter Try.func70, Try.ntmps70
    go_wp2_with (at_builtin; refine app_row kHold w.heap.size rfl (.tmp 5) (.tmp 6) 27 (.agg #[(.int .i64 0), (.slice none 0 0), (.slice none 0 0), (.bool false)]) 64 rfl Try.underlying27 info_holding rfl (by decide) (.slice (some ⟨w.heap.size, 0, none⟩) 0 0) [] ms (some ad) n c rfl rfl E0.o R0.o (by simp) (by simp; omega) (by simp; omega) ?_; intro v1 w1 HO1 hg1 hat1)
    go_ret
    exact ⟨_, rfl, by simpa using HO1, HB0.o.trans (E0.o.base_le hg1 (Nat.le_refl _) (by simp))⟩
end Go.Proofs.Ytlinhckgdfhppaa
