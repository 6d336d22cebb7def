/- A part of the proof: what the functions do, and plain laws. -/
import Derived.Test.YtlinhckgdfhppaaC36
namespace Go.Proofs.Ytlinhckgdfhppaa
open Go Go.RowKit Go.Proofs.YtlinhckgdfhppaaK

theorem psum_bd {g : Goal} {list : List Hold} (hv : Valid g list) (s : Nat) : 0 ≤ psum g list s ∧ psum g list s ≤ 66000 := sum_bd2 hv.ok.hd hv.ok.ht hv.ok.hn
section
variable {w : World} {pb : Nat} {g : Goal} {list : List Hold}
set_option maxRecDepth 100000 in
set_option maxHeartbeats 1000000 in
theorem gainQ (h : PIn w pb g list) (hv : Valid g list) (s i : Nat) (hs : s < 4096) (hi : i < 12) :
    Calls Try.prog 54 #[.pointer (some ⟨pb, 0, none⟩), .int .u64 (s : Int), .int .i64 (i : Int)] w fun e w' => e = .returned (.int .i64 (psum g list s - psum g list (s ||| 2 ^ i))) ∧ Below w.heap.size w w' := by
  have h12 : 2 ^ i ≤ 2 ^ 12 := Nat.pow_le_pow_right (by omega) (by omega)
  have h1 : s ||| 2 ^ i < 2 ^ 13 := Nat.or_lt_two_pow (by omega) (by omega)
  have e1 : (2 : Int) ^ i = ((2 ^ i : Nat) : Int) := by simp
  have e2 : IntKind.u64.wrap (2 ^ i) = ((2 ^ i : Nat) : Int) := by rw [e1]; exact wrap64 (2 ^ i) (by omega)
  have e4 := wrap64 (2 ^ i) (by omega)
  have e3 := or_nat64 s (2 ^ i) (by omega) (by omega)
  have b1 := psum_bd hv s
  have b2 := psum_bd hv (s ||| 2 ^ i)
  have e5 : IntKind.i64.wrap (psum g list s - psum g list (s ||| 2 ^ i)) = psum g list s - psum g list (s ||| 2 ^ i) := IntWalk.i64_in _ (by omega)
  obtain ⟨mb, A1, c1, A, cl, B0, c0, hp⟩ := h
  have HP := As.mk hp
  have HV := As.mk hv.ok
  have WI : ∀ s' : Nat, s' < 18446744073709551616 → As (∀ W : World, Below w.heap.size w W → Calls Try.prog 43 #[.pointer (some ⟨pb, 0, none⟩), .int .u64 (s' : Int)] W fun e w' => ∃ B c, e = .returned (.agg (stockCells B g.needs.length c (withW (sortH list) s' (fw0 g) list.length) (withI (sortH list) s' (!g.index) list.length))) ∧
      Row kMask w' (fun _ => True) B g.needs.length (withM (nfOf g) (sortH list) s' (ms0 g) list.length) ∧ Below w.heap.size w w' ∧ Below W.heap.size W w') := fun s' hs' => ⟨fun W hW => (withP (HP.o.below hW) HV.o s' hs').mono fun e w' ⟨B, c, he, hr, hb⟩ => ⟨B, c, he, hr, bthen hW hb (Nat.le_refl _), hb⟩⟩
  have SU : ∀ s' : Nat, As (∀ (W : World) (B : Option Addr) (c : Nat), Below w.heap.size w W → Row kMask W (fun _ => True) B g.needs.length (withM (nfOf g) (sortH list) s' (ms0 g) list.length) →
      Calls Try.prog 68 #[.pointer (some ⟨pb, 0, none⟩), .agg (stockCells B g.needs.length c (withW (sortH list) s' (fw0 g) list.length) (withI (sortH list) s' (!g.index) list.length))] W fun e w' => e = .returned (.int .i64 (psum g list s')) ∧ Below w.heap.size w w' ∧ Below W.heap.size W w') :=
    fun s' => ⟨fun W B c hW hM => (sumP (HP.o.below hW) HV.o B c _ _ _ hM).mono fun e w' ⟨he, hb⟩ => ⟨he, bthen hW hb (Nat.le_refl _), hb⟩⟩
  have WI1 := WI s (by omega)
  have WI2 := WI (s ||| 2 ^ i) (by omega)
  have SU1 := SU s
  have SU2 := SU (s ||| 2 ^ i)
  have hi64 : (i : Int) ≤ 64 := by omega
  have hi0 : (0 : Int) ≤ (i : Int) := by omega
  clear WI SU hp b1 b2 h1 hs
  generalize s ||| 2 ^ i = s2 at *
  generalize 2 ^ i = p at *
  generalize psum g list s = r1 at *
  generalize psum g list s2 = r2 at *
  generalize withM (nfOf g) (sortH list) s (ms0 g) list.length = m1 at *
  generalize withM (nfOf g) (sortH list) s2 (ms0 g) list.length = m2 at *
  generalize withW (sortH list) s (fw0 g) list.length = f1 at *
  generalize withW (sortH list) s2 (fw0 g) list.length = f2 at *
  generalize withI (sortH list) s (!g.index) list.length = x1 at *
  generalize withI (sortH list) s2 (!g.index) list.length = x2 at *
  clear HP HV h12
  have hw0 : Below w.heap.size w w.drew := (Below.refl _ _).drew
  go_enter Try.func54, Try.ntmps54
  go_wp2
  go_region_with (first
    | (go_at_call_of 43 s; refine (WI1.o _ ?hb).mono ?_; (case hb => first | exact hw0 | exact hw2 | exact hw4); rintro e w1 ⟨B1, k1, rfl, hm1, hw1, hb1⟩)
    | (go_at_call_of 43 s2; refine (WI2.o _ ?hb).mono ?_; (case hb => first | exact hw0 | exact hw1 | exact hw3); rintro e w2 ⟨B2, k2, rfl, hm2, hw2, hb2⟩)
    | (go_at_call_of 68 f1; refine (SU1.o _ _ _ ?hb ?hm).mono ?_; (case hb => first | exact hw1 | exact hw2 | exact hw4); (case hm => first | exact hm1 | exact hm1.below hb2 | exact (hm1.below hb2).below hb4 | exact hm1.below hb4); rintro e w3 ⟨rfl, hw3, hb3⟩)
    | (go_at_call_of 68 f2; refine (SU2.o _ _ _ ?hb ?hm).mono ?_; (case hb => first | exact hw2 | exact hw1 | exact hw3); (case hm => first | exact hm2 | exact hm2.below hb1 | exact (hm2.below hb1).below hb3 | exact hm2.below hb3); rintro e w4 ⟨rfl, hw4, hb4⟩))
  all_goals
    go_wp2
    go_ret
    first | exact ⟨rfl, hw4⟩ | exact ⟨rfl, hw3⟩
end
end Go.Proofs.Ytlinhckgdfhppaa
