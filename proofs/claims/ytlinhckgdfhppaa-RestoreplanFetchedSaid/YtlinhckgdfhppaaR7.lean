/- The law RestoreplanFetched holds for every goal and all holdings, without a condition. -/
import Derived.Test.YtlinhckgdfhppaaRows
import Derived.Test.YtlinhckgdfhppaaO
import Derived.Test.YtlinhckgdfhppaaC60
import Derived.WalkKit
import Derived.ProofKit
import Derived.OpenShut
import Derived.ShutString
import Derived.ChangeOld
import Derived.Below
import Derived.SizedLaws
set_option linter.unusedSimpArgs false
set_option linter.unusedVariables false
namespace Go.Proofs.Ytlinhckgdfhppaa.restoreplanFetched
open Go.ChangeShapes Go.WideShapes Go.ChangeAt Go.RowKit Go.Joins Go.Deep
theorem own : ownKnob Try.prog.godebug = none := by kernel_rfl
theorem laidOut : laidOutB Try.prog = true := by kernel_rfl
set_option maxRecDepth 100000 in
theorem lifted (os : Os) (started : os.Started) (H : Type) (enc : TypeId × Value → H) :
    ReturnsInHanded {} Try.checked os 7 .any (Rows.restoreplanFetchedSpec.pre6 enc Try.prog Try.f7 Rows.restoreplanFetchedRow.domain false) (Rows.restoreplanFetchedSpec.post enc Try.prog Try.f7 false true false false) := by
  refine returnsInHanded_of_change_sized (C := Try.checked) own started (by kernel_rfl) Try.func7
    (ChangeSpec.witness6 (enc := enc) (C := Try.checked) false ⟨#[], #[.agg #[.slice none 0 0, .int .i64 0, .bool false, .slice none 0 0, .slice none 0 0], .slice none 0 0, .slice none 0 0], []⟩ 8 (by kernel_rfl) (by kernel_rfl) (by kernel_rfl) (by kernel_rfl)) ?_
  intro W base args ds gs before hval0 hW hcnd hsz0 _
  have hval : ∀ (j : Nat) t v, Try.f7.params[j]? = some t → args[j]? = some v → Value.okWide Try.prog W .any base t v := hval0
  have hW' := hW
  obtain ⟨p, q, hA0, hV, rfl, hfz, hnd⟩ := hW
  have hA : DataW.TrodAll enc Try.prog W 0 (fun _ => true) true Try.f7.params.toList args.toList ds p := hA0
  rw [Try.params7] at hA hval
  obtain ⟨v0, vs0, d0, ds0, p0, q0, hargs, rfl, rfl, h0, r0⟩ := trodAll_cons hA
  obtain ⟨v1, vs1, d1, ds1, p1, q1, rfl, rfl, rfl, h1, r1⟩ := trodAll_cons r0
  obtain ⟨v2, vs2, d2, ds2, p2, q2, rfl, rfl, rfl, h2, r2⟩ := trodAll_cons r1
  obtain ⟨rfl, rfl, rfl⟩ := trodAll_nil r2
  obtain rfl : args = #[v0, v1, v2] := by cases args; simp_all
  obtain ⟨rfl, rfl⟩ := trodVars_none hV
  have k0 := h0
  have lt0 : ∀ x ∈ p0, x.block < W.heap.size := by obtain ⟨m, hm⟩ := k0; exact DataW.trod_lt m _ _ _ hm
  have k1 := h1
  have lt1 : ∀ x ∈ p1, x.block < W.heap.size := by obtain ⟨m, hm⟩ := k1; exact DataW.trod_lt m _ _ _ hm
  have k2 := h2
  have lt2 : ∀ x ∈ p2, x.block < W.heap.size := by obtain ⟨m, hm⟩ := k2; exact DataW.trod_lt m _ _ _ hm
  obtain ⟨u0, u1, u2, u3, u4, y0, y1, y2, y3, y4, fl, rfl, _, _, t0, t1, t2, t3, t4⟩ := open_agg5 Try.underlying26 (by kernel_rfl) (by kernel_rfl) (hval 0 26 v0 rfl rfl) h0
  obtain ⟨A1, n1, c1, needs, rfl, hc1, rfl, hr1⟩ := open_pieces Try.underlying22 Try.underlying69 (by kernel_rfl) (by kernel_rfl) Try.underlying9 Try.underlying3 t0
  obtain ⟨thr, e1, _, _⟩ := DataW.trod_int Try.underlying3 t1
  obtain ⟨ix, e2, _⟩ := DataW.trod_bool Try.underlying4 t2
  obtain ⟨A2, n2, c2, pieces, rfl, hc2, rfl, hr2⟩ := open_pieces Try.underlying23 Try.underlying52 (by kernel_rfl) (by kernel_rfl) Try.underlying9 Try.underlying3 t3
  obtain ⟨A3, n3, c3, shares, rfl, hc3, rfl, hr3⟩ := open_introw Try.underlying24 Try.underlying3 (by kernel_rfl) t4
  injection e1 with e1
  injection e2 with e2
  subst e1
  subst e2
  obtain ⟨a1, len1, cap1, rfl⟩ := okWide_slice Try.underlying27 (hval 1 27 v1 rfl rfl)
  obtain ⟨A4, n4, c4, list, e4, hc4, rfl, hr4⟩ : ∃ A n c xs, Value.slice a1 len1 cap1 = .slice A n c ∧ n ≤ c ∧ xs.length = n ∧ Go.Proofs.YtlinhckgdfhppaaK.Row kHold W (fun k => k < W.heap.size) A n xs := by
    obtain ⟨fuel, hf⟩ := h1
    exact open_holds Try.underlying27 Try.underlying78 (by kernel_rfl) (by kernel_rfl) Try.underlying3 Try.underlying23 Try.underlying52 (by kernel_rfl) (by kernel_rfl) Try.underlying9 Try.underlying3 Try.underlying24 Try.underlying3 (by kernel_rfl) Try.underlying4 hf
  injection e4 with e4 e5 e6
  subst e4
  subst e5
  subst e6
  obtain ⟨b2, len2, cap2, rfl⟩ := okWide_slice Try.underlying24 (hval 2 24 v2 rfl rfl)
  obtain ⟨B2, m2, k2', xs2, g4, hd2, rfl, hs2⟩ : ∃ A n c xs, Value.slice b2 len2 cap2 = .slice A n c ∧ n ≤ c ∧ xs.length = n ∧ Go.Proofs.YtlinhckgdfhppaaK.Row (Go.Proofs.YtlinhckgdfhppaaK.Kn.int .i64) W (fun k => k < W.heap.size) A n xs := by
    obtain ⟨fuel, hf⟩ := h2
    exact open_introw Try.underlying24 Try.underlying3 (by kernel_rfl) hf
  injection g4 with g4 g5 g6
  subst g4
  subst g5
  subst g6
  clear hA0 hval0 hsz0
  refine (law7 ⟨needs, thr, ix, pieces, shares⟩ A1 c1 A2 c2 A3 c3 a1 cap1 list b2 _ cap2 xs2 W ⟨hr1, hc1, hr2, hc2, hr3, hc3⟩ hr4 hs2).mono fun e W' ⟨he, bel⟩ => ?_
  subst he
  exact ⟨_, rfl, _, _, _, [], _, [], hW', trodAll_mk1 (shut_bool Try.underlying4 _), (trodAll_cons_mk (Below.trod laidOut (by kernel_rfl) (of_decide_eq_true (by kernel_rfl)) k0 bel lt0) (trodAll_cons_mk (Below.trod laidOut (by kernel_rfl) (of_decide_eq_true (by kernel_rfl)) k1 bel lt1) (trodAll_cons_mk (Below.trod laidOut (by kernel_rfl) (of_decide_eq_true (by kernel_rfl)) k2 bel lt2) trodAll_mk0))), rfl, bel.frame _, fun h => by cases h⟩
theorem over : Rows.restoreplanFetchedRow.holds Try.pinned (OpenSpec.ofChange Rows.restoreplanFetchedSpec) :=
  OpenClaim.holds_of_wide 7 Try.f7 rfl rfl rfl rfl rfl rfl rfl ⟨rfl, rfl, rfl, rfl, rfl⟩ rfl rfl rfl rfl rfl (by kernel_rfl) Try.func7 (by kernel_rfl)
    (of_decide_eq_true (by kernel_rfl)) (by unfold Func.isWrapper; first | (rw [if_pos (by decide +kernel)]; kernel_rfl) | (rw [if_neg (by decide +kernel)]; exact ⟨rfl, rfl⟩))
    (fun os started H enc _ => lifted os started H enc)
theorem proved : Rows.RestoreplanFetchedSaid := over
#print axioms proved
end Go.Proofs.Ytlinhckgdfhppaa.restoreplanFetched
namespace Go.Proofs.Ytlinhckgdfhppaa
/-- The row, under a short name, for the claim. -/
theorem RestoreplanFetched_holds : Rows.RestoreplanFetchedSaid := restoreplanFetched.proved
end Go.Proofs.Ytlinhckgdfhppaa
