/- A part of the proof: what the functions do, and plain laws. -/
import Derived.Test.YtlinhckgdfhppaaM6
import Derived.WalkMore
set_option linter.unusedSimpArgs false
set_option linter.unusedVariables false
namespace Go.Proofs.Ytlinhckgdfhppaa
open Go Go.RowKit Go.Proofs.YtlinhckgdfhppaaK

section
variable {g : Goal} {list : List Hold}
theorem gainV_bd (hv : Valid g list) (s i : Nat) : -66000 ≤ gainV g list s i ∧ gainV g list s i ≤ 66000 := by
  have h1 := psum_bd hv s
  have h2 := psum_bd hv (s ||| 2 ^ i)
  unfold gainV
  omega
set_option maxRecDepth 100000 in
set_option maxHeartbeats 1000000 in
theorem next_any (pb xb sb s : Nat) (w : World) (h : PIn w pb g list) (hv : Valid g list) (hs : s < 2 ^ list.length) (hxc : w.cell? ⟨xb, 0, none⟩ = some (.pointer (some ⟨pb, 0, none⟩))) (hsc : w.cell? ⟨sb, 0, none⟩ = some (.int .u64 (s : Int))) :
    Calls Try.prog 56 #[.pointer (some ⟨xb, 0, none⟩), .pointer (some ⟨sb, 0, none⟩)] w fun e w' => e = .returned (.int .i64 (nxt g list s : Nat)) ∧ Below w.heap.size w w' := by
  have HP := As.mk h
  have hxl := World.block_lt_of_cell? w _ hxc
  have hsl := World.block_lt_of_cell? w _ hsc
  have h12 := hv.ok.hnl
  have h212 : 2 ^ list.length ≤ 2 ^ 12 := Nat.pow_le_pow_right (by omega) h12
  have LN : As (∀ W : World, Below w.heap.size w W → ∃ A c, W.cell? ⟨pb, 5, none⟩ = some (.slice A list.length c)) := ⟨fun W hW => by
    obtain ⟨mb, A1, c1, A, cl, B, c, hp⟩ := HP.o.below hW
    exact ⟨A, cl, hp.h5⟩⟩
  have GAIN : As (∀ (W : World) (i : Nat), Below w.heap.size w W → i < list.length → Calls Try.prog 54 #[.pointer (some ⟨pb, 0, none⟩), .int .u64 (s : Int), .int .i64 (i : Int)] W fun e w' => e = .returned (.int .i64 (gainV g list s i)) ∧ Below W.heap.size W w') := ⟨fun W i hW hi => gainQ (HP.o.below hW) hv s i (by omega) (by omega)⟩
  have HN := As.mk (show nxt g list s = (nextTo g list s list.length).1 from rfl)
  have HIS := As.mk (nextTo_is hv s)
  generalize nxt g list s = res at *
  clear h h212 hs
  obtain ⟨A, c, q5⟩ := LN.o w (Below.refl _ _)
  go_enter Try.func56, Try.ntmps56
  go_wp2
  go_loopw [3, 4, 12] (fun v m i' wr => ∃ k : Nat, k ≤ list.length ∧ i' = .int .i64 k ∧ v = .int .i64 ((nextTo g list s k).1 : Nat) ∧ m = .int .i64 (nextTo g list s k).2 ∧ Below w.heap.size w wr) (fun _ _ i' _ => list.length - (intOf i').toNat)
  case atStart => exact ⟨0, Nat.zero_le _, rfl, rfl, rfl, Below.refl _ _⟩
  case round =>
    obtain ⟨k, hk, rfl, rfl, rfl, hb⟩ := hrel
    by_cases hlt : k < list.length
    · have HS := As.mk (show nextTo g list s (k + 1) = if (nextTo g list s k).2 < gainV g list s k then (k, gainV g list s k) else nextTo g list s k from rfl)
      have GK := As.mk (GAIN.o wr k hb hlt)
      have x0 := (hb.cell (p := ⟨xb, 0, none⟩) hxl).trans hxc
      have s0 := (hb.cell (p := ⟨sb, 0, none⟩) hsl).trans hsc
      generalize nextTo g list s k = r at *
      obtain ⟨b, m⟩ := r
      generalize gainV g list s k = gv at *
      by_cases hc : m < gv
      · have d0 : decide (m < gv) = true := decide_eq_true hc
        have HS2 := As.mk (HS.o.trans (if_pos hc))
        clear HS
        go_wp2_with (go_at_call 54; refine GK.o.mono ?_; rintro e w1 ⟨rfl, hb1⟩)
        go_roundw
        case rel => exact ⟨k + 1, by omega, by go_num, by rw [HS2.o], by rw [HS2.o], bthen hb hb1 (Nat.le_refl _)⟩
        case measure => simp [intOf]; omega
      · have d0 : decide (m < gv) = false := decide_eq_false hc
        have HS2 := As.mk (HS.o.trans (if_neg hc))
        clear HS
        go_wp2_with (go_at_call 54; refine GK.o.mono ?_; rintro e w1 ⟨rfl, hb1⟩)
        go_roundw
        case rel => exact ⟨k + 1, by omega, by go_num, by rw [HS2.o], by rw [HS2.o], bthen hb hb1 (Nat.le_refl _)⟩
        case measure => simp [intOf]; omega
    · have e : k = list.length := by omega
      subst e
      rw [← HN.o]
      go_wp2
      go_ret
      exact ⟨rfl, hb⟩
end
end Go.Proofs.Ytlinhckgdfhppaa
namespace Go.Proofs.Ytlinhckgdfhppaa
open Go Go.RowKit Go.Proofs.YtlinhckgdfhppaaK

def lenV : Value → Nat
  | .slice _ n _ => n
  | _ => 0
/-- What Greedy answers. -/
def IsGreedy (g : Goal) (list : List Hold) (out : List Int) : Prop := (possOf g list = 0 → ∃ m, psum g list (grTo g list m).1 = 0 ∧ out = (grTo g list m).2) ∧ (possOf g list ≠ 0 → out = [])
section
variable (g : Goal) (A1 : Option Addr) (c1 : Nat) (A2 : Option Addr) (c2 : Nat) (A3 : Option Addr) (c3 : Nat) (A4 : Option Addr) (c4 : Nat) (list : List Hold) (w : World)
set_option maxRecDepth 100000 in
set_option maxHeartbeats 2000000 in
theorem greedy_any (hg : GoalIn w (fun k => k < w.heap.size) g A1 c1 A2 c2 A3 c3) (hl : Row kHold w (fun k => k < w.heap.size) A4 list.length list) :
    Calls Try.prog 26 #[.agg (goalCells g A1 c1 A2 c2 A3 c3), .slice A4 list.length c4] w fun e w' => ∃ A c out, e = .returned (.tuple #[.slice A out.length c, .int .i64 (possOf g list)]) ∧ IsGreedy g list out ∧ out.length ≤ c ∧ Row (Kn.int .i64) w' (fun k => w.heap.size ≤ k ∧ k < w'.heap.size) A out.length out ∧ Below w.heap.size w w' := by
  have hB0 : Below w.heap.size w (w.alloc (.cells (goalCells g A1 c1 A2 c2 A3 c3) 26)) := (Below.refl _ _).alloc (Nat.le_refl _) _
  by_cases h0 : possOf g list = 0
  · have POS := As.mk (possYes g A1 c1 A2 c2 A3 c3 A4 c4 list w hg hl h0 _ hB0)
    have HB0 := As.mk hB0
    have hv := (possOf_zero h0).1
    have hf := (possOf_zero h0).2
    have HV := As.mk hv
    have HZ := As.mk hf
    have h12 := hv.ok.hnl
    have h212 : 2 ^ list.length ≤ 2 ^ 12 := Nat.pow_le_pow_right (by omega) h12
    have HIG : As (∀ out : List Int, (∃ m, psum g list (grTo g list m).1 = 0 ∧ out = (grTo g list m).2) → IsGreedy g list out) := ⟨fun out h => ⟨fun _ => h, fun h1 => absurd h0 h1⟩⟩
    rw [h0]
    have SUF : As (∀ (W : World) (pb s : Nat) (b : Bool), PIn W pb g list → s < 18446744073709551616 → (psum g list s == 0) = b → Calls Try.prog 39 #[.pointer (some ⟨pb, 0, none⟩), .int .u64 (s : Int)] W fun e w' => e = .returned (.bool b) ∧ Below W.heap.size W w') := ⟨fun W pb s b h hs hb => sufficesQ h HV.o s hs b hb⟩
    have NEXT : As (∀ (W : World) (pb xb sb s : Nat), PIn W pb g list → s < 2 ^ list.length → W.cell? ⟨xb, 0, none⟩ = some (.pointer (some ⟨pb, 0, none⟩)) → W.cell? ⟨sb, 0, none⟩ = some (.int .u64 (s : Int)) → Calls Try.prog 56 #[.pointer (some ⟨xb, 0, none⟩), .pointer (some ⟨sb, 0, none⟩)] W fun e w' => e = .returned (.int .i64 (nxt g list s : Nat)) ∧ Below W.heap.size W w') := ⟨fun W pb xb sb s h hs hxc hsc => next_any pb xb sb s W h HV.o hs hxc hsc⟩
    clear hg hl hB0 hv h0 hf
    go_enter Try.func26, Try.ntmps26
    go_wp2_with (go_at_call 36; refine POS.o.mono ?_; rintro e w1 ⟨pb, rfl, hp1, hb1⟩)
    have hpl := hp1.lt
    have s1 := hb1.size
    simp at s1
    have HB1 : As (Below w.heap.size w w1) := ⟨bthen HB0.o hb1 (by simp)⟩
    obtain ⟨mb, B1, d1, Ah, ch, B2, d2, hprob⟩ := hp1
    have HP := As.mk (show PIn w1 pb g list from ⟨mb, B1, d1, Ah, ch, B2, d2, hprob⟩)
    have HH5 := As.mk hprob.h5
    have HHR := As.mk hprob.hR
    clear hprob hb1 POS
    obtain ⟨W2, hW2⟩ : ∃ W2 : World, W2 = (w1.alloc (.cells #[.pointer (some ⟨pb, 0, none⟩)] 81)).alloc (.cells #[.int .u64 0] 85) := ⟨_, rfl⟩
    rw [← hW2]
    have e1 : (w1.alloc (.cells #[.pointer (some ⟨pb, 0, none⟩)] 81)).heap.size = w1.heap.size + 1 := by simp
    have HX2 : As (W2.heap[w1.heap.size]? = some (.cells #[.pointer (some ⟨pb, 0, none⟩)] 81 (0, 0))) := ⟨by rw [hW2]; exact (Below.heap_alloc _ _ _ (by omega)).trans (heap_alloc_new w1 _)⟩
    have HS2 : As (W2.heap[w1.heap.size + 1]? = some (.cells #[.int .u64 0] 85 (0, 0))) := ⟨by rw [hW2, ← e1]; exact heap_alloc_new _ _⟩
    have HBW : As (Below w1.heap.size w1 W2) := ⟨by rw [hW2]; exact ((Below.refl _ _).alloc (Nat.le_refl _) _).alloc (by omega) _⟩
    have hs2 : W2.heap.size = w1.heap.size + 2 := by rw [hW2]; simp
    clear hW2 e1
    go_loopw [8] (fun v wr => ∃ m : Nat, As (Own (Kn.int .i64) 3 wr (w1.heap.size + 2) v (grTo g list m).2) ∧ As (wr.heap[w1.heap.size]? = some (.cells #[.pointer (some ⟨pb, 0, none⟩)] 81 (0, 0))) ∧ As (wr.heap[w1.heap.size + 1]? = some (.cells #[.int .u64 ((grTo g list m).1 : Int)] 85 (0, 0))) ∧
      As (Below w1.heap.size w1 wr) ∧ As ((grTo g list m).2.length = m) ∧ w1.heap.size + 2 ≤ wr.heap.size) (fun v _ => 66001 - lenV v)
    case atStart => exact ⟨0, ⟨Own.nil _ _ _ _⟩, HX2, HS2, HBW, ⟨rfl⟩, by omega⟩
    case round =>
      obtain ⟨m, HO, HX, HS, HB, HLN, hsz⟩ := hrel
      obtain ⟨hs, _⟩ := grTo_lt HV.o HZ.o m
      have HM := As.mk (grTo_sum HV.o HZ.o m)
      have HN := As.mk (nxt_less HV.o HZ.o (grTo g list m).1)
      have HG := As.mk (show grTo g list (m + 1) = if psum g list (grTo g list m).1 = 0 then grTo g list m else ((grTo g list m).1 ||| 2 ^ nxt g list (grTo g list m).1, (grTo g list m).2 ++ [(hgt (sortH list) (nxt g list (grTo g list m).1)).dev]) from rfl)
      have HOUT := As.mk fun (h : psum g list (grTo g list m).1 = 0) => HIG.o (grTo g list m).2 ⟨m, h, rfl⟩
      have hnn := (psum_bd HV.o (grTo g list m).1).1
      generalize grTo g list m = r at *
      obtain ⟨s, acc⟩ := r
      simp only at HO HX HS HLN HM HN HG HOUT hs hnn
      obtain ⟨Ao, co, rfl, hco, hro⟩ := own_row (flat_int .i64) HO.o
      have HRO := As.mk hro
      obtain ⟨b, hb⟩ : ∃ b, (psum g list s == 0) = b := ⟨_, rfl⟩
      have HBQ := As.mk hb
      have xl := blk_lt HX.o
      have sl := blk_lt HS.o
      have x0 : wr.cell? ⟨w1.heap.size, 0, none⟩ = some (.pointer (some ⟨pb, 0, none⟩)) := (cell_of_row _ _ 0 _ _ _ HX.o).trans rfl
      have s0 : wr.cell? ⟨w1.heap.size + 1, 0, none⟩ = some (.int .u64 (s : Int)) := (cell_of_row _ _ 0 _ _ _ HS.o).trans rfl
      have SUF1 := As.mk (SUF.o wr pb s b (HP.o.below HB.o) (by omega) hb)
      clear hb hro
      cases b
      · have hne : psum g list s ≠ 0 := by
          intro e
          have := HBQ.o
          rw [e] at this
          cases this
        obtain ⟨hn1, hn2⟩ := HN.o hne
        have hm66 : m ≤ 66000 := by have := HM.o hne; omega
        rw [if_neg hne] at HG
        have NX : As (∀ W : World, Below wr.heap.size wr W → Calls Try.prog 56 #[.pointer (some ⟨w1.heap.size, 0, none⟩), .pointer (some ⟨w1.heap.size + 1, 0, none⟩)] W fun e w' => e = .returned (.int .i64 (nxt g list s : Nat)) ∧ Below W.heap.size W w' ∧ Below wr.heap.size wr w' ∧ w'.cell? ⟨w1.heap.size, 0, none⟩ = some (.pointer (some ⟨pb, 0, none⟩)) ∧ w'.cell? ⟨w1.heap.size + 1, 0, none⟩ = some (.int .u64 (s : Int)) ∧ w'.frozen? ⟨w1.heap.size + 1, 0, none⟩ = false) := ⟨fun W hW => (NEXT.o W pb w1.heap.size (w1.heap.size + 1) s (HP.o.below (bthen HB.o hW (Nat.le_refl _))) hs ((hW.cell (p := ⟨w1.heap.size, 0, none⟩) xl).trans x0) ((hW.cell (p := ⟨w1.heap.size + 1, 0, none⟩) sl).trans s0)).mono fun e w' ⟨he, hb⟩ => by
          have hww := bthen hW hb (Nat.le_refl _)
          exact ⟨he, hb, hww, (hww.cell (p := ⟨w1.heap.size, 0, none⟩) xl).trans x0, (hww.cell (p := ⟨w1.heap.size + 1, 0, none⟩) sl).trans s0, blk_frozen ((hww.block _ sl).trans HS.o)⟩⟩
        obtain ⟨ad, P1, cP1, S1, cS1, eA, had, hadl, pd, _⟩ := rowHold HHR.o (nxt g list s) hn1
        subst eA
        have h2n : 2 ^ nxt g list s ≤ 2 ^ 12 := Nat.pow_le_pow_right (by omega) (by omega)
        have e1 : (2 : Int) ^ nxt g list s = ((2 ^ nxt g list s : Nat) : Int) := by simp
        have e4 := wrap64 (2 ^ nxt g list s) (by omega)
        have e3 := or_nat64 s (2 ^ nxt g list s) (by omega) (by omega)
        have hi64 : ((nxt g list s : Nat) : Int) ≤ 64 := by omega
        have hi0 : (0 : Int) ≤ ((nxt g list s : Nat) : Int) := by omega
        have hi1 : ((nxt g list s : Nat) : Int) < (list.length : Int) := by omega
        clear hs hnn hn2 h2n HN HM HOUT
        generalize nxt g list s = i at *
        generalize s ||| 2 ^ i = s2 at *
        generalize 2 ^ i = p at *
        generalize hgt (sortH list) i = y at *
        go_wp2_with (first
          | (go_at_call 39; refine SUF1.o.mono ?_; rintro e w2 ⟨rfl, hb2⟩)
          | (go_at_call 56; refine (NX.o _ hb2).mono ?_; rintro e w3 ⟨rfl, hb3, hbb3, x3, s3, f3⟩))
        refine wp_region_drew_tail 4 (by kernel_rfl) (by kernel_rfl) ?_
        simp only [List.take_succ_cons, List.take_zero, List.drop_succ_cons, List.drop_zero]
        repeat (go_big_quiet_step (fail))
        refine wpQuiet_nil ?_
        rintro _ ⟨q, rfl⟩
        go_upto_region 10 with (fail)
        obtain ⟨W4, hW4⟩ : ∃ W4 : World, W4 = (w3.drewN q).setCell ⟨w1.heap.size + 1, 0, none⟩ (.int .u64 (s2 : Int)) := ⟨_, rfl⟩
        rw [← hW4]
        have hs3 := hbb3.size
        have hg4 : (w3.drewN q).grownBy W4 (some (w1.heap.size + 1)) := by rw [hW4]; exact grownBy_set (w3.drewN q) ⟨w1.heap.size + 1, 0, none⟩ _
        have hs4 : wr.heap.size ≤ W4.heap.size := Nat.le_trans hs3 hg4.size
        have b4 : ∀ k, k < wr.heap.size → k ≠ w1.heap.size + 1 → W4.heap[k]? = wr.heap[k]? := fun k hk hne => (hg4.block k (show k < w3.heap.size by omega) (fun e => hne (by injection e))).trans (hbb3.block k hk)
        have HO3 : OwnK (fun _ => True) (Kn.int .i64) 3 (w3.drewN q) (w1.heap.size + 2) (.slice Ao acc.length co) acc := (HO.o.below hbb3).below (below_drewN (Below.refl _ _) q)
        have HO4 := As.mk (HO3.flat (flat_int .i64) hg4 (.inr fun e => by have := (HO.o.lt _ e).1; omega))
        have HX4 := As.mk ((b4 _ xl (by omega)).trans HX.o)
        have HS4 : As (W4.heap[w1.heap.size + 1]? = some (.cells #[.int .u64 (s2 : Int)] 85 (0, 0))) := ⟨by rw [hW4]; exact blk_set ((hbb3.block _ sl).trans HS.o) _⟩
        have HB4 : As (Below w1.heap.size w1 W4) := ⟨⟨hg4.os.trans (hbb3.os.trans HB.o.os), hg4.tape.trans (hbb3.tape.trans HB.o.tape), hg4.output.trans (hbb3.output.trans HB.o.output), by have := HB.o.size; omega, fun k hk => (b4 k (by omega) (by omega)).trans (HB.o.block k hk)⟩⟩
        have x4 : W4.cell? ⟨w1.heap.size, 0, none⟩ = some (.pointer (some ⟨pb, 0, none⟩)) := (cell_of_row _ _ 0 _ _ _ HX4.o).trans rfl
        have q5 : W4.cell? ⟨pb, 5, none⟩ = some (.slice (some ad) list.length ch) := (HB4.o.cell (p := ⟨pb, 5, none⟩) hpl).trans HH5.o
        have pd4 : W4.cell? (ad.add (i * 4)) = some (.int .i64 y.dev) := (HB4.o.cell (p := ad.add (i * 4)) (by rw [block_add]; exact hadl)).trans pd
        have hal : acc.length ≤ 66000 := by have := HLN.o; omega
        clear hW4 hg4 HO3 hbb3 hb3 x3 s3 f3 hb2 HO hs3 HX HS HB
        go_wp2_with (at_builtin; refine app_one (Kn.int .i64) (w1.heap.size + 2) rfl (.tmp 32) (.tmp 41) 24 (.int .i64 0) 8 rfl Try.underlying24 info_int rfl (by decide) (.slice Ao acc.length co) acc y.dev [.int .i64 y.dev] rfl (by show Value.slice _ _ _ = _; simp) HO4.o rfl (by omega) (by omega) (by omega) ?_; intro v1 w7 HO7 hg7 hat7)
        go_roundw
        case rel =>
          have hb7 := HO4.o.base_le hg7 (Nat.le_refl _) (by omega)
          refine ⟨m + 1, ⟨by rw [HG.o]; exact HO7⟩, ⟨(hb7.block _ (by omega)).trans HX4.o⟩, ⟨by rw [HG.o]; exact (hb7.block _ (by omega)).trans HS4.o⟩, ⟨HB4.o.trans (hb7.mono (by omega))⟩, ⟨by rw [HG.o, List.length_append, List.length_singleton, HLN.o]⟩, by have := hb7.size; omega⟩
        case measure =>
          obtain ⟨A7, c7, rfl, _, _⟩ := HO7.shape
          simp only [lenV, List.length_append, List.length_singleton]
          omega
      · have he : psum g list s = 0 := of_decide_eq_true HBQ.o
        have HIS := As.mk (HOUT.o he)
        clear he HG HN HM HOUT hnn
        go_wp2_with (go_at_call 39; refine SUF1.o.mono ?_; rintro e w2 ⟨rfl, hb2⟩)
        go_ret2
        have hsz1 := HB1.o.size
        have hsz2 := hb2.size
        refine ⟨_, _, acc, rfl, HIS.o, hco, (HRO.o.below hb2).bound.mono fun k hk => ⟨?_, hk.2⟩, bthen (HB1.o.trans (HB.o.mono (by omega))) hb2 (by omega)⟩
        have := hk.1.1
        omega
  · have POS := As.mk (possNo g A1 c1 A2 c2 A3 c3 A4 c4 list w hg hl h0 _ hB0)
    have HB0 := As.mk hB0
    have HIG : As (IsGreedy g list []) := ⟨fun h => absurd h h0, fun _ => rfl⟩
    have d0 : (possOf g list == 0) = false := by simp [h0]
    clear hg hl hB0
    generalize possOf g list = r at *
    go_enter Try.func26, Try.ntmps26
    go_wp2_with (go_at_call 36; refine POS.o.mono ?_; rintro e w1 ⟨rfl, hb1⟩)
    go_ret2
    exact ⟨_, _, [], rfl, HIG.o, Nat.le_refl _, Row.nil _ _ _ _, (bthen HB0.o hb1 (by simp)).alloc (by have := hb1.size; simp at this; omega) _⟩
end
end Go.Proofs.Ytlinhckgdfhppaa
namespace Go.Proofs.Ytlinhckgdfhppaa
open Go Go.RowKit Go.Proofs.YtlinhckgdfhppaaK

set_option maxRecDepth 100000 in
set_option maxHeartbeats 400000 in
theorem closeF (y : Hold) (P : Option Addr) (cP : Nat) (S : Option Addr) (cS : Nat) (db : Nat) (d : Int) (W : World) (hd : W.cell? ⟨db, 0, none⟩ = some (.int .i64 d)) :
    Calls Try.prog 45 #[.agg #[.int .i64 y.dev, .slice P y.pieces.length cP, .slice S y.shares.length cS, .bool y.index], .pointer (some ⟨db, 0, none⟩)] W fun e w' => e = .returned (.bool (y.dev == d)) ∧ Below W.heap.size W w' := by
  have hdl := World.block_lt_of_cell? W _ hd
  have hne : ¬ db = W.heap.size := fun e => by
    have : db < W.heap.size := hdl
    omega
  have hdl2 : db < W.heap.size := hdl
  go_enter Try.func45, Try.ntmps45
  go_wp2
  go_ret
  exact ⟨rfl, (Below.refl _ _).alloc (Nat.le_refl _) _⟩
set_option maxRecDepth 100000 in
set_option maxHeartbeats 1000000 in
theorem idxF_any (A : Option Addr) (n c : Nat) (ok : Nat → Prop) (xs : List Hold) (x : Int) (db : Nat) (w : World) (h : Row kHold w ok A n xs) (hd : w.cell? ⟨db, 0, none⟩ = some (.int .i64 x)) :
    Calls Try.prog 44 #[.slice A n c, .func (.func 45) #[] #[.pointer (some ⟨db, 0, none⟩)]] w fun e w' => e = .returned (.int .i64 (findDev xs x)) ∧ Below w.heap.size w w' := by
  have hm := h.2.1
  have HL := As.mk h.1
  have HR := As.mk h
  have hdl : db < w.heap.size := World.block_lt_of_cell? w _ hd
  have HD := As.mk hd
  clear h hd
  go_enter Try.func44, Try.ntmps44
  go_wp2
  go_loopw [8] (fun i wr => ∃ k : Nat, k ≤ n ∧ i = .int .i64 k ∧ As (x ∉ (xs.take k).map (·.dev)) ∧ As (Below w.heap.size w wr)) (fun i _ => n - (intOf i).toNat)
  case atStart => exact ⟨0, Nat.zero_le _, rfl, ⟨by simp⟩, ⟨Below.refl _ _⟩⟩
  case round =>
    obtain ⟨k, hk, rfl, hne, HB⟩ := hrel
    by_cases hlt : k < n
    · obtain ⟨ad, A1, c1, A2, c2, rfl, _, _, p0, p1, p2, p3, _⟩ := rowHold (HR.o.below HB.o) k hlt
      have hkl : k < xs.length := by rw [HL.o]; exact hlt
      have HS : As (∀ z, z ∈ (xs.take (k + 1)).map (·.dev) ↔ z ∈ (xs.take k).map (·.dev) ∨ (hgt xs k).dev = z) := ⟨fun z => by
        rw [List.take_succ_eq_append_getElem hkl, ← hgt_eq xs k hkl, List.map_append, List.mem_append]
        simp [eq_comm]⟩
      have HI : As ((hgt xs k).dev = x → x ∉ (xs.take k).map (·.dev) → (xs.map (·.dev)).idxOf x = k) := ⟨fun e hn => by
        have hsplit : xs = xs.take k ++ xs[k] :: xs.drop (k + 1) := by rw [List.getElem_cons_drop, List.take_append_drop]
        rw [hsplit, List.map_append, List.idxOf_append, if_neg hn, List.length_map, List.length_take, List.map_cons, ← hgt_eq xs k hkl]
        rw [List.idxOf_cons, e]
        simp
        omega⟩
      have HM : As ((hgt xs k).dev ∈ xs.map (·.dev)) := ⟨List.mem_map.2 ⟨hgt xs k, by rw [hgt_eq xs k hkl]; exact List.getElem_mem hkl, rfl⟩⟩
      have CLO := As.mk (closeF (hgt xs k) A1 c1 A2 c2 db x wr ((HB.o.cell (p := ⟨db, 0, none⟩) hdl).trans HD.o))
      clear hkl
      generalize hgt xs k = y at *
      by_cases hx : y.dev = x
      · have hb : (y.dev == x) = true := beq_iff_eq.2 hx
        rw [hb] at CLO
        have HX := As.mk hx
        clear hx
        go_wp2_with (go_at_call 45; refine CLO.o.mono ?_; rintro e w1 ⟨rfl, hb1⟩)
        go_ret
        exact ⟨by rw [findDev, if_pos (HX.o ▸ HM.o), HI.o HX.o hne.o]; rfl, bthen HB.o hb1 (Nat.le_refl _)⟩
      · have hb : (y.dev == x) = false := beq_eq_false_iff_ne.2 hx
        rw [hb] at CLO
        have HX : As (x ∉ (xs.take (k + 1)).map (·.dev)) := ⟨fun hc => ((HS.o x).1 hc).elim hne.o hx⟩
        go_wp2_with (go_at_call 45; refine CLO.o.mono ?_; rintro e w1 ⟨rfl, hb1⟩)
        go_roundw
        case rel => exact ⟨k + 1, by omega, by go_num, HX, ⟨bthen HB.o hb1 (Nat.le_refl _)⟩⟩
        case measure => simp [intOf]; omega
    · have e : k = n := by omega
      subst e
      have h1 := hne.o
      rw [List.take_of_length_le (by rw [HL.o]; exact Nat.le_refl _)] at h1
      have HF : As (findDev xs x = -1) := ⟨by rw [findDev, if_neg h1]⟩
      clear h1 hne
      go_wp2
      go_ret
      exact ⟨by rw [HF.o]; rfl, HB.o⟩
end Go.Proofs.Ytlinhckgdfhppaa
namespace Go.Proofs.Ytlinhckgdfhppaa
open Go Go.RowKit Go.Proofs.YtlinhckgdfhppaaK
open Go.ChangeMaps (setBlock)

abbrev Fetch := Int × Piece
def kFetch : Kn Fetch := Kn.pair (Kn.int .i64) kPiece
theorem flat_fetch : Flat kFetch := flat_pair (flat_int .i64) (flat_pair flat_str (flat_int .i64))
theorem kFetch_mk (w : World) (ok : Nat → Prop) (x : Fetch) : kFetch.K w ok x [.int .i64 x.1, .string x.2.1, .int .i64 x.2.2] := ⟨[.int .i64 x.1], _, rfl, rfl, kPiece_mk w ok x.2⟩
/-- A piece is fetched if its stripe is needed, it is not there, and pieces lack. -/
def fetStep (needs : List Need) (nf : ByteArray → Option Nat) (d : Int) (acc : List (BitVec 16) × List Fetch) (p : Piece) : List (BitVec 16) × List Fetch :=
  match nf p.1 with
  | none => acc
  | some i => if (maskAt acc.1 i).getLsbD p.2.toNat = true ∨ (pg needs i).2 ≤ (maskCnt (maskAt acc.1 i) : Int) then acc else (acc.1.set i (maskAt acc.1 i ||| BitVec.twoPow 16 p.2.toNat), acc.2 ++ [(d, p)])
def fetDev (needs : List Need) (nf : ByteArray → Option Nat) (list : List Hold) (acc : List (BitVec 16) × List Fetch) (d : Int) : List (BitVec 16) × List Fetch :=
  if findDev list d < 0 then acc else (hgt list (findDev list d).toNat).pieces.foldl (fetStep needs nf d) acc
def fetTo (needs : List Need) (nf : ByteArray → Option Nat) (list : List Hold) (ms : List (BitVec 16)) (devs : List Int) : Nat → List (BitVec 16) × List Fetch
  | 0 => (ms, [])
  | k + 1 => if ig devs k ∈ devs.take k then fetTo needs nf list ms devs k else fetDev needs nf list (fetTo needs nf list ms devs k) (ig devs k)
/-- What Fetches answers. -/
def fetchesP (g : Goal) (list : List Hold) (devs : List Int) : List Fetch := if Valid g list then (fetTo g.needs (nfOf g) list (ms0 g) devs devs.length).2 else []
theorem fetStep_len (needs : List Need) (nf : ByteArray → Option Nat) (d : Int) (acc : List (BitVec 16) × List Fetch) (p : Piece) : (fetStep needs nf d acc p).1.length = acc.1.length ∧ (fetStep needs nf d acc p).2.length ≤ acc.2.length + 1 := by
  unfold fetStep
  split
  · exact ⟨rfl, by omega⟩
  · split
    · exact ⟨rfl, by omega⟩
    · exact ⟨by simp, by simp⟩
theorem withM_zero (nf : ByteArray → Option Nat) (L : List Hold) (ms : List (BitVec 16)) : ∀ k, withM nf L 0 ms k = ms
  | 0 => rfl
  | k + 1 => by rw [withM, if_neg (by simp), withM_zero nf L ms k]
theorem withW_zero (L : List Hold) (f : Nat → BitVec 64) : ∀ k, withW L 0 f k = f
  | 0 => rfl
  | k + 1 => by rw [withW, if_neg (by simp), withW_zero L f k]
theorem withI_zero (L : List Hold) (ix : Bool) : ∀ k, withI L 0 ix k = ix
  | 0 => rfl
  | k + 1 => by rw [withI, if_neg (by simp), withI_zero L ix k]
theorem bit_u16 (m : BitVec 16) (k : Nat) : bits .and .u16 ((m.toNat : Int) / 2 ^ k) 1 = if m.getLsbD k = true then 1 else 0 := by
  have e : (m.toNat : Int) / 2 ^ k = ((m.toNat / 2 ^ k : Nat) : Int) := by simp
  have hlt : m.toNat / 2 ^ k < 65536 := Nat.lt_of_le_of_lt (Nat.div_le_self _ _) m.isLt
  show IntKind.u16.wrap ((BitVec.ofInt 16 ((m.toNat : Int) / 2 ^ k) &&& BitVec.ofInt 16 ((1 : Nat) : Int)).toNat : Int) = _
  have h1 : (BitVec.ofNat 16 (m.toNat / 2 ^ k) &&& BitVec.ofNat 16 1).toNat = m.toNat / 2 ^ k % 2 := by
    rw [BitVec.toNat_and, BitVec.toNat_ofNat, BitVec.toNat_ofNat, Nat.mod_eq_of_lt hlt]
    exact Nat.and_one_is_mod _
  rw [e, BitVec.ofInt_natCast, BitVec.ofInt_natCast, h1]
  have h2 : m.getLsbD k = decide (m.toNat / 2 ^ k % 2 = 1) := by
    show m.toNat.testBit k = _
    exact Nat.testBit_eq_decide_div_mod_eq
  rw [h2]
  by_cases h : m.toNat / 2 ^ k % 2 = 1
  · rw [h]; simp [IntKind.wrap, IntKind.bits, IntKind.signed]
  · rw [show m.toNat / 2 ^ k % 2 = 0 by omega]; simp [IntKind.wrap, IntKind.bits, IntKind.signed]
/-- What stands in memory while Fetches goes on. -/
structure FS (W3 : World) (stb sm base2 : Nat) (B : Option Addr) (n c : Nat) (f : Nat → BitVec 64) (ix : Bool) (seen : List Int) (ms : List (BitVec 16)) (out : List Fetch) (v : Value) (wr : World) : Prop where
  own : wr.ownsRow W3.heap.size 110 1 (.slice B n c) n (ms.map mval)
  ob : ∀ k, (Value.slice B n c).ownBlock = some k → k < stb
  st : wr.heap[stb]? = some (.cells (stockCells B n c f ix) 94 (0, 0))
  mp : Go.Proofs.YtlinhckgdfhppaaK.MapAt wr sm (Value.int .i64) eUnit (setF seen)
  out : Own kFetch 55 wr base2 v out
  bel : Below W3.heap.size W3 wr
  s1 : W3.heap.size ≤ stb
  s2 : stb < sm
  s3 : sm < base2
  s4 : base2 ≤ wr.heap.size
section
variable {W3 wr wr' : World} {stb sm base2 : Nat} {B : Option Addr} {n c : Nat} {f : Nat → BitVec 64} {ix : Bool} {seen : List Int} {ms : List (BitVec 16)} {out : List Fetch} {v : Value}
theorem FS.below (h : FS W3 stb sm base2 B n c f ix seen ms out v wr) (hb : Below wr.heap.size wr wr') : FS W3 stb sm base2 B n c f ix seen ms out v wr' :=
  ⟨h.own.kept (row := none) (grownBy_of_below hb none) (by cases (Value.slice B n c).ownBlock <;> simp), h.ob, (hb.block _ (blk_lt h.st)).trans h.st, h.mp.below hb h.mp.lt, h.out.below hb, bthen h.bel hb (Nat.le_refl _), h.s1, h.s2, h.s3, Nat.le_trans h.s4 hb.size⟩
/-- Something is marked as seen. -/
theorem FS.mark (h : FS W3 stb sm base2 B n c f ix seen ms out v wr) (hb : Below wr.heap.size wr wr') (o : Obj) (seen' : List Int) (hm : Go.Proofs.YtlinhckgdfhppaaK.MapAt (setBlock wr' sm o) sm (Value.int .i64) eUnit (setF seen')) : FS W3 stb sm base2 B n c f ix seen' ms out v (setBlock wr' sm o) := by
  have h' := h.below hb
  have hs1 := h.s1
  have hs2 := h.s2
  have hs3 := h.s3
  have hfar : ∀ k, k ≠ sm → (setBlock wr' sm o).heap[k]? = wr'.heap[k]? := fun k hk => heap_setBlock_far _ _ _ _ hk
  have hsz : (setBlock wr' sm o).heap.size = wr'.heap.size := by simp [setBlock]
  have hg : wr'.grownBy (setBlock wr' sm o) (some sm) := ⟨rfl, rfl, rfl, by omega, fun k _ hk => hfar k (fun e => hk (by rw [e]))⟩
  refine ⟨h'.own.kept hg (.inr fun e => by have := h.ob _ e; omega), h.ob, (hfar _ (by omega)).trans h'.st, hm, h'.out.flat flat_fetch hg (.inr fun e => by have := (h'.out.lt _ e).1; omega), ⟨h'.bel.os, h'.bel.tape, h'.bel.output, by rw [hsz]; exact h'.bel.size, fun k hk => (hfar k (by omega)).trans (h'.bel.block k hk)⟩, hs1, hs2, hs3, by rw [hsz]; exact h'.s4⟩
/-- A mask is written. -/
theorem FS.put (h : FS W3 stb sm base2 B n c f ix seen ms out v wr) (hb : Below wr.heap.size wr wr') (gb i : Nat) (hB : B = some ⟨gb, 0, none⟩) (u : BitVec 16) : FS W3 stb sm base2 B n c f ix seen (ms.set i u) out v (wr'.setCell ⟨gb, i, none⟩ (mval u)) := by
  have h' := h.below hb
  subst hB
  have hg0 : gb < stb := h.ob gb rfl
  have hs1 := h.s1
  have hs2 := h.s2
  have hs3 := h.s3
  have hg1 : W3.heap.size ≤ gb := (h.own.lt gb rfl).1
  have hst := h'.own.stored i (mval u)
  have hg : wr'.grownBy (wr'.setCell ⟨gb, i, none⟩ (mval u)) (some gb) := grownBy_set wr' ⟨gb, i, none⟩ _
  refine ⟨by rw [List.map_set]; exact hst.1, h.ob, (blk_far (show stb ≠ gb by omega) _).trans h'.st, h'.mp.move (blk_far (show sm ≠ gb by omega) _), h'.out.flat flat_fetch hg (.inr fun e => by have := (h'.out.lt _ e).1; omega), ⟨hg.os.trans h'.bel.os, hg.tape.trans h'.bel.tape, hg.output.trans h'.bel.output, Nat.le_trans h'.bel.size hg.size, fun k hk => (hg.block k (by have := h'.bel.size; omega) (fun e => by injection e; omega)).trans (h'.bel.block k hk)⟩, hs1, hs2, hs3, Nat.le_trans h'.s4 hg.size⟩
/-- The answers grow. -/
theorem FS.grow (h : FS W3 stb sm base2 B n c f ix seen ms out v wr) {v1 : Value} {out1 : List Fetch} (ho : Own kFetch 55 wr' base2 v1 out1) (hg : wr.grownBy wr' v.ownBlock) : FS W3 stb sm base2 B n c f ix seen ms out1 v1 wr' := by
  have hs1 := h.s1
  have hs2 := h.s2
  have hs3 := h.s3
  have hs4 := h.s4
  have hlt := h.out.lt
  have hne : (Value.slice B n c).ownBlock = none ∨ (Value.slice B n c).ownBlock ≠ v.ownBlock := by
    cases hB : (Value.slice B n c).ownBlock with
    | none => exact .inl rfl
    | some k => exact .inr fun e => by have h1 := h.ob k hB; have h2 := (hlt k e.symm).1; omega
  exact ⟨h.own.kept hg hne, h.ob, (hg.block _ (blk_lt h.st) (fun e => by have := (hlt _ e.symm).1; omega)).trans h.st, h.mp.move (hg.block _ h.mp.lt (fun e => by have := (hlt _ e.symm).1; omega)), ho, ⟨hg.os.trans h.bel.os, hg.tape.trans h.bel.tape, hg.output.trans h.bel.output, Nat.le_trans h.bel.size hg.size, fun k hk => (hg.block k (by have := h.bel.size; omega) (fun e => by have := (hlt _ e.symm).1; omega)).trans (h.bel.block k hk)⟩, hs1, hs2, hs3, Nat.le_trans hs4 hg.size⟩
end
end Go.Proofs.Ytlinhckgdfhppaa
namespace Go.Proofs.Ytlinhckgdfhppaa
open Go Go.RowKit Go.Proofs.YtlinhckgdfhppaaK
open Go.ChangeMaps (setBlock)

theorem setF_old {xs : List Int} {d : Int} (h : d ∈ xs) : setF (xs ++ [d]) = setF xs := by
  funext y
  by_cases e : y ∈ xs
  · simp [setF, e]
  · have : y ≠ d := fun e2 => e (e2 ▸ h)
    simp [setF, e, this]
theorem FS.reseen {W3 wr : World} {stb sm base2 : Nat} {B : Option Addr} {n c : Nat} {f : Nat → BitVec 64} {ix : Bool} {seen seen' : List Int} {ms : List (BitVec 16)} {out : List Fetch} {v : Value}
    (h : FS W3 stb sm base2 B n c f ix seen ms out v wr) (hs : setF seen' = setF seen) : FS W3 stb sm base2 B n c f ix seen' ms out v wr :=
  ⟨h.own, h.ob, h.st, by rw [hs]; exact h.mp, h.out, h.bel, h.s1, h.s2, h.s3, h.s4⟩
theorem findDev_at {list : List Hold} {d : Int} (h : ¬ findDev list d < 0) : ∃ j, j < list.length ∧ findDev list d = (j : Int) := by
  unfold findDev at *
  by_cases hm : d ∈ list.map (·.dev)
  · rw [if_pos hm]
    exact ⟨_, by have := List.idxOf_lt_length_of_mem hm; simpa using this, rfl⟩
  · rw [if_neg hm] at h
    exact absurd (by decide) h
def fetAcc (needs : List Need) (nf : ByteArray → Option Nat) (d : Int) (acc : List (BitVec 16) × List Fetch) (ps : List Piece) (m : Nat) : List (BitVec 16) × List Fetch := (ps.take m).foldl (fetStep needs nf d) acc
theorem fetAcc_succ (needs : List Need) (nf : ByteArray → Option Nat) (d : Int) (acc : List (BitVec 16) × List Fetch) (ps : List Piece) (m : Nat) (h : m < ps.length) : fetAcc needs nf d acc ps (m + 1) = fetStep needs nf d (fetAcc needs nf d acc ps m) (pg ps m) :=
  foldl_take_succ _ _ ps m (pg ps m) h (pg_eq ps m h).symm
theorem info_fetch : (Try.prog.info? 55).map (fun i => (i.zero, i.size, i.bytes)) = some (some (.agg #[.int .i64 0, .string ByteArray.empty, .int .i64 0]), 3, 32) := by kernel_rfl
section
variable (g : Goal) (A1 : Option Addr) (c1 : Nat) (A2 : Option Addr) (c2 : Nat) (A3 : Option Addr) (c3 : Nat) (A4 : Option Addr) (c4 : Nat) (list : List Hold) (A5 : Option Addr) (nd c5 : Nat) (devs : List Int) (w : World)
set_option maxRecDepth 100000 in
set_option maxHeartbeats 2000000 in
theorem fetches_any (hg : GoalIn w (fun k => k < w.heap.size) g A1 c1 A2 c2 A3 c3) (hl : Row kHold w (fun k => k < w.heap.size) A4 list.length list) (hd : Row (Kn.int .i64) w (fun k => k < w.heap.size) A5 nd devs) (hnd : nd ≤ 1000) (hpl : ∀ h ∈ list, h.pieces.length ≤ 1000) :
    Calls Try.prog 19 #[.agg (goalCells g A1 c1 A2 c2 A3 c3), .slice A4 list.length c4, .slice A5 nd c5] w fun e w' => ∃ A c, e = .returned (.tuple #[.slice A (fetchesP g list devs).length c, .int .i64 (checkOf g list)]) ∧ (fetchesP g list devs).length ≤ c ∧ Row kFetch w' (fun k => w.heap.size ≤ k ∧ k < w'.heap.size) A (fetchesP g list devs).length (fetchesP g list devs) ∧ Below w.heap.size w w' := by
  have HG := As.mk hg
  have HL := As.mk hl
  have HD := As.mk hd
  have hndm := hd.2.1
  have CHK : As (∀ W : World, Below w.heap.size w W → Calls Try.prog 31 #[.agg (goalCells g A1 c1 A2 c2 A3 c3), .slice A4 list.length c4] W fun e w' => e = .returned (.int .i64 (checkOf g list)) ∧ Below W.heap.size W w') := ⟨fun W hW => check_any g A1 c1 A2 c2 A3 c3 A4 list.length c4 list W _ (HG.o.below hW) (HL.o.below hW)⟩
  have HB0 : As (Below w.heap.size w (w.alloc (.cells (goalCells g A1 c1 A2 c2 A3 c3) 26))) := ⟨(Below.refl _ _).alloc (Nat.le_refl _) _⟩
  have BOX : As (∀ W : World, Below (w.alloc (.cells (goalCells g A1 c1 A2 c2 A3 c3) 26)).heap.size (w.alloc (.cells (goalCells g A1 c1 A2 c2 A3 c3) 26)) W → ∀ i, W.cell? ⟨w.heap.size, i, none⟩ = (goalCells g A1 c1 A2 c2 A3 c3)[i]?) := ⟨fun W hW i => (hW.cell (p := ⟨w.heap.size, i, none⟩) (by simp)).trans (cell_of_row _ _ i _ _ _ (heap_alloc_new w _))⟩
  clear hg hl hd
  by_cases hv : Valid g list
  · rw [checkOf_yes hv] at CHK ⊢
    have HR : As (fetchesP g list devs = (fetTo g.needs (nfOf g) list (ms0 g) devs devs.length).2) := ⟨if_pos hv⟩
    have NEW : As (∀ W : World, Below w.heap.size w W → Calls Try.prog 42 #[.agg (goalCells g A1 c1 A2 c2 A3 c3), .slice A4 list.length c4] W fun e w' => ∃ pb, e = .returned (.pointer (some ⟨pb, 0, none⟩)) ∧ PIn w' pb g list ∧ Below W.heap.size W w') := ⟨fun W hW => newProblemQ g A1 c1 A2 c2 A3 c3 A4 c4 list W ⟨(HG.o.n.below hW).mono fun k hk => Nat.lt_of_lt_of_le hk hW.size, HG.o.cn, (HG.o.p.below hW).mono fun k hk => Nat.lt_of_lt_of_le hk hW.size, HG.o.cp, (HG.o.s.below hW).mono fun k hk => Nat.lt_of_lt_of_le hk hW.size, HG.o.cs⟩ ((HL.o.below hW).mono fun k hk => Nat.lt_of_lt_of_le hk hW.size) hv⟩
    have HV := As.mk hv
    have WITH : As (∀ (W : World) (pb : Nat), PIn W pb g list → Calls Try.prog 43 #[.pointer (some ⟨pb, 0, none⟩), .int .u64 0] W fun e w' => ∃ B c, e = .returned (.agg (stockCells B g.needs.length c (fw0 g) (!g.index))) ∧
      w'.ownsRow W.heap.size 110 1 (.slice B g.needs.length c) g.needs.length ((ms0 g).map mval) ∧ Below W.heap.size W w') := ⟨fun W pb ⟨mb, B1, d1, A, cl, B0, c0, h⟩ => by
        have hk := HV.o.ok
        have := with_any pb mb (nfOf g) A list.length cl (sortH list) 0 B0 g.needs.length c0 (ms0 g) (fw0 g) (!g.index) W h.h5 h.h6 h.h7 h.hw h.hi h.hmap hk.hnf h.hR h.hM hk.hn hk.hnl (by decide) hk.hp
        rw [withM_zero, withW_zero, withI_zero] at this
        exact this⟩
    have hmm := @run_makeMap Try.prog
    clear hv
    go_enter Try.func19, Try.ntmps19
    go_wp2
    go_step3
    go_wp2_with (first
      | (go_at_call 31; refine (CHK.o _ HB0.o).mono ?_; rintro e w1 ⟨rfl, hb1⟩; have B0 := BOX.o w1 hb1; have b0 : w1.cell? ⟨w.heap.size, 0, none⟩ = some (.slice A1 g.needs.length c1) := B0 0; have b1 : w1.cell? ⟨w.heap.size, 1, none⟩ = some (.int .i64 g.thr) := B0 1; have b2 : w1.cell? ⟨w.heap.size, 2, none⟩ = some (.bool g.index) := B0 2; have b3 : w1.cell? ⟨w.heap.size, 3, none⟩ = some (.slice A2 g.pieces.length c2) := B0 3; have b4 : w1.cell? ⟨w.heap.size, 4, none⟩ = some (.slice A3 g.shares.length c3) := B0 4)
      | (go_at_call 42; refine (NEW.o _ (bthen HB0.o hb1 (by simp))).mono ?_; rintro e w2 ⟨pb, rfl, hp2, hb2⟩)
      | (go_at_call 43; refine (WITH.o _ _ hp2).mono ?_; rintro e w3 ⟨B, c, rfl, hown3, hb3⟩))
    have hs1 := hb1.size
    have hs2 := hb2.size
    have hs3 := hb3.size
    simp at hs1
    have HW2 : As (Below w.heap.size w w2) := ⟨bthen (bthen HB0.o hb1 (by simp)) hb2 (by omega)⟩
    have HX2 : As (∀ i, w2.cell? ⟨w.heap.size, i, none⟩ = (goalCells g A1 c1 A2 c2 A3 c3)[i]?) := ⟨fun i => (hb2.cell (p := ⟨w.heap.size, i, none⟩) (by show w.heap.size < w1.heap.size; omega)).trans (B0 i)⟩
    have HP := As.mk hp2
    obtain ⟨W5, hW5⟩ : ∃ W5 : World, W5 = (w3.alloc (.cells (stockCells B g.needs.length c (fw0 g) (!g.index)) 94)).alloc (.map #[] 0) := ⟨_, rfl⟩
    have FS0 : As (FS w2 w3.heap.size (w3.heap.size + 1) (w3.heap.size + 2) B g.needs.length c (fw0 g) (!g.index) [] (ms0 g) [] (.slice none 0 0) W5) := ⟨by
      have hs4 : (w3.alloc (.cells (stockCells B g.needs.length c (fw0 g) (!g.index)) 94)).heap.size = w3.heap.size + 1 := by simp
      rw [hW5]
      refine ⟨(hown3.alloc _).alloc _, fun k e => (hown3.lt k e).2, (Below.heap_alloc _ _ _ (by omega)).trans (heap_alloc_new w3 _), ?_, Own.nil _ _ _ _, ((hb3.alloc (by omega) _).alloc (by omega) _), hs3, by omega, by omega, by simp⟩
      rw [← hs4, show setF ([] : List Int) = fun _ => none by funext x; simp [setF]]
      exact Go.Proofs.YtlinhckgdfhppaaK.MapAt.made _ _ _⟩
    rw [← hW5]
    clear hW5 hown3 hb1 hb2 hb3 B0 b0 b1 b2 b3 b4 hp2 CHK NEW WITH BOX
    go_step3
    go_wp2
    go_loopw [11, 36] (fun v i' wr => ∃ k : Nat, k ≤ nd ∧ i' = .int .i64 k ∧ As (FS w2 w3.heap.size (w3.heap.size + 1) (w3.heap.size + 2) B g.needs.length c (fw0 g) (!g.index) (devs.take k) (fetTo g.needs (nfOf g) list (ms0 g) devs k).1 (fetTo g.needs (nfOf g) list (ms0 g) devs k).2 v wr) ∧ As ((fetTo g.needs (nfOf g) list (ms0 g) devs k).1.length = g.needs.length ∧ (fetTo g.needs (nfOf g) list (ms0 g) devs k).2.length ≤ 1000 * k)) (fun _ i' _ => nd - (intOf i').toNat)
    case atStart => exact ⟨0, Nat.zero_le _, rfl, by rw [List.take_zero]; exact FS0, ⟨by rw [fetTo]; exact ⟨by simp [giveM_len], by simp⟩⟩⟩
    case round =>
      obtain ⟨k, hk, rfl, HF, HLN⟩ := hrel
      by_cases hlt : k < nd
      · have HBw : As (Below w.heap.size w wr) := ⟨HW2.o.trans (HF.o.bel.mono HW2.o.size)⟩
        obtain ⟨ad, rfl, _, _, p0⟩ := (HD.o.below HBw.o).int_at k hlt
        have hkl : k < devs.length := by rw [HD.o.1]; exact hlt
        have HTK := As.mk (take_ig devs k hkl)
        have HT := As.mk (show fetTo g.needs (nfOf g) list (ms0 g) devs (k + 1) = if ig devs k ∈ devs.take k then fetTo g.needs (nfOf g) list (ms0 g) devs k else fetDev g.needs (nfOf g) list (fetTo g.needs (nfOf g) list (ms0 g) devs k) (ig devs k) from rfl)
        have hsm := HF.o.mp.lt
        have LK := As.mk fun W hW => (HF.o.mp.move (w' := W) hW).look (int_key Try.underlying3) Try.underlying104 (zero_unit W) (ig devs k) true
        have LS := As.mk fun W hW => (HF.o.mp.move (w' := W) hW).store (int_key Try.underlying3) Try.underlying104 (ig devs k) ()
        rw [setF_upd] at LS
        generalize ig devs k = d at *
        generalize fetTo g.needs (nfOf g) list (ms0 g) devs k = acc at *
        obtain ⟨ms, out⟩ := acc
        simp only at HF HLN
        by_cases hx : d ∈ devs.take k
        · have LKN : As (∀ W : World, W.heap[w3.heap.size + 1]? = wr.heap[w3.heap.size + 1]? → (Instr.lookup 104 (.map (some (w3.heap.size + 1))) (.int .i64 d) true).run Try.prog W = .ok (.tuple #[.agg #[], .bool true]) W) := ⟨fun W hW => by
            have := LK.o W hW
            rw [setF_yes hx] at this
            exact this⟩
          have HS2 := As.mk (setF_old hx)
          rw [if_pos hx] at HT
          clear LK LS hx
          go_wp2_with (at_lookup; refine wpList_lookup_run rfl _ _ 104 true rfl (.map (some (w3.heap.size + 1))) (.int .i64 d) _ rfl rfl (LKN.o _ (by (repeat (first | rfl | (refine (Below.heap_alloc _ _ _ (by (first | omega | (simp; done) | (simp; omega)))).trans ?_) | (refine (Below.heap_setCell _ _ _ _ (by (first | omega | (simp; done) | (simp; omega)))).trans ?_) | (refine (heap_drew _ _).trans ?_) | (refine (heap_setBlock_far _ _ _ _ (by (first | omega | (simp; done) | (simp; omega)))).trans ?_))))) ?_)
          go_roundw
          case rel =>
            refine ⟨k + 1, by omega, by go_num, ?_, ⟨by rw [HT.o]; exact ⟨HLN.o.1, Nat.le_trans HLN.o.2 (by omega)⟩⟩⟩
            rw [HTK.o, HT.o]
            exact ⟨(HF.o.below (((Below.refl _ _).alloc (Nat.le_refl _) _).alloc (by simp) _)).reseen HS2.o⟩
          case measure => simp [intOf]; omega
        · have LKN : As (∀ W : World, W.heap[w3.heap.size + 1]? = wr.heap[w3.heap.size + 1]? → (Instr.lookup 104 (.map (some (w3.heap.size + 1))) (.int .i64 d) true).run Try.prog W = .ok (.tuple #[.agg #[], .bool false]) W) := ⟨fun W hW => by
            have := LK.o W hW
            rw [setF_no hx] at this
            exact this⟩
          rw [if_neg hx] at HT
          clear LK hx
          go_wp2_with (first
            | (at_lookup; refine wpList_lookup_run rfl _ _ 104 true rfl (.map (some (w3.heap.size + 1))) (.int .i64 d) _ rfl rfl (LKN.o _ (by (repeat (first | rfl | (refine (Below.heap_alloc _ _ _ (by (first | omega | (simp; done) | (simp; omega)))).trans ?_) | (refine (Below.heap_setCell _ _ _ _ (by (first | omega | (simp; done) | (simp; omega)))).trans ?_) | (refine (heap_drew _ _).trans ?_) | (refine (heap_setBlock_far _ _ _ _ (by (first | omega | (simp; done) | (simp; omega)))).trans ?_))))) ?_)
            | (at_mapUpdate; refine wpList_store_map rfl _ _ _ 104 rfl (w3.heap.size + 1) (.int .i64 d) (eUnit ()) rfl rfl rfl (LS.o _ (by (repeat (first | rfl | (refine (Below.heap_alloc _ _ _ (by (first | omega | (simp; done) | (simp; omega)))).trans ?_) | (refine (Below.heap_setCell _ _ _ _ (by (first | omega | (simp; done) | (simp; omega)))).trans ?_) | (refine (heap_drew _ _).trans ?_) | (refine (heap_setBlock_far _ _ _ _ (by (first | omega | (simp; done) | (simp; omega)))).trans ?_))))) ?_; intro o hmap)
            | (go_at_call 44; fail))
          obtain ⟨W6, hW6⟩ : ∃ W6 : World, W6 = setBlock ((wr.alloc (.cells #[.int .i64 d] 3)).alloc (.cells #[] 105)) (w3.heap.size + 1) o := ⟨_, rfl⟩
          have hsb := HF.o.s4
          have HF6 : As (FS w2 w3.heap.size (w3.heap.size + 1) (w3.heap.size + 2) B g.needs.length c (fw0 g) (!g.index) (devs.take k ++ [d]) ms out u11 W6) := ⟨by rw [hW6]; exact HF.o.mark (((Below.refl _ _).alloc (Nat.le_refl _) _).alloc (by simp) _) o _ hmap⟩
          have d6 : W6.cell? ⟨wr.heap.size, 0, none⟩ = some (.int .i64 d) := by
            rw [hW6]
            exact (World.cell?_of_block (heap_setBlock_far _ _ _ _ (by show wr.heap.size ≠ _; omega))).trans ((World.cell?_of_block (Below.heap_alloc _ _ _ (by simp))).trans ((cell_of_row _ _ 0 _ _ _ (heap_alloc_new wr _)).trans rfl))
          have hv6 : ∀ b, u11.ownBlock = some b → b < wr.heap.size := fun b e => (HF.o.out.lt b e).2
          rw [← hW6]
          clear hW6 hmap
          have HBw6 : As (Below w.heap.size w W6) := ⟨HW2.o.trans (HF6.o.bel.mono HW2.o.size)⟩
          have IDX := As.mk (idxF_any A4 list.length c4 _ list d wr.heap.size W6 (HL.o.below HBw6.o) d6)
          refine IDX.o.mono ?_
          rintro e w7 ⟨rfl, hb7⟩
          have HF7 := As.mk (HF6.o.below hb7)
          have HV6 := As.mk hv6
          have HBw7 : As (Below w.heap.size w w7) := ⟨HW2.o.trans (HF7.o.bel.mono HW2.o.size)⟩
          have hl6 : wr.heap.size < W6.heap.size := World.block_lt_of_cell? W6 _ d6
          have d7 : w7.cell? ⟨wr.heap.size, 0, none⟩ = some (.int .i64 d) := (hb7.cell (p := ⟨wr.heap.size, 0, none⟩) hl6).trans d6
          have HFD := As.mk (show fetDev g.needs (nfOf g) list (ms, out) d = if findDev list d < 0 then (ms, out) else (hgt list (findDev list d).toNat).pieces.foldl (fetStep g.needs (nfOf g) d) (ms, out) from rfl)
          have HFA := As.mk fun h => findDev_at (list := list) (d := d) h
          generalize findDev list d = kk at *
          clear IDX hb7 HF6 HBw6 LKN LS d6 HF hv6
          by_cases hneg : kk < 0
          · have d0 : decide (kk < 0) = true := decide_eq_true hneg
            rw [if_pos hneg] at HFD
            clear hneg HFA
            go_wp2
            go_roundw
            case rel =>
              refine ⟨k + 1, by omega, by go_num, ?_, ⟨by rw [HT.o, HFD.o]; exact ⟨HLN.o.1, Nat.le_trans HLN.o.2 (by omega)⟩⟩⟩
              rw [HTK.o, HT.o, HFD.o]
              exact HF7
            case measure => simp [intOf]; omega
          · obtain ⟨j, hj, ej⟩ := HFA.o hneg
            rw [if_neg hneg] at HFD
            clear HFA hneg
            subst ej
            rw [Int.toNat_natCast] at HFD
            have dj : decide ((j : Int) < 0) = false := decide_eq_false (by omega)
            obtain ⟨ad2, P, cP, S, cS, eA, _, _, pd0, pd1, pd2, pd3, hcP, hR1, _⟩ := rowHold (HL.o.below HBw7.o) j hj
            subst eA
            have hps := hpl (hgt list j) (by rw [hgt_eq _ _ hj]; exact List.getElem_mem _)
            have hj0 : (0 : Int) ≤ (j : Int) := by omega
            have hj1 : (j : Int) < (list.length : Int) := by omega
            have hnpm := hR1.2.1
            have HPP := As.mk ((HL.o.below HBw7.o))
            have HVP : As (∀ p ∈ (hgt list j).pieces, 0 ≤ p.2 ∧ p.2 < 16) := ⟨(HV.o.2.2.2.2.2.2.2.1 (hgt list j) (by rw [hgt_eq _ _ hj]; exact List.getElem_mem _)).2.2.1.1⟩
            have HR1 := As.mk (show Row kPiece w7 (fun b => b < w.heap.size) P (hgt list j).pieces.length (hgt list j).pieces from hR1)
            clear hR1 HPP
            generalize hgt list j = y at *
            obtain ⟨mb, B1, d1, Ah, chh, B0, d0', hprob⟩ := HP.o
            have h6 := hprob.h6
            have HMP := As.mk hprob.hmap
            have HNF := As.mk HV.o.ok.hnf
            have hpb2 := World.block_lt_of_cell? w2 _ h6
            have hmb2 := HMP.o.lt
            clear hprob
            have hsm7 := HF7.o.s4
            generalize wr.heap.size = db at *
            go_wp2
            go_loopw [11, 61] (fun v i' wr => ∃ m : Nat, m ≤ y.pieces.length ∧ i' = .int .i64 m ∧ As (FS w2 w3.heap.size (w3.heap.size + 1) (w3.heap.size + 2) B g.needs.length c (fw0 g) (!g.index) (devs.take k ++ [d]) (fetAcc g.needs (nfOf g) d (ms, out) y.pieces m).1 (fetAcc g.needs (nfOf g) d (ms, out) y.pieces m).2 v wr) ∧
              As ((fetAcc g.needs (nfOf g) d (ms, out) y.pieces m).1.length = g.needs.length ∧ (fetAcc g.needs (nfOf g) d (ms, out) y.pieces m).2.length ≤ 1000 * k + m) ∧ As (wr.cell? ⟨db, 0, none⟩ = some (.int .i64 d)) ∧ As (∀ b, v.ownBlock = some b → b ≠ db)) (fun _ i' _ => y.pieces.length - (intOf i').toNat)
            case atStart => exact ⟨0, Nat.zero_le _, rfl, HF7, HLN, ⟨d7⟩, ⟨fun b e => by have := HV6.o b e; omega⟩⟩
            case round =>
              obtain ⟨m, hm, rfl, HFI, HLI, HDC, HVN⟩ := hrel
              have HBI : As (Below w.heap.size w wr) := ⟨HW2.o.trans (HFI.o.bel.mono HW2.o.size)⟩
              by_cases hml : m < y.pieces.length
              · obtain ⟨ad3, e3, _, _, q0, q1⟩ := rowPiece (HR1.o.move (w' := wr) fun b hb => (HBI.o.block b hb).trans (HBw7.o.block b hb).symm) m hml
                subst e3
                have HST := As.mk (fetAcc_succ g.needs (nfOf g) d (ms, out) y.pieces m hml)
                have hpv := HVP.o (pg y.pieces m) (by rw [pg_eq _ _ hml]; exact List.getElem_mem hml)
                have hszi := HFI.o.bel.size
                have hsi4 := HFI.o.s4
                have c6 : wr.cell? ⟨pb, 6, none⟩ = some (.map (some mb)) := (HFI.o.bel.cell (p := ⟨pb, 6, none⟩) hpb2).trans h6
                have HMI := As.mk (HMP.o.below HFI.o.bel hmb2)
                have hmi := HMI.o.lt
                have hpbi : pb < wr.heap.size := Nat.lt_of_lt_of_le hpb2 hszi
                have hdbl : db < wr.heap.size := World.block_lt_of_cell? wr _ HDC.o
                generalize fetAcc g.needs (nfOf g) d (ms, out) y.pieces m = acc at *
                obtain ⟨mk, ok⟩ := acc
                simp only at HFI HLI HST
                generalize pg y.pieces m = z at *
                obtain ⟨zs, zi⟩ := z
                simp only at q0 q1 hpv
                obtain ⟨kk, rfl⟩ := Int.eq_ofNat_of_zero_le hpv.1
                have hkk : kk < 16 := by omega
                have hm1 : (m : Int) < (y.pieces.length : Int) := by omega
                have LK := As.mk fun q => (HMI.o.move (w' := (wr.alloc (.cells #[.string zs, .int .i64 (kk : Int)] 52)).drewN q) (Below.heap_alloc wr _ mb hmi)).look (string_key Try.underlying9) Try.underlying88 (zero_int _) zs true
                cases hnf : nfOf g zs with
                | none =>
                  have HST2 : As (fetAcc g.needs (nfOf g) d (ms, out) y.pieces (m + 1) = (mk, ok)) := ⟨by rw [HST.o, fetStep]; simp only [hnf]⟩
                  have LK2 : ∀ q, (Instr.lookup 88 (.map (some mb)) (.string zs) true).run Try.prog ((wr.alloc (.cells #[.string zs, .int .i64 (kk : Int)] 52)).drewN q) = .ok (.tuple #[.int .i64 0, .bool false]) ((wr.alloc (.cells #[.string zs, .int .i64 (kk : Int)] 52)).drewN q) := fun q => by
                    have := LK.o q
                    rw [hnf] at this
                    exact this
                  clear hnf LK HST
                  go_wp2
                  go_quiet (fail)
                  go_wp2
                  go_quiet (fail)
                  go_wp2
                  go_roundw
                  case rel =>
                    refine ⟨m + 1, by omega, by go_num, ?_, ⟨by rw [HST2.o]; exact ⟨HLI.o.1, Nat.le_trans HLI.o.2 (by omega)⟩⟩, ?_, HVN⟩
                    · rw [HST2.o]
                      exact ⟨HFI.o.below (below_drewN ((Below.refl _ _).alloc (Nat.le_refl _) _) _)⟩
                    · exact ⟨((below_drewN ((Below.refl wr.heap.size wr).alloc (Nat.le_refl _) _) _).cell (p := ⟨db, 0, none⟩) hdbl).trans HDC.o⟩
                  case measure => simp [intOf]; omega
                | some i =>
                  have hin := HNF.o _ _ hnf
                  have LK2 : ∀ q, (Instr.lookup 88 (.map (some mb)) (.string zs) true).run Try.prog ((wr.alloc (.cells #[.string zs, .int .i64 (kk : Int)] 52)).drewN q) = .ok (.tuple #[.int .i64 (i : Int), .bool true]) ((wr.alloc (.cells #[.string zs, .int .i64 (kk : Int)] 52)).drewN q) := fun q => by
                    have := LK.o q
                    rw [hnf] at this
                    exact this
                  have HST2 : As (fetAcc g.needs (nfOf g) d (ms, out) y.pieces (m + 1) = if (maskAt mk i).getLsbD kk = true ∨ (pg g.needs i).2 ≤ (maskCnt (maskAt mk i) : Int) then (mk, ok) else (mk.set i (maskAt mk i ||| BitVec.twoPow 16 kk), ok ++ [(d, (zs, (kk : Int)))])) := ⟨by rw [HST.o, fetStep]; simp only [hnf, Int.toNat_natCast]⟩
                  clear hnf LK HST
                  obtain ⟨gb, hBg⟩ : ∃ gb, B = some ⟨gb, 0, none⟩ := by
                    rcases HFI.o.own.2 with ⟨_, hn0⟩ | ⟨gb, cap, cur, hv, _⟩
                    · omega
                    · injection hv with hv
                      exact ⟨gb, hv⟩
                  have hmk : mk.length = g.needs.length := HLI.o.1
                  have hgb := HFI.o.ob gb (by rw [hBg]; rfl)
                  have hgr : gb < wr.heap.size := (HFI.o.own.lt gb (by rw [hBg]; rfl)).2
                  have hstl := blk_lt HFI.o.st
                  have t0 : wr.cell? ⟨w3.heap.size, 0, none⟩ = some (.slice B g.needs.length c) := (cell_of_row _ _ 0 _ _ _ HFI.o.st).trans rfl
                  have cg : wr.cell? ⟨gb, i, none⟩ = some (.int .u16 ((maskAt mk i).toNat : Int)) := by
                    have := HFI.o.own
                    rw [hBg] at this
                    refine (this.cellAt i (by omega)).trans ?_
                    rw [List.getElem?_map, List.getElem?_eq_getElem (by omega)]
                    simp [maskAt, List.getD_eq_getElem?_getD, List.getElem?_eq_getElem (show i < mk.length by omega)]
                  have fg : wr.frozen? ⟨gb, i, none⟩ = false := by
                    have := HFI.o.own
                    rw [hBg] at this
                    exact this.frozenAt i
                  have hal : (⟨gb, 0, none⟩ : Addr).add i = ⟨gb, i, none⟩ := add_lit0 _ _
                  have g0 : wr.cell? ⟨w.heap.size, 0, none⟩ = some (.slice A1 g.needs.length c1) := (HFI.o.bel.cell (p := ⟨w.heap.size, 0, none⟩) (show w.heap.size < w2.heap.size by omega)).trans (HX2.o 0)
                  have hwr : w.heap.size < wr.heap.size := by omega
                  obtain ⟨ad1, eA1, _, hl1, _, n1⟩ := rowPiece (HG.o.n.below HBI.o) i hin
                  subst eA1
                  have hi0 : (0 : Int) ≤ (i : Int) := by omega
                  have hi1 : (i : Int) < (g.needs.length : Int) := by omega
                  have hk0 : (0 : Int) ≤ (kk : Int) := by omega
                  have hk16 : (kk : Int) ≤ 16 := by omega
                  have hbit := bit_u16 (maskAt mk i) kk
                  have ONES := As.mk fun W => ones16_any (maskAt mk i).toNat (maskAt mk i).isLt W
                  change As (∀ W, Calls Try.prog 46 #[.int .u16 ((maskAt mk i).toNat : Int)] W fun e w' => e = .returned (.int .i64 ((maskCnt (maskAt mk i) : Nat) : Int)) ∧ ∃ q, w' = W.drewN q) at ONES
                  subst hBg
                  by_cases hA : (maskAt mk i).getLsbD kk = true
                  · rw [if_pos hA] at hbit
                    rw [if_pos (.inl hA)] at HST2
                    clear hA ONES
                    generalize (maskAt mk i).toNat = mi at *
                    go_wp2
                    go_quiet (fail)
                    go_wp2
                    go_quiet (fail)
                    go_wp2
                    go_roundw
                    case rel =>
                      refine ⟨m + 1, by omega, by go_num, ?_, ⟨by rw [HST2.o]; exact ⟨HLI.o.1, Nat.le_trans HLI.o.2 (by omega)⟩⟩, ?_, HVN⟩
                      · rw [HST2.o]
                        exact ⟨HFI.o.below (below_drewN ((Below.refl _ _).alloc (Nat.le_refl _) _) _)⟩
                      · exact ⟨((below_drewN ((Below.refl wr.heap.size wr).alloc (Nat.le_refl _) _) _).cell (p := ⟨db, 0, none⟩) hdbl).trans HDC.o⟩
                    case measure => simp [intOf]; omega
                  · rw [if_neg hA] at hbit
                    have sh := shl_u16 (kk : Int) hk0 (by omega)
                    rw [Int.toNat_natCast] at sh
                    have hwr2 := wrap_u16 (BitVec.twoPow 16 kk)
                    have hor := or_u16 (maskAt mk i) (BitVec.twoPow 16 kk)
                    have HA := As.mk hA
                    clear hA
                    generalize maskAt mk i ||| BitVec.twoPow 16 kk = uu at *
                    generalize BitVec.twoPow 16 kk = TT at *
                    generalize maskCnt (maskAt mk i) = ct at *
                    generalize hmi : (maskAt mk i).toNat = mi at *
                    clear hmi
                    generalize (pg g.needs i).2 = dt at *
                    go_wp2
                    go_quiet (fail)
                    obtain ⟨W1, hW1⟩ : ∃ W1 : World, W1 = (wr.alloc (.cells #[.string zs, .int .i64 (kk : Int)] 52)).drewN nq := ⟨_, rfl⟩
                    rw [← hW1]
                    have hb1 : Below wr.heap.size wr W1 := by rw [hW1]; exact below_drewN ((Below.refl _ _).alloc (Nat.le_refl _) _) _
                    have HP1 : As (W1.heap[wr.heap.size]? = some (.cells #[.string zs, .int .i64 (kk : Int)] 52 (0, 0))) := ⟨by rw [hW1]; exact heap_alloc_new wr _⟩
                    have HF1 := As.mk (HFI.o.below hb1)
                    have HB1 := As.mk hb1
                    have v0 : W1.cell? ⟨w3.heap.size, 0, none⟩ = some (.slice (some ⟨gb, 0, none⟩) g.needs.length c) := (hb1.cell (p := ⟨w3.heap.size, 0, none⟩) hstl).trans t0
                    have v1 : W1.cell? ⟨gb, i, none⟩ = some (.int .u16 (mi : Int)) := (hb1.cell (p := ⟨gb, i, none⟩) hgr).trans cg
                    have v2 : W1.frozen? ⟨gb, i, none⟩ = false := (World.frozen?_of_block (hb1.block gb hgr)).trans fg
                    have v3 : W1.cell? ⟨wr.heap.size, 1, none⟩ = some (.int .i64 (kk : Int)) := (cell_of_row _ _ 1 _ _ _ HP1.o).trans rfl
                    have v4 : W1.cell? ⟨w.heap.size, 0, none⟩ = some (.slice (some ad1) g.needs.length c1) := (hb1.cell (p := ⟨w.heap.size, 0, none⟩) hwr).trans g0
                    have v5 : W1.cell? ⟨(ad1.add (i * 2)).block, (ad1.add (i * 2)).off + 1, none⟩ = some (.int .i64 dt) := (hb1.cell (p := ⟨(ad1.add (i * 2)).block, (ad1.add (i * 2)).off + 1, none⟩) (by rw [block_add]; exact hl1)).trans n1
                    clear hW1 hb1 t0 cg fg q0 q1 n1 g0 LK2 c6
                    by_cases hC : dt ≤ (ct : Int)
                    · have dC : decide (dt ≤ (ct : Int)) = true := decide_eq_true hC
                      rw [if_pos (.inr hC)] at HST2
                      go_wp2
                      refine wp_region_quiet_lit (by kernel_rfl) (by kernel_rfl) ?_; (repeat (go_big_quiet_step ((go_at_call 46; exact Calls.quiet_of (ONES.o _))))); refine wpQuiet_nil ?_; intro _ hw'; obtain ⟨nq, hw''⟩ := hw'; subst hw''
                      go_wp2
                      go_roundw
                      case rel =>
                        refine ⟨m + 1, by omega, by go_num, ?_, ⟨by rw [HST2.o]; exact ⟨HLI.o.1, Nat.le_trans HLI.o.2 (by omega)⟩⟩, ?_, HVN⟩
                        · rw [HST2.o]
                          exact ⟨HFI.o.below (below_drewN HB1.o _)⟩
                        · exact ⟨((below_drewN HB1.o _).cell (p := ⟨db, 0, none⟩) hdbl).trans HDC.o⟩
                      case measure => simp [intOf]; omega
                    · have dC : decide (dt ≤ (ct : Int)) = false := decide_eq_false hC
                      rw [if_neg (fun h => h.elim HA.o hC)] at HST2
                      go_wp2
                      refine wp_region_quiet_lit (by kernel_rfl) (by kernel_rfl) ?_; (repeat (go_big_quiet_step ((go_at_call 46; exact Calls.quiet_of (ONES.o _))))); refine wpQuiet_nil ?_; intro _ hw'; obtain ⟨nq, hw''⟩ := hw'; subst hw''
                      go_wp2
                      refine wp_region_drew_tail 10 (by kernel_rfl) (by kernel_rfl) ?_
                      simp only [List.take_succ_cons, List.take_zero, List.drop_succ_cons, List.drop_zero]
                      repeat (go_big_quiet_step (fail))
                      refine wpQuiet_nil ?_
                      rintro _ ⟨q, rfl⟩
                      go_upto_region 22 with (fail)
                      obtain ⟨W4, hW4⟩ : ∃ W4 : World, W4 = (W1.drewN (nq + q)).setCell ⟨gb, i, none⟩ (.int .u16 (uu.toNat : Int)) := ⟨_, rfl⟩
                      rw [← hW4]
                      have HF4 : As (FS w2 w3.heap.size (w3.heap.size + 1) (w3.heap.size + 2) (some ⟨gb, 0, none⟩) g.needs.length c (fw0 g) (!g.index) (devs.take k ++ [d]) (mk.set i uu) ok u11 W4) := ⟨by rw [hW4]; exact HF1.o.put (below_drewN (Below.refl _ _) _) gb i rfl uu⟩
                      have hb4 : ∀ b, b < wr.heap.size + 1 → b ≠ gb → W4.heap[b]? = W1.heap[b]? := fun b hb hne => by rw [hW4]; exact blk_far (w := W1.drewN (nq + q)) hne _
                      have y0 : W4.cell? ⟨db, 0, none⟩ = some (.int .i64 d) := (World.cell?_of_block (hb4 db (by omega) (by omega))).trans ((HB1.o.cell (p := ⟨db, 0, none⟩) hdbl).trans HDC.o)
                      have HP4 := As.mk ((hb4 wr.heap.size (by omega) (by omega)).trans HP1.o)
                      have y1 : W4.cell? ⟨wr.heap.size, 0, none⟩ = some (.string zs) := (cell_of_row _ _ 0 _ _ _ HP4.o).trans rfl
                      have y2 : W4.cell? ⟨wr.heap.size, 1, none⟩ = some (.int .i64 (kk : Int)) := (cell_of_row _ _ 1 _ _ _ HP4.o).trans rfl
                      have hsz4 := HF4.o.s4
                      have hdb4 : db < W4.heap.size := World.block_lt_of_cell? W4 _ y0
                      clear hW4 v0 v1 v2 v3 v4 v5 hb4
                      go_wp2_with (at_builtin; refine app_one kFetch (w3.heap.size + 2) rfl (.tmp 114) (.tmp 118) 45 (.agg #[.int .i64 0, .string ByteArray.empty, .int .i64 0]) 32 rfl Try.underlying45 info_fetch rfl (by decide) u11 ok (d, (zs, (kk : Int))) [.int .i64 d, .string zs, .int .i64 (kk : Int)] rfl (by show Value.slice _ _ _ = _; simp) HF4.o.out (kFetch_mk _ _ (d, (zs, (kk : Int)))) (by omega) (by have := HLI.o.2; omega) (by have := HLI.o.2; omega) ?_; intro x9 w9 HO9 hg9 hat9)
                      go_roundw
                      case rel =>
                        refine ⟨m + 1, by omega, by go_num, ?_, ⟨by rw [HST2.o]; exact ⟨by rw [← hmk]; simp, by have := HLI.o.2; simp; omega⟩⟩, ⟨?_⟩, ⟨fun b hb => ?_⟩⟩
                        · rw [HST2.o]
                          exact ⟨HF4.o.grow HO9 hg9⟩
                        · exact (World.cell?_of_block (hg9.block db hdb4 (fun e => HVN.o db e.symm rfl))).trans y0
                        · rcases hat9 with h9 | ⟨b9, h9, h10⟩
                          · exact HVN.o b (h9 ▸ hb)
                          · rw [h9] at hb
                            injection hb with hb
                            omega
                      case measure => simp [intOf]; omega
              · have e : m = y.pieces.length := by omega
                subst e
                have HE : As (fetTo g.needs (nfOf g) list (ms0 g) devs (k + 1) = fetAcc g.needs (nfOf g) d (ms, out) y.pieces y.pieces.length) := ⟨by rw [HT.o, HFD.o, fetAcc, List.take_length]⟩
                go_wp2
                go_roundw
                case rel =>
                  refine ⟨k + 1, by omega, by go_num, ?_, ⟨by rw [HE.o]; exact ⟨HLI.o.1, Nat.le_trans HLI.o.2 (by omega)⟩⟩⟩
                  rw [HTK.o, HE.o]
                  exact HFI
                case measure => simp [intOf]; omega
      · have e : k = nd := by omega
        subst e
        obtain ⟨Ao, co, rfl, hco, hro⟩ := own_row flat_fetch HF.o.out
        have HRO := As.mk hro
        have hbel := HF.o.bel
        have hsz2 := HW2.o.size
        have s1 := HF.o.s1
        have e2 : k = devs.length := HD.o.1.symm
        have HRQ : As (fetchesP g list devs = (fetTo g.needs (nfOf g) list (ms0 g) devs k).2) := ⟨by rw [HR.o, e2]⟩
        clear hro HF e2
        go_wp2
        rw [Exit.noGoto_ret]
        go_ret2
        rw [HRQ.o]
        refine ⟨_, _, rfl, hco, HRO.o.bound.mono fun b hb => ⟨?_, hb.2⟩, HW2.o.trans (hbel.mono hsz2)⟩
        have := hb.1.1
        omega
  · rw [checkOf_no hv] at CHK ⊢
    have HR : As (fetchesP g list devs = []) := ⟨if_neg hv⟩
    rw [HR.o]
    clear hv HR
    go_enter Try.func19, Try.ntmps19
    go_wp2
    go_step3
    go_wp2_with (go_at_call 31; refine (CHK.o _ HB0.o).mono ?_; rintro e w1 ⟨rfl, hb1⟩)
    rw [Exit.noGoto_ret]
    go_ret2
    exact ⟨_, _, rfl, Nat.le_refl _, Row.nil _ _ _ _, bthen HB0.o hb1 (by simp)⟩
end
end Go.Proofs.Ytlinhckgdfhppaa
