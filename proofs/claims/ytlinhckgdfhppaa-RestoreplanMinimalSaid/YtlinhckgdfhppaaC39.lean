/- A part of the proof: what the functions do, and plain laws. -/
import Derived.Test.YtlinhckgdfhppaaC38
namespace Go.Proofs.Ytlinhckgdfhppaa
open Go Go.RowKit Go.Proofs.YtlinhckgdfhppaaK

def lenV : Value → Nat
  | .slice _ n _ => n
  | _ => 0
/-- What Greedy answers. -/
def IsGreedy (g : Goal) (list : List Hold) (out : List Int) : Prop := (possOf g list = 0 → ∃ m, psum g list (grTo g list m).1 = 0 ∧ out = (grTo g list m).2) ∧ (possOf g list ≠ 0 → out = [])
section
variable (g : Goal) (A1 : Option Addr) (c1 : Nat) (A2 : Option Addr) (c2 : Nat) (A3 : Option Addr) (c3 : Nat) (A4 : Option Addr) (c4 : Nat) (list : List Hold) (w : World)
set_option maxRecDepth 100000 in
set_option maxHeartbeats 2000000 in
theorem greedy_any (hg : GoalIn w (fun k => k < w.heap.size) g A1 c1 A2 c2 A3 c3) (hl : Row kHold w (fun k => k < w.heap.size) A4 list.length list) :
    Calls Try.prog 26 #[.agg (goalCells g A1 c1 A2 c2 A3 c3), .slice A4 list.length c4] w fun e w' => ∃ A c out, e = .returned (.tuple #[.slice A out.length c, .int .i64 (possOf g list)]) ∧ IsGreedy g list out ∧ out.length ≤ c ∧ Row (Kn.int .i64) w' (fun k => w.heap.size ≤ k ∧ k < w'.heap.size) A out.length out ∧ Below w.heap.size w w' := by
  have hB0 : Below w.heap.size w (w.alloc (.cells (goalCells g A1 c1 A2 c2 A3 c3) 26)) := (Below.refl _ _).alloc (Nat.le_refl _) _
  by_cases h0 : possOf g list = 0
  · have POS := As.mk (possYes g A1 c1 A2 c2 A3 c3 A4 c4 list w hg hl h0 _ hB0)
    have HB0 := As.mk hB0
    have hv := (possOf_zero h0).1
    have hf := (possOf_zero h0).2
    have HV := As.mk hv
    have HZ := As.mk hf
    have h12 := hv.ok.hnl
    have h212 : 2 ^ list.length ≤ 2 ^ 12 := Nat.pow_le_pow_right (by omega) h12
    have HIG : As (∀ out : List Int, (∃ m, psum g list (grTo g list m).1 = 0 ∧ out = (grTo g list m).2) → IsGreedy g list out) := ⟨fun out h => ⟨fun _ => h, fun h1 => absurd h0 h1⟩⟩
    rw [h0]
    have SUF : As (∀ (W : World) (pb s : Nat) (b : Bool), PIn W pb g list → s < 18446744073709551616 → (psum g list s == 0) = b → Calls Try.prog 39 #[.pointer (some ⟨pb, 0, none⟩), .int .u64 (s : Int)] W fun e w' => e = .returned (.bool b) ∧ Below W.heap.size W w') := ⟨fun W pb s b h hs hb => sufficesQ h HV.o s hs b hb⟩
    have NEXT : As (∀ (W : World) (pb xb sb s : Nat), PIn W pb g list → s < 2 ^ list.length → W.cell? ⟨xb, 0, none⟩ = some (.pointer (some ⟨pb, 0, none⟩)) → W.cell? ⟨sb, 0, none⟩ = some (.int .u64 (s : Int)) → Calls Try.prog 56 #[.pointer (some ⟨xb, 0, none⟩), .pointer (some ⟨sb, 0, none⟩)] W fun e w' => e = .returned (.int .i64 (nxt g list s : Nat)) ∧ Below W.heap.size W w') := ⟨fun W pb xb sb s h hs hxc hsc => next_any pb xb sb s W h HV.o hs hxc hsc⟩
    clear hg hl hB0 hv h0 hf
    go_enter Try.func26, Try.ntmps26
    go_wp2_with (go_at_call 36; refine POS.o.mono ?_; rintro e w1 ⟨pb, rfl, hp1, hb1⟩)
    have hpl := hp1.lt
    have s1 := hb1.size
    simp at s1
    have HB1 : As (Below w.heap.size w w1) := ⟨bthen HB0.o hb1 (by simp)⟩
    obtain ⟨mb, B1, d1, Ah, ch, B2, d2, hprob⟩ := hp1
    have HP := As.mk (show PIn w1 pb g list from ⟨mb, B1, d1, Ah, ch, B2, d2, hprob⟩)
    have HH5 := As.mk hprob.h5
    have HHR := As.mk hprob.hR
    clear hprob hb1 POS
    obtain ⟨W2, hW2⟩ : ∃ W2 : World, W2 = (w1.alloc (.cells #[.pointer (some ⟨pb, 0, none⟩)] 81)).alloc (.cells #[.int .u64 0] 85) := ⟨_, rfl⟩
    rw [← hW2]
    have e1 : (w1.alloc (.cells #[.pointer (some ⟨pb, 0, none⟩)] 81)).heap.size = w1.heap.size + 1 := by simp
    have HX2 : As (W2.heap[w1.heap.size]? = some (.cells #[.pointer (some ⟨pb, 0, none⟩)] 81 (0, 0))) := ⟨by rw [hW2]; exact (Below.heap_alloc _ _ _ (by omega)).trans (heap_alloc_new w1 _)⟩
    have HS2 : As (W2.heap[w1.heap.size + 1]? = some (.cells #[.int .u64 0] 85 (0, 0))) := ⟨by rw [hW2, ← e1]; exact heap_alloc_new _ _⟩
    have HBW : As (Below w1.heap.size w1 W2) := ⟨by rw [hW2]; exact ((Below.refl _ _).alloc (Nat.le_refl _) _).alloc (by omega) _⟩
    have hs2 : W2.heap.size = w1.heap.size + 2 := by rw [hW2]; simp
    clear hW2 e1
    go_loopw [8] (fun v wr => ∃ m : Nat, As (Own (Kn.int .i64) 3 wr (w1.heap.size + 2) v (grTo g list m).2) ∧ As (wr.heap[w1.heap.size]? = some (.cells #[.pointer (some ⟨pb, 0, none⟩)] 81 (0, 0))) ∧ As (wr.heap[w1.heap.size + 1]? = some (.cells #[.int .u64 ((grTo g list m).1 : Int)] 85 (0, 0))) ∧
      As (Below w1.heap.size w1 wr) ∧ As ((grTo g list m).2.length = m) ∧ w1.heap.size + 2 ≤ wr.heap.size) (fun v _ => 66001 - lenV v)
    case atStart => exact ⟨0, ⟨Own.nil _ _ _ _⟩, HX2, HS2, HBW, ⟨rfl⟩, by omega⟩
    case round =>
      obtain ⟨m, HO, HX, HS, HB, HLN, hsz⟩ := hrel
      obtain ⟨hs, _⟩ := grTo_lt HV.o HZ.o m
      have HM := As.mk (grTo_sum HV.o HZ.o m)
      have HN := As.mk (nxt_less HV.o HZ.o (grTo g list m).1)
      have HG := As.mk (show grTo g list (m + 1) = if psum g list (grTo g list m).1 = 0 then grTo g list m else ((grTo g list m).1 ||| 2 ^ nxt g list (grTo g list m).1, (grTo g list m).2 ++ [(hgt (sortH list) (nxt g list (grTo g list m).1)).dev]) from rfl)
      have HOUT := As.mk fun (h : psum g list (grTo g list m).1 = 0) => HIG.o (grTo g list m).2 ⟨m, h, rfl⟩
      have hnn := (psum_bd HV.o (grTo g list m).1).1
      generalize grTo g list m = r at *
      obtain ⟨s, acc⟩ := r
      simp only at HO HX HS HLN HM HN HG HOUT hs hnn
      obtain ⟨Ao, co, rfl, hco, hro⟩ := own_row (flat_int .i64) HO.o
      have HRO := As.mk hro
      obtain ⟨b, hb⟩ : ∃ b, (psum g list s == 0) = b := ⟨_, rfl⟩
      have HBQ := As.mk hb
      have xl := blk_lt HX.o
      have sl := blk_lt HS.o
      have x0 : wr.cell? ⟨w1.heap.size, 0, none⟩ = some (.pointer (some ⟨pb, 0, none⟩)) := (cell_of_row _ _ 0 _ _ _ HX.o).trans rfl
      have s0 : wr.cell? ⟨w1.heap.size + 1, 0, none⟩ = some (.int .u64 (s : Int)) := (cell_of_row _ _ 0 _ _ _ HS.o).trans rfl
      have SUF1 := As.mk (SUF.o wr pb s b (HP.o.below HB.o) (by omega) hb)
      clear hb hro
      cases b
      · have hne : psum g list s ≠ 0 := by
          intro e
          have := HBQ.o
          rw [e] at this
          cases this
        obtain ⟨hn1, hn2⟩ := HN.o hne
        have hm66 : m ≤ 66000 := by have := HM.o hne; omega
        rw [if_neg hne] at HG
        have NX : As (∀ W : World, Below wr.heap.size wr W → Calls Try.prog 56 #[.pointer (some ⟨w1.heap.size, 0, none⟩), .pointer (some ⟨w1.heap.size + 1, 0, none⟩)] W fun e w' => e = .returned (.int .i64 (nxt g list s : Nat)) ∧ Below W.heap.size W w' ∧ Below wr.heap.size wr w' ∧ w'.cell? ⟨w1.heap.size, 0, none⟩ = some (.pointer (some ⟨pb, 0, none⟩)) ∧ w'.cell? ⟨w1.heap.size + 1, 0, none⟩ = some (.int .u64 (s : Int)) ∧ w'.frozen? ⟨w1.heap.size + 1, 0, none⟩ = false) := ⟨fun W hW => (NEXT.o W pb w1.heap.size (w1.heap.size + 1) s (HP.o.below (bthen HB.o hW (Nat.le_refl _))) hs ((hW.cell (p := ⟨w1.heap.size, 0, none⟩) xl).trans x0) ((hW.cell (p := ⟨w1.heap.size + 1, 0, none⟩) sl).trans s0)).mono fun e w' ⟨he, hb⟩ => by
          have hww := bthen hW hb (Nat.le_refl _)
          exact ⟨he, hb, hww, (hww.cell (p := ⟨w1.heap.size, 0, none⟩) xl).trans x0, (hww.cell (p := ⟨w1.heap.size + 1, 0, none⟩) sl).trans s0, blk_frozen ((hww.block _ sl).trans HS.o)⟩⟩
        obtain ⟨ad, P1, cP1, S1, cS1, eA, had, hadl, pd, _⟩ := rowHold HHR.o (nxt g list s) hn1
        subst eA
        have h2n : 2 ^ nxt g list s ≤ 2 ^ 12 := Nat.pow_le_pow_right (by omega) (by omega)
        have e1 : (2 : Int) ^ nxt g list s = ((2 ^ nxt g list s : Nat) : Int) := by simp
        have e4 := wrap64 (2 ^ nxt g list s) (by omega)
        have e3 := or_nat64 s (2 ^ nxt g list s) (by omega) (by omega)
        have hi64 : ((nxt g list s : Nat) : Int) ≤ 64 := by omega
        have hi0 : (0 : Int) ≤ ((nxt g list s : Nat) : Int) := by omega
        have hi1 : ((nxt g list s : Nat) : Int) < (list.length : Int) := by omega
        clear hs hnn hn2 h2n HN HM HOUT
        generalize nxt g list s = i at *
        generalize s ||| 2 ^ i = s2 at *
        generalize 2 ^ i = p at *
        generalize hgt (sortH list) i = y at *
        go_wp2_with (first
          | (go_at_call 39; refine SUF1.o.mono ?_; rintro e w2 ⟨rfl, hb2⟩)
          | (go_at_call 56; refine (NX.o _ hb2).mono ?_; rintro e w3 ⟨rfl, hb3, hbb3, x3, s3, f3⟩))
        refine wp_region_drew_tail 4 (by kernel_rfl) (by kernel_rfl) ?_
        simp only [List.take_succ_cons, List.take_zero, List.drop_succ_cons, List.drop_zero]
        repeat (go_big_quiet_step (fail))
        refine wpQuiet_nil ?_
        rintro _ ⟨q, rfl⟩
        go_upto_region 10 with (fail)
        obtain ⟨W4, hW4⟩ : ∃ W4 : World, W4 = (w3.drewN q).setCell ⟨w1.heap.size + 1, 0, none⟩ (.int .u64 (s2 : Int)) := ⟨_, rfl⟩
        rw [← hW4]
        have hs3 := hbb3.size
        have hg4 : (w3.drewN q).grownBy W4 (some (w1.heap.size + 1)) := by rw [hW4]; exact grownBy_set (w3.drewN q) ⟨w1.heap.size + 1, 0, none⟩ _
        have hs4 : wr.heap.size ≤ W4.heap.size := Nat.le_trans hs3 hg4.size
        have b4 : ∀ k, k < wr.heap.size → k ≠ w1.heap.size + 1 → W4.heap[k]? = wr.heap[k]? := fun k hk hne => (hg4.block k (show k < w3.heap.size by omega) (fun e => hne (by injection e))).trans (hbb3.block k hk)
        have HO3 : OwnK (fun _ => True) (Kn.int .i64) 3 (w3.drewN q) (w1.heap.size + 2) (.slice Ao acc.length co) acc := (HO.o.below hbb3).below (below_drewN (Below.refl _ _) q)
        have HO4 := As.mk (HO3.flat (flat_int .i64) hg4 (.inr fun e => by have := (HO.o.lt _ e).1; omega))
        have HX4 := As.mk ((b4 _ xl (by omega)).trans HX.o)
        have HS4 : As (W4.heap[w1.heap.size + 1]? = some (.cells #[.int .u64 (s2 : Int)] 85 (0, 0))) := ⟨by rw [hW4]; exact blk_set ((hbb3.block _ sl).trans HS.o) _⟩
        have HB4 : As (Below w1.heap.size w1 W4) := ⟨⟨hg4.os.trans (hbb3.os.trans HB.o.os), hg4.tape.trans (hbb3.tape.trans HB.o.tape), hg4.output.trans (hbb3.output.trans HB.o.output), by have := HB.o.size; omega, fun k hk => (b4 k (by omega) (by omega)).trans (HB.o.block k hk)⟩⟩
        have x4 : W4.cell? ⟨w1.heap.size, 0, none⟩ = some (.pointer (some ⟨pb, 0, none⟩)) := (cell_of_row _ _ 0 _ _ _ HX4.o).trans rfl
        have q5 : W4.cell? ⟨pb, 5, none⟩ = some (.slice (some ad) list.length ch) := (HB4.o.cell (p := ⟨pb, 5, none⟩) hpl).trans HH5.o
        have pd4 : W4.cell? (ad.add (i * 4)) = some (.int .i64 y.dev) := (HB4.o.cell (p := ad.add (i * 4)) (by rw [block_add]; exact hadl)).trans pd
        have hal : acc.length ≤ 66000 := by have := HLN.o; omega
        clear hW4 hg4 HO3 hbb3 hb3 x3 s3 f3 hb2 HO hs3 HX HS HB
        go_wp2_with (at_builtin; refine app_one (Kn.int .i64) (w1.heap.size + 2) rfl (.tmp 32) (.tmp 41) 24 (.int .i64 0) 8 rfl Try.underlying24 info_int rfl (by decide) (.slice Ao acc.length co) acc y.dev [.int .i64 y.dev] rfl (by show Value.slice _ _ _ = _; simp) HO4.o rfl (by omega) (by omega) (by omega) ?_; intro v1 w7 HO7 hg7 hat7)
        go_roundw
        case rel =>
          have hb7 := HO4.o.base_le hg7 (Nat.le_refl _) (by omega)
          refine ⟨m + 1, ⟨by rw [HG.o]; exact HO7⟩, ⟨(hb7.block _ (by omega)).trans HX4.o⟩, ⟨by rw [HG.o]; exact (hb7.block _ (by omega)).trans HS4.o⟩, ⟨HB4.o.trans (hb7.mono (by omega))⟩, ⟨by rw [HG.o, List.length_append, List.length_singleton, HLN.o]⟩, by have := hb7.size; omega⟩
        case measure =>
          obtain ⟨A7, c7, rfl, _, _⟩ := HO7.shape
          simp only [lenV, List.length_append, List.length_singleton]
          omega
      · have he : psum g list s = 0 := of_decide_eq_true HBQ.o
        have HIS := As.mk (HOUT.o he)
        clear he HG HN HM HOUT hnn
        go_wp2_with (go_at_call 39; refine SUF1.o.mono ?_; rintro e w2 ⟨rfl, hb2⟩)
        go_ret2
        have hsz1 := HB1.o.size
        have hsz2 := hb2.size
        refine ⟨_, _, acc, rfl, HIS.o, hco, (HRO.o.below hb2).bound.mono fun k hk => ⟨?_, hk.2⟩, bthen (HB1.o.trans (HB.o.mono (by omega))) hb2 (by omega)⟩
        have := hk.1.1
        omega
  · have POS := As.mk (possNo g A1 c1 A2 c2 A3 c3 A4 c4 list w hg hl h0 _ hB0)
    have HB0 := As.mk hB0
    have HIG : As (IsGreedy g list []) := ⟨fun h => absurd h h0, fun _ => rfl⟩
    have d0 : (possOf g list == 0) = false := by simp [h0]
    clear hg hl hB0
    generalize possOf g list = r at *
    go_enter Try.func26, Try.ntmps26
    go_wp2_with (go_at_call 36; refine POS.o.mono ?_; rintro e w1 ⟨rfl, hb1⟩)
    go_ret2
    exact ⟨_, _, [], rfl, HIG.o, Nat.le_refl _, Row.nil _ _ _ _, (bthen HB0.o hb1 (by simp)).alloc (by have := hb1.size; simp at this; omega) _⟩
end
end Go.Proofs.Ytlinhckgdfhppaa
