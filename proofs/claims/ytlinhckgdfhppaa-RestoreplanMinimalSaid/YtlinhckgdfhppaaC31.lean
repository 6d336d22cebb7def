/- A part of the proof: what the functions do, and plain laws. -/
import Derived.Test.YtlinhckgdfhppaaC30
namespace Go.Proofs.Ytlinhckgdfhppaa
open Go Go.RowKit Go.Proofs.YtlinhckgdfhppaaK

abbrev nfOf (g : Goal) : ByteArray → Option Nat := needTo g.needs g.needs.length
abbrev ms0 (g : Goal) : List (BitVec 16) := giveM (nfOf g) (List.replicate g.needs.length 0) g.pieces
abbrev fw0 (g : Goal) : Nat → BitVec 64 := addWs zeroW g.shares
/-- The program's sum of what lacks with a set of the sorted holdings. -/
def psum (g : Goal) (list : List Hold) (s : Nat) : Int := sumOf g.needs g.thr (nfOf g) list.length (sortH list) (ms0 g) (fw0 g) (!g.index) s
/-- A problem of the goal and the holdings lies at pb. -/
def PIn (w : World) (pb : Nat) (g : Goal) (list : List Hold) : Prop := ∃ mb A1 c1 A cl B c, ProbIn w pb mb g.needs g.thr A1 c1 (nfOf g) A list.length cl (sortH list) B c (ms0 g) (fw0 g) (!g.index)
theorem PIn.below {w w' : World} {pb : Nat} {g : Goal} {list : List Hold} (h : PIn w pb g list) (hb : Below w.heap.size w w') : PIn w' pb g list := by
  obtain ⟨mb, A1, c1, A, cl, B, c, hp⟩ := h
  exact ⟨mb, A1, c1, A, cl, B, c, hp.below hb⟩
theorem PIn.lt {w : World} {pb : Nat} {g : Goal} {list : List Hold} (h : PIn w pb g list) : pb < w.heap.size := by
  obtain ⟨mb, A1, c1, A, cl, B, c, hp⟩ := h
  exact World.block_lt_of_cell? w _ hp.h0
theorem Valid.nodup {g : Goal} {list : List Hold} (h : Valid g list) : (list.map (·.dev)).Nodup := h.2.2.2.2.2.2.2.2
theorem Valid.ok {g : Goal} {list : List Hold} (h : Valid g list) : ProbOk g.needs g.thr (nfOf g) list.length (sortH list) := by
  obtain ⟨h1, h2, h3, h4, h5, h6, h7, h8⟩ := h
  refine ⟨needTo_lt g.needs _, h1, h6, fun n hn => ?_, by omega, fun x hx => ?_⟩
  · have := h7.1 n hn
    omega
  · have hm := (sortH_perm list).mem_iff.1 hx
    have := h8.1 x hm
    exact ⟨this.2.2.1.1, this.2.2.2.1⟩
theorem sortH_len (list : List Hold) : (sortH list).length = list.length := (sortH_perm list).length_eq
section
variable {w : World} {pb : Nat} {g : Goal} {list : List Hold}
theorem sufficesQ (h : PIn w pb g list) (hv : Valid g list) (s : Nat) (hs : s < 18446744073709551616) (b : Bool) (hb : (psum g list s == 0) = b) :
    Calls Try.prog 39 #[.pointer (some ⟨pb, 0, none⟩), .int .u64 (s : Int)] w fun e w' => e = .returned (.bool b) ∧ Below w.heap.size w w' := by
  obtain ⟨mb, A1, c1, A, cl, B, c, hp⟩ := h
  exact sufficesP hp hv.ok s hs b hb
theorem pickQ (h : PIn w pb g list) (hv : Valid g list) (s : Nat) (hs : s < 18446744073709551616) :
    Calls Try.prog 37 #[.pointer (some ⟨pb, 0, none⟩), .int .u64 (s : Int)] w fun e w' => ∃ v, e = .returned v ∧ Own (Kn.int .i64) 3 w' w.heap.size v (pickTo (sortH list) s list.length) ∧ Below w.heap.size w w' := by
  obtain ⟨mb, A1, c1, A, cl, B, c, hp⟩ := h
  exact pick_any pb A list.length cl (sortH list) s _ w hp.h5 hp.hR hv.ok.hnl hs
theorem setAllQ (h : PIn w pb g list) (hv : Valid g list) :
    Calls Try.prog 60 #[.pointer (some ⟨pb, 0, none⟩)] w fun e w' => e = .returned (.int .u64 ((2 ^ list.length - 1 : Nat) : Int)) ∧ w = w' := by
  obtain ⟨mb, A1, c1, A, cl, B, c, hp⟩ := h
  exact setAll_any pb A list.length cl w hp.h5 hv.ok.hnl
theorem toSetQ (h : PIn w pb g list) (hv : Valid g list) (B : Option Addr) (nd cd : Nat) (devs : List Int) (ok : Nat → Prop) (hD : Row (Kn.int .i64) w ok B nd devs) :
    Calls Try.prog 55 #[.pointer (some ⟨pb, 0, none⟩), .slice B nd cd] w fun e w' => e = .returned (.int .u64 (setTo (sortH list) devs list.length : Nat)) ∧ Below w.heap.size w w' := by
  obtain ⟨mb, A1, c1, A, cl, B', c, hp⟩ := h
  exact toSet_any pb A list.length cl (sortH list) B nd cd devs _ w hp.h5 (hp.hR.mono fun _ _ => trivial) (hD.mono fun _ _ => trivial) hv.ok.hnl
end
theorem newProblemQ (g : Goal) (A1 : Option Addr) (c1 : Nat) (A2 : Option Addr) (c2 : Nat) (A3 : Option Addr) (c3 : Nat) (A4 : Option Addr) (c4 : Nat) (list : List Hold) (w : World)
    (hg : GoalIn w (fun k => k < w.heap.size) g A1 c1 A2 c2 A3 c3) (hl : Row kHold w (fun k => k < w.heap.size) A4 list.length list) (hv : Valid g list) :
    Calls Try.prog 42 #[.agg (goalCells g A1 c1 A2 c2 A3 c3), .slice A4 list.length c4] w fun e w' => ∃ pb, e = .returned (.pointer (some ⟨pb, 0, none⟩)) ∧ PIn w' pb g list ∧ Below w.heap.size w w' :=
  (newProblem_any g A1 c1 A2 c2 A3 c3 A4 c4 list w hg hl hv.1 hv.2.2.2.2.2.1 hv.nodup hv.2.2.2.1.1 hv.2.2.2.2.1.1).mono fun e w' ⟨pb, mb, A, cl, B, c, he, hp, hb⟩ => ⟨pb, he, ⟨mb, A1, c1, A, cl, B, c, hp⟩, hb⟩
theorem pow12 {n : Nat} (h : n ≤ 12) : 2 ^ n - 1 < 18446744073709551616 := by
  have h1 : 2 ^ n ≤ 2 ^ 12 := Nat.pow_le_pow_right (by omega) h
  omega
/-- What possible answers. -/
def possOf (g : Goal) (list : List Hold) : Int := if Valid g list then (if psum g list (2 ^ list.length - 1) = 0 then 0 else 10) else 1
theorem possOf_no {g : Goal} {list : List Hold} (h : ¬ Valid g list) : possOf g list = 1 := if_neg h
theorem possOf_short {g : Goal} {list : List Hold} (h : Valid g list) (hp : psum g list (2 ^ list.length - 1) ≠ 0) : possOf g list = 10 := by rw [possOf, if_pos h, if_neg hp]
theorem possOf_yes {g : Goal} {list : List Hold} (h : Valid g list) (hp : psum g list (2 ^ list.length - 1) = 0) : possOf g list = 0 := by rw [possOf, if_pos h, if_pos hp]
def PossPost (g : Goal) (list : List Hold) (w : World) (v : Value) (r : Int) (w' : World) : Prop := r = possOf g list ∧ (r ≠ 0 → v = .pointer none) ∧ (r = 0 → Valid g list ∧ psum g list (2 ^ list.length - 1) = 0 ∧ ∃ pb, v = .pointer (some ⟨pb, 0, none⟩) ∧ PIn w' pb g list) ∧ Below w.heap.size w w'
set_option maxRecDepth 100000 in
set_option maxHeartbeats 1000000 in
theorem possible_any (g : Goal) (A1 : Option Addr) (c1 : Nat) (A2 : Option Addr) (c2 : Nat) (A3 : Option Addr) (c3 : Nat) (A4 : Option Addr) (c4 : Nat) (list : List Hold) (w : World)
    (hg : GoalIn w (fun k => k < w.heap.size) g A1 c1 A2 c2 A3 c3) (hl : Row kHold w (fun k => k < w.heap.size) A4 list.length list) :
    Calls Try.prog 36 #[.agg (goalCells g A1 c1 A2 c2 A3 c3), .slice A4 list.length c4] w fun e w' => ∃ v r, e = .returned (.tuple #[v, .int .i64 r]) ∧ PossPost g list w v r w' := by
  have HG := As.mk hg
  have HL := As.mk hl
  have CHK : As (∀ W : World, Below w.heap.size w W → Calls Try.prog 31 #[.agg (goalCells g A1 c1 A2 c2 A3 c3), .slice A4 list.length c4] W fun e w' => e = .returned (.int .i64 (checkOf g list)) ∧ Below W.heap.size W w') := ⟨fun W hW => check_any g A1 c1 A2 c2 A3 c3 A4 list.length c4 list W _ (HG.o.below hW) (HL.o.below hW)⟩
  have HB0 : As (Below w.heap.size w (w.alloc (.cells (goalCells g A1 c1 A2 c2 A3 c3) 26))) := ⟨(Below.refl _ _).alloc (Nat.le_refl _) _⟩
  have BOX : As (∀ W : World, Below (w.alloc (.cells (goalCells g A1 c1 A2 c2 A3 c3) 26)).heap.size (w.alloc (.cells (goalCells g A1 c1 A2 c2 A3 c3) 26)) W → ∀ i, W.cell? ⟨w.heap.size, i, none⟩ = (goalCells g A1 c1 A2 c2 A3 c3)[i]?) := ⟨fun W hW i => (hW.cell (p := ⟨w.heap.size, i, none⟩) (by simp)).trans (cell_of_row _ _ i _ _ _ (heap_alloc_new w _))⟩
  clear hg hl
  by_cases hv : Valid g list
  · rw [checkOf_yes hv] at CHK
    have NEW : As (∀ W : World, Below w.heap.size w W → Calls Try.prog 42 #[.agg (goalCells g A1 c1 A2 c2 A3 c3), .slice A4 list.length c4] W fun e w' => ∃ pb, e = .returned (.pointer (some ⟨pb, 0, none⟩)) ∧ PIn w' pb g list ∧ Below W.heap.size W w') := ⟨fun W hW => newProblemQ g A1 c1 A2 c2 A3 c3 A4 c4 list W ⟨(HG.o.n.below hW).mono fun k hk => Nat.lt_of_lt_of_le hk hW.size, HG.o.cn, (HG.o.p.below hW).mono fun k hk => Nat.lt_of_lt_of_le hk hW.size, HG.o.cp, (HG.o.s.below hW).mono fun k hk => Nat.lt_of_lt_of_le hk hW.size, HG.o.cs⟩ ((HL.o.below hW).mono fun k hk => Nat.lt_of_lt_of_le hk hW.size) hv⟩
    have HV := As.mk hv
    have h12 := pow12 hv.ok.hnl
    obtain ⟨b, hb⟩ : ∃ b, (psum g list (2 ^ list.length - 1) == 0) = b := ⟨_, rfl⟩
    have HBQ := As.mk hb
    have ALL : As (∀ (W : World) (pb : Nat), PIn W pb g list → Calls Try.prog 60 #[.pointer (some ⟨pb, 0, none⟩)] W fun e w' => e = .returned (.int .u64 ((2 ^ list.length - 1 : Nat) : Int)) ∧ W = w') := ⟨fun W pb h => setAllQ h HV.o⟩
    have SUF : As (∀ (W : World) (pb : Nat), PIn W pb g list → Calls Try.prog 39 #[.pointer (some ⟨pb, 0, none⟩), .int .u64 ((2 ^ list.length - 1 : Nat) : Int)] W fun e w' => e = .returned (.bool b) ∧ Below W.heap.size W w') := ⟨fun W pb h => sufficesQ h HV.o _ h12 b HBQ.o⟩
    generalize hf : 2 ^ list.length - 1 = full at *
    have HF := As.mk hf
    clear hv hb hf
    cases b
    all_goals
      go_enter Try.func36, Try.ntmps36
      go_wp2_with (first
        | (go_at_call 31; refine (CHK.o _ HB0.o).mono ?_; rintro e w1 ⟨rfl, hb1⟩; have B0 := BOX.o w1 hb1; have b0 : w1.cell? ⟨w.heap.size, 0, none⟩ = some (.slice A1 g.needs.length c1) := B0 0; have b1 : w1.cell? ⟨w.heap.size, 1, none⟩ = some (.int .i64 g.thr) := B0 1; have b2 : w1.cell? ⟨w.heap.size, 2, none⟩ = some (.bool g.index) := B0 2; have b3 : w1.cell? ⟨w.heap.size, 3, none⟩ = some (.slice A2 g.pieces.length c2) := B0 3; have b4 : w1.cell? ⟨w.heap.size, 4, none⟩ = some (.slice A3 g.shares.length c3) := B0 4)
        | (go_at_call 42; refine (NEW.o _ (bthen HB0.o hb1 (by simp))).mono ?_; rintro e w2 ⟨pb, rfl, hp2, hb2⟩)
        | (go_at_call 60; refine (ALL.o _ _ hp2).mono ?_; rintro e w3 ⟨rfl, rfl⟩)
        | (go_at_call 39; refine (SUF.o _ _ hp2).mono ?_; rintro e w4 ⟨rfl, hb4⟩))
      go_ret2
    · refine ⟨_, _, rfl, (possOf_short HV.o (fun e => ?_)).symm, fun _ => rfl, fun h => (by cases h), bthen (bthen (bthen HB0.o hb1 (by simp)) hb2 ?_) hb4 ?_⟩
      · have := HBQ.o
        rw [← HF.o, e] at this
        cases this
      · have := hb1.size
        simp at this
        omega
      · have h1 := hb1.size
        have h2 := hb2.size
        simp at h1
        omega
    · have hp : psum g list (2 ^ list.length - 1) = 0 := by
        have := HBQ.o
        rw [← HF.o] at this
        exact of_decide_eq_true this
      refine ⟨_, _, rfl, (possOf_yes HV.o hp).symm, fun h => absurd rfl h, fun _ => ⟨HV.o, hp, pb, rfl, hp2.below hb4⟩, bthen (bthen (bthen HB0.o hb1 (by simp)) hb2 ?_) hb4 ?_⟩
      · have := hb1.size
        simp at this
        omega
      · have h1 := hb1.size
        have h2 := hb2.size
        simp at h1
        omega
  · rw [checkOf_no hv] at CHK
    have HV := As.mk hv
    clear hv
    go_enter Try.func36, Try.ntmps36
    go_wp2_with (go_at_call 31; refine (CHK.o _ HB0.o).mono ?_; rintro e w1 ⟨rfl, hb1⟩)
    go_ret2
    exact ⟨_, _, rfl, (possOf_no HV.o).symm, fun _ => rfl, fun h => (by cases h), bthen HB0.o hb1 (by simp)⟩
end Go.Proofs.Ytlinhckgdfhppaa
