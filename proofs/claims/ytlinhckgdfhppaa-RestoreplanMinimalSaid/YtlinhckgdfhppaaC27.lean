/- A part of the proof: what the functions do, and plain laws. -/
import Derived.Test.YtlinhckgdfhppaaC26
namespace Go.Proofs.Ytlinhckgdfhppaa
open Go Go.RowKit Go.Proofs.YtlinhckgdfhppaaK

theorem row_masks {w : World} {base : Nat} {B : Option Addr} {n c : Nat} {ms : List (BitVec 16)} (h : w.ownsRow base 110 1 (.slice B n c) n (ms.map mval)) : ms.length = n ∧ Row kMask w (fun _ => True) B n ms := by
  have hl : ms.length = n := by simpa using h.1
  subst hl
  have ho : OwnK (fun _ => True) kMask 110 w base (.slice B ms.length c) ms := own_scalar h
  obtain ⟨A, c', e, _, hr⟩ := ho.shape
  injection e with e1 e2 e3
  subst e1
  exact ⟨rfl, hr.mono fun _ _ => trivial⟩

/-- A problem in memory: the goal's needs and threshold, the sorted holdings, the need map, the start. -/
structure ProbIn (w : World) (pb mb : Nat) (needs : List Need) (thr : Int) (A1 : Option Addr) (c1 : Nat) (nf : ByteArray → Option Nat) (A : Option Addr) (nl cl : Nat) (list : List Hold) (B0 : Option Addr) (c0 : Nat) (ms : List (BitVec 16)) (f : Nat → BitVec 64) (ix : Bool) : Prop where
  h0 : w.cell? ⟨pb, 0, none⟩ = some (.slice A1 needs.length c1)
  h1 : w.cell? ⟨pb, 1, none⟩ = some (.int .i64 thr)
  h5 : w.cell? ⟨pb, 5, none⟩ = some (.slice A nl cl)
  h6 : w.cell? ⟨pb, 6, none⟩ = some (.map (some mb))
  h7 : w.cell? ⟨pb, 7, none⟩ = some (.slice B0 needs.length c0)
  hw : ∀ i, i < 4 → w.cell? ⟨pb, 8 + i, none⟩ = some (.int .u64 ((f i).toNat : Int))
  hi : w.cell? ⟨pb, 12, none⟩ = some (.bool ix)
  hN : Row kPiece w (fun k => k < w.heap.size) A1 needs.length needs
  hmap : MapAt w mb Value.string eIdx nf
  hR : Row kHold w (fun k => k < w.heap.size) A nl list
  hM : Row kMask w (fun k => k < w.heap.size) B0 needs.length ms
/-- What is known of a problem's data. -/
structure ProbOk (needs : List Need) (thr : Int) (nf : ByteArray → Option Nat) (nl : Nat) (list : List Hold) : Prop where
  hnf : ∀ s i, nf s = some i → i < needs.length
  hn : needs.length ≤ 64
  hnl : nl ≤ 12
  hd : ∀ n ∈ needs, 0 ≤ n.2 ∧ n.2 ≤ 1000
  ht : 0 ≤ thr ∧ thr ≤ 1000
  hp : ∀ h ∈ list, (∀ p ∈ h.pieces, 0 ≤ p.2 ∧ p.2 < 16) ∧ (∀ x ∈ h.shares, 1 ≤ x ∧ x ≤ 255)
theorem ProbIn.below {w w' : World} {pb mb : Nat} {needs : List Need} {thr : Int} {A1 : Option Addr} {c1 : Nat} {nf : ByteArray → Option Nat} {A : Option Addr} {nl cl : Nat} {list : List Hold} {B0 : Option Addr} {c0 : Nat} {ms : List (BitVec 16)} {f : Nat → BitVec 64} {ix : Bool}
    (h : ProbIn w pb mb needs thr A1 c1 nf A nl cl list B0 c0 ms f ix) (hb : Below w.heap.size w w') : ProbIn w' pb mb needs thr A1 c1 nf A nl cl list B0 c0 ms f ix := by
  have hp := World.block_lt_of_cell? w _ h.h0
  have e : ∀ i, w'.cell? ⟨pb, i, none⟩ = w.cell? ⟨pb, i, none⟩ := fun i => hb.cell (p := ⟨pb, i, none⟩) hp
  have hs := hb.size
  exact ⟨(e 0).trans h.h0, (e 1).trans h.h1, (e 5).trans h.h5, (e 6).trans h.h6, (e 7).trans h.h7, fun i hi => (e _).trans (h.hw i hi), (e 12).trans h.hi, (h.hN.below hb).mono fun k hk => by omega, h.hmap.below hb h.hmap.lt, (h.hR.below hb).mono fun k hk => by omega, (h.hM.below hb).mono fun k hk => by omega⟩
/-- The sum of what lacks with the set s. -/
def sumOf (needs : List Need) (thr : Int) (nf : ByteArray → Option Nat) (nl : Nat) (list : List Hold) (ms : List (BitVec 16)) (f : Nat → BitVec 64) (ix : Bool) (s : Nat) : Int :=
  maskSum needs thr (withM nf list s ms nl) (withW list s f nl) (withI list s ix nl)
section
variable {pb mb : Nat} {needs : List Need} {thr : Int} {A1 : Option Addr} {c1 : Nat} {nf : ByteArray → Option Nat} {A : Option Addr} {nl cl : Nat} {list : List Hold} {B0 : Option Addr} {c0 : Nat} {ms : List (BitVec 16)} {f : Nat → BitVec 64} {ix : Bool} {w : World}
set_option maxRecDepth 100000 in
theorem withP (h : ProbIn w pb mb needs thr A1 c1 nf A nl cl list B0 c0 ms f ix) (k : ProbOk needs thr nf nl list) (s : Nat) (hs : s < 18446744073709551616) :
    Calls Try.prog 43 #[.pointer (some ⟨pb, 0, none⟩), .int .u64 (s : Int)] w fun e w' => ∃ B c, e = .returned (.agg (stockCells B needs.length c (withW list s f nl) (withI list s ix nl))) ∧
      Row kMask w' (fun _ => True) B needs.length (withM nf list s ms nl) ∧ Below w.heap.size w w' :=
  (with_any pb mb nf A nl cl list s B0 needs.length c0 ms f ix w h.h5 h.h6 h.h7 h.hw h.hi h.hmap k.hnf h.hR h.hM k.hn k.hnl hs k.hp).mono fun e w' ⟨B, c, he, ho, hb⟩ => ⟨B, c, he, (row_masks ho).2, hb⟩
theorem sumP (h : ProbIn w pb mb needs thr A1 c1 nf A nl cl list B0 c0 ms f ix) (k : ProbOk needs thr nf nl list) (B : Option Addr) (c : Nat) (ms' : List (BitVec 16)) (f' : Nat → BitVec 64) (ix' : Bool) (hM : Row kMask w (fun _ => True) B needs.length ms') :
    Calls Try.prog 68 #[.pointer (some ⟨pb, 0, none⟩), .agg (stockCells B needs.length c f' ix')] w fun e w' => e = .returned (.int .i64 (maskSum needs thr ms' f' ix')) ∧ Below w.heap.size w w' :=
  msum_any pb needs thr A1 c1 B c ms' f' ix' (fun _ => True) w h.h0 h.h1 (h.hN.mono fun _ _ => trivial) hM k.hd k.ht k.hn
set_option maxRecDepth 100000 in
set_option maxHeartbeats 1000000 in
theorem sufficesP (h : ProbIn w pb mb needs thr A1 c1 nf A nl cl list B0 c0 ms f ix) (k : ProbOk needs thr nf nl list) (s : Nat) (hs : s < 18446744073709551616) (b : Bool) (hb : (sumOf needs thr nf nl list ms f ix s == 0) = b) :
    Calls Try.prog 39 #[.pointer (some ⟨pb, 0, none⟩), .int .u64 (s : Int)] w fun e w' => e = .returned (.bool b) ∧ Below w.heap.size w w' := by
  have HP := As.mk h
  have HK := As.mk k
  have WITH := As.mk (withP h k s hs)
  have HBQ : As ((maskSum needs thr (withM nf list s ms nl) (withW list s f nl) (withI list s ix nl) == 0) = b) := ⟨hb⟩
  clear h k hb
  generalize withM nf list s ms nl = ms' at *
  generalize withW list s f nl = f' at *
  generalize withI list s ix nl = ix' at *
  have SUM : As (∀ (W : World) (B : Option Addr) (c : Nat), Below w.heap.size w W → Row kMask W (fun _ => True) B needs.length ms' → Calls Try.prog 68 #[.pointer (some ⟨pb, 0, none⟩), .agg (stockCells B needs.length c f' ix')] W fun e w' => e = .returned (.int .i64 (maskSum needs thr ms' f' ix')) ∧ Below W.heap.size W w') := ⟨fun W B c hW hM => sumP (HP.o.below hW) HK.o B c ms' f' ix' hM⟩
  generalize maskSum needs thr ms' f' ix' = r at *
  have hr := HBQ.o
  go_enter Try.func39, Try.ntmps39
  go_wp2_with (first
    | (go_at_call 43; refine WITH.o.mono ?_; rintro e w1 ⟨B, c, rfl, hm1, hb1⟩)
    | (go_at_call 68; refine (SUM.o _ _ _ hb1 hm1).mono ?_; rintro e w2 ⟨rfl, hb2⟩))
  go_ret
  exact ⟨rfl, bthen hb1 hb2 (Nat.le_refl _)⟩
end
end Go.Proofs.Ytlinhckgdfhppaa
