/- A part of the proof: what the functions do, and plain laws. -/
import Derived.Test.YtlinhckgdfhppaaC16
namespace Go.Proofs.Ytlinhckgdfhppaa
open Go Go.RowKit Go.Proofs.YtlinhckgdfhppaaK
open Go.ChangeMaps (setBlock)
attribute [local go_sem high] eq_piece

/-- A share added to the words of a set. -/
def addW (f : Nat → BitVec 64) (x : Int) : Nat → BitVec 64 := fun j => if j = (x / 64).toNat then f j ||| BitVec.twoPow 64 (x % 64).toNat else f j
def addWs (f : Nat → BitVec 64) (xs : List Int) : Nat → BitVec 64 := xs.foldl addW f
theorem addWs_snoc (f : Nat → BitVec 64) (xs : List Int) (k : Nat) (h : k < xs.length) : addWs f (xs.take (k + 1)) = addW (addWs f (xs.take k)) (ig xs k) := by
  unfold addWs
  rw [List.take_succ_eq_append_getElem h, List.foldl_append]
  simp [ig, List.getD_eq_getElem?_getD, List.getElem?_eq_getElem h]
theorem wrap_u64 (a : BitVec 64) : IntKind.u64.wrap (a.toNat : Int) = (a.toNat : Int) := by
  have := a.isLt
  simp [IntKind.wrap, IntKind.bits, IntKind.signed]
  omega
theorem wrap_u16 (a : BitVec 16) : IntKind.u16.wrap (a.toNat : Int) = (a.toNat : Int) := by
  have := a.isLt
  simp [IntKind.wrap, IntKind.bits, IntKind.signed]
  omega
theorem or_u64 (a b : BitVec 64) : bits .or .u64 (a.toNat : Int) (b.toNat : Int) = ((a ||| b).toNat : Int) := by
  unfold bits
  simp only [IntKind.bits, BitVec.ofInt_natCast, BitVec.ofNat_toNat]
  exact (wrap_u64 _)
theorem or_u16 (a b : BitVec 16) : bits .or .u16 (a.toNat : Int) (b.toNat : Int) = ((a ||| b).toNat : Int) := by
  unfold bits
  simp only [IntKind.bits, BitVec.ofInt_natCast, BitVec.ofNat_toNat]
  exact (wrap_u16 _)
theorem shl_u64 (y : Int) (h0 : 0 ≤ y) (h : y < 64) : IntKind.u64.wrap (2 ^ y.toNat) = ((BitVec.twoPow 64 y.toNat).toNat : Int) := by
  have hy : y.toNat < 64 := by omega
  have e : ((BitVec.twoPow 64 y.toNat).toNat : Int) = 2 ^ y.toNat := by
    rw [BitVec.toNat_twoPow, Nat.mod_eq_of_lt (Nat.pow_lt_pow_right (by omega) hy)]
    simp
  rw [← e, wrap_u64]
theorem shl_u16 (y : Int) (h0 : 0 ≤ y) (h : y < 16) : IntKind.u16.wrap (2 ^ y.toNat) = ((BitVec.twoPow 16 y.toNat).toNat : Int) := by
  have hy : y.toNat < 16 := by omega
  have e : ((BitVec.twoPow 16 y.toNat).toNat : Int) = 2 ^ y.toNat := by
    rw [BitVec.toNat_twoPow, Nat.mod_eq_of_lt (Nat.pow_lt_pow_right (by omega) hy)]
    simp
  rw [← e, wrap_u16]

/-- Four words of a set of shares, in a block's cells. -/
structure WordsAt (cs : Array Value) (o : Nat) (f : Nat → BitVec 64) : Prop where
  at_ : ∀ i, i < 4 → cs[o + i]? = some (.int .u64 ((f i).toNat : Int))
/-- Cells alike but for the four words. -/
structure WordsOnly (cs cs' : Array Value) (o : Nat) : Prop where
  size : cs'.size = cs.size
  far : ∀ j, j < o ∨ o + 4 ≤ j → cs'[j]? = cs[j]?
theorem WordsAt.add {cs : Array Value} {o : Nat} {f : Nat → BitVec 64} (h : WordsAt cs o f) (x : Int) (hx : (x / 64).toNat < 4) :
    WordsAt (cs.setIfInBounds (o + (x / 64).toNat) (.int .u64 ((f (x / 64).toNat ||| BitVec.twoPow 64 (x % 64).toNat).toNat : Int))) o (addW f x) := ⟨fun i hi => by
  have hlt : o + i < cs.size := (Array.getElem?_eq_some_iff.1 (h.at_ i hi)).1
  rw [Array.getElem?_setIfInBounds]
  by_cases e : i = (x / 64).toNat
  · subst e
    rw [if_pos rfl, if_pos hlt]
    simp [addW]
  · rw [if_neg (by omega), h.at_ i hi]
    simp [addW, e]⟩
theorem WordsOnly.add {cs cs' : Array Value} {o : Nat} (h : WordsOnly cs cs' o) (j : Nat) (hj : j < 4) (u : Value) : WordsOnly cs (cs'.setIfInBounds (o + j) u) o :=
  ⟨by simp [h.size], fun i hi => by rw [Array.getElem?_setIfInBounds_ne (by omega)]; exact h.far i hi⟩

set_option maxRecDepth 100000 in
set_option maxHeartbeats 1000000 in
theorem add_any (b o : Nat) (cs : Array Value) (t : TypeId) (A : Option Addr) (n c : Nat) (xs : List Int) (f : Nat → BitVec 64) (w : World) (hb : w.heap[b]? = some (.cells cs t (0, 0))) (hw : WordsAt cs o f)
    (h : Row (Kn.int .i64) w (fun k => k ≠ b) A n xs) (hx : ∀ x ∈ xs, 1 ≤ x ∧ x ≤ 255) :
    Calls Try.prog 86 #[.pointer (some ⟨b, o, none⟩), .slice A n c] w fun e w' => e = .returned (.tuple #[]) ∧ w.grownBy w' (some b) ∧ ∃ cs', w'.heap[b]? = some (.cells cs' t (0, 0)) ∧ WordsAt cs' o (addWs f xs) ∧ WordsOnly cs cs' o := by
  have hm := h.2.1
  have HL := As.mk h.1
  have HR := As.mk h
  have HXS := As.mk hx
  clear h hx
  go_enter Try.func86, Try.ntmps86
  go_wp2
  go_loopw [8] (fun i' wr => ∃ k : Nat, k ≤ n ∧ i' = .int .i64 k ∧ As (w.grownBy wr (some b)) ∧ ∃ cs', As (wr.heap[b]? = some (.cells cs' t (0, 0))) ∧ As (WordsAt cs' o (addWs f (xs.take k))) ∧ As (WordsOnly cs cs' o)) (fun i' _ => n - (intOf i').toNat)
  case atStart => exact ⟨0, Nat.zero_le _, rfl, ⟨⟨rfl, rfl, rfl, Nat.le_refl _, fun _ _ _ => rfl⟩⟩, cs, ⟨hb⟩, ⟨hw⟩, ⟨rfl, fun _ _ => rfl⟩⟩
  case round =>
    obtain ⟨k, hk, rfl, HG, cs', HB, HW, HO⟩ := hrel
    by_cases hlt : k < n
    · have hkl : k < xs.length := by rw [HL.o]; exact hlt
      obtain ⟨ad, rfl, hne, hlt', p0⟩ := (HR.o.step (fun j hj hjl => HG.o.block j hjl (by simpa using hj))).int_at k hlt
      have HS := As.mk (addWs_snoc f xs k hkl)
      have hxk := HXS.o (ig xs k) (by unfold ig; rw [List.getD_eq_getElem?_getD, List.getElem?_eq_getElem hkl]; exact List.getElem_mem hkl)
      generalize ig xs k = x at *
      generalize hF : addWs f (xs.take k) = F at *
      obtain ⟨j, hj⟩ : ∃ j : Nat, j = (x / 64).toNat := ⟨_, rfl⟩
      obtain ⟨r, hr⟩ : ∃ r : Nat, r = (x % 64).toNat := ⟨_, rfl⟩
      have hj4 : j < 4 := by omega
      have hr64 : r < 64 := by omega
      have q1 : x.tdiv 64 = (j : Int) := by rw [Int.tdiv_eq_ediv_of_nonneg (by omega)]; omega
      have q2 : x / 64 = (j : Int) := by omega
      have r1 : x.tmod 64 = (r : Int) := by rw [Int.tmod_eq_emod_of_nonneg (by omega)]; omega
      have r2 : x % 64 = (r : Int) := by omega
      have hj0 : (0 : Int) ≤ (j : Int) := by omega
      have hji : (j : Int) < 4 := by omega
      have hji' : (j : Int) < ((4 : Nat) : Int) := by omega
      have hao : (⟨b, o, none⟩ : Addr).add j = ⟨b, o + j, none⟩ := by unfold Addr.add; split <;> simp_all
      have hwj : IntKind.i64.wrap (j : Int) = (j : Int) := IntWalk.i64_in _ (by omega)
      have hwrr : IntKind.i64.wrap (r : Int) = (r : Int) := IntWalk.i64_in _ (by omega)
      have hr0 : (0 : Int) ≤ (r : Int) := by omega
      have hr6 : (r : Int) ≤ 64 := by omega
      have cj : wr.cell? ⟨b, o + j, none⟩ = some (.int .u64 ((F j).toNat : Int)) := (cell_of_row _ _ _ _ _ _ HB.o).trans (HW.o.at_ j hj4)
      have fj : ∀ i, wr.frozen? ⟨b, i, none⟩ = false := fun i => blk_frozen HB.o
      have sh : IntKind.u64.wrap (2 ^ r) = ((BitVec.twoPow 64 r).toNat : Int) := by have := shl_u64 (r : Int) (by omega) (by omega); simpa using this
      have hor := or_u64 (F j) (BitVec.twoPow 64 r)
      have hwr := wrap_u64 (BitVec.twoPow 64 r)
      have HADD := HW.o.add x (by omega)
      rw [← hj, ← hr] at HADD
      have HA := As.mk HADD
      clear HADD hj hr hF
      generalize BitVec.twoPow 64 r = T at *
      go_wp2
      go_still_tail 12, (by kernel_rfl)
      change wpList _ _ _ _ _ wr.drew
      go_wp2
      go_roundw
      case rel => 
        rw [BitVec.toNat_or] at HA
        refine ⟨k + 1, by omega, by go_num, ⟨?_⟩, cs'.setIfInBounds (o + j) (.int .u64 (((F j).toNat ||| T.toNat : Nat) : Int)), ⟨?_⟩, ⟨?_⟩, ⟨HO.o.add j hj4 _⟩⟩
        · exact ⟨HG.o.os, HG.o.tape, HG.o.output, by simp [World.setCell]; exact HG.o.size, fun i hi hne' => (blk_far (fun e => hne' (by rw [e])) _).trans (HG.o.block i hi hne')⟩
        · exact blk_set HB.o _
        · rw [HS.o]; exact HA.o
      case measure => simp [intOf]; omega
    · have e : k = n := by omega
      subst e
      rw [List.take_of_length_le (by rw [HL.o]; exact Nat.le_refl _)] at HW
      go_wp2
      go_end0
      exact ⟨rfl, HG.o, _, HB.o, HW.o, HO.o⟩
end Go.Proofs.Ytlinhckgdfhppaa
