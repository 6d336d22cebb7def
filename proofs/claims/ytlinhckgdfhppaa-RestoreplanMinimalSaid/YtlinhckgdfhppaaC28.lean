/- A part of the proof: what the functions do, and plain laws. -/
import Derived.Test.YtlinhckgdfhppaaC27
namespace Go.Proofs.Ytlinhckgdfhppaa
open Go Go.RowKit Go.Proofs.YtlinhckgdfhppaaK
section
variable {pb mb : Nat} {needs : List Need} {thr : Int} {A1 : Option Addr} {c1 : Nat} {nf : ByteArray → Option Nat} {A : Option Addr} {nl cl : Nat} {list : List Hold} {B0 : Option Addr} {c0 : Nat} {ms : List (BitVec 16)} {f : Nat → BitVec 64} {ix : Bool} {w : World}
theorem sum_bd2 {needs : List Need} {thr : Int} {ms : List (BitVec 16)} {f : Nat → BitVec 64} {ix : Bool} (hd : ∀ n ∈ needs, 0 ≤ n.2 ∧ n.2 ≤ 1000) (ht : 0 ≤ thr ∧ thr ≤ 1000) (hn : needs.length ≤ 64) : 0 ≤ maskSum needs thr ms f ix ∧ maskSum needs thr ms f ix ≤ 66000 := by
  have h1 := sum_bd (lackList needs ms) (lackList_bd hd)
  have h2 : (lackList needs ms).length = needs.length := by simp [lackList]
  have h3 : 0 ≤ subN thr (shareCnt f) ∧ subN thr (shareCnt f) ≤ 1000 := by unfold subN; omega
  unfold maskSum
  rw [h2] at h1
  cases ix <;> simp <;> omega
end
end Go.Proofs.Ytlinhckgdfhppaa
