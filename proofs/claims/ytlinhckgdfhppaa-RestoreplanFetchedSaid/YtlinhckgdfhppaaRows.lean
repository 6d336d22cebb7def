/-
  No cell of these rows narrows 'for every input' (looked for: loops, veiled, ifaces, maps, wideKeys, modest, calm, conditions, laid).
  DERIVED. THE GIVEN ROWS OF THIS SEAT. 7 by the template 'for every input the law returns true; each argument reads behind the call as it read before'; 0 by the template 'total and deterministic' (their statements: YtlinhckgdfhppaaTotals.lean).
  GIVEN WITH THE SEED: the statements are not yours to turn. If you find one false, say at which input.
  Laid BY PROGRAM, IN A SANDBOX (cutbox-rows.mjs): the forced cells as the released guide's own fill.sh prints them over the translation 1e9d9d56a49a0599… (all of the seat's roots in one cut). By AI agents, Wed Nov 11 2026. No macro, syntax, notation, axiom, sorry.
-/
import Derived.Test.YtlinhckgdfhppaaChecked
import GoSem.Claim
import GoSem.ClaimJoined
import GoSem.ClaimMapViews
import Derived.JoinedTies
import Derived.KernelRfl
namespace Go.Proofs.Ytlinhckgdfhppaa
/- THE CELL 'sum', in the pinned program and in every row, IS THE sha256 OF THE DUMP (.gsa) THAT YtlinhckgdfhppaaProg.lean LOADS. Nothing in Lean hashes anything: it is a label: what it is worth is what the hold of that sum in a sandbox is worth. -/
noncomputable def Try.pinned : Pinned := { name := "ytlinhckgdfhppaa", sum := "1e9d9d56a49a059970531861ae8975e0391ed159fe661e1e5db4eeb8b4c004de", checked := Try.checked }
namespace Rows
def none {H : Type} : Left H := { results := [], args := [] }

/-- 'kinkeeplaw51.RestoreplanMinimal': WHATEVER THE INPUT: true; the input reads as it did. -/
def restoreplanMinimalSpec : ChangeSpec := { name := "restoreplanMinimal", fn := fun _ => fun
  | [d1, d2] => { results := [.lit (.bool true)], args := [d1, d2] }
  | _ => none }
def restoreplanMinimalRow : OpenClaim := { program := "ytlinhckgdfhppaa", sum := "1e9d9d56a49a059970531861ae8975e0391ed159fe661e1e5db4eeb8b4c004de", func := "kinkeep/kinkeeplaw51.RestoreplanMinimal", spec := "restoreplanMinimal", unfollowed := true, recurses := true, plainKeys := false, apart := false }
def RestoreplanMinimalSaid : Prop := restoreplanMinimalRow.holds Try.pinned (OpenSpec.ofChange restoreplanMinimalSpec)

/-- ITS FALSE NEIGHBOUR: 'it returns false'. Refute it at one input. -/
def restoreplanMinimalWrong : ChangeSpec := { name := "restoreplanMinimal", fn := fun _ => fun
  | [d1, d2] => { results := [.lit (.bool false)], args := [d1, d2] }
  | _ => none }
def RestoreplanMinimalWrongFalsely : Prop := restoreplanMinimalRow.holds Try.pinned (OpenSpec.ofChange restoreplanMinimalWrong)

/-- 'kinkeeplaw51.RestoreplanFetches': WHATEVER THE INPUT: true; the input reads as it did. -/
def restoreplanFetchesSpec : ChangeSpec := { name := "restoreplanFetches", fn := fun _ => fun
  | [d1, d2, d3] => { results := [.lit (.bool true)], args := [d1, d2, d3] }
  | _ => none }
def restoreplanFetchesRow : OpenClaim := { program := "ytlinhckgdfhppaa", sum := "1e9d9d56a49a059970531861ae8975e0391ed159fe661e1e5db4eeb8b4c004de", func := "kinkeep/kinkeeplaw51.RestoreplanFetches", spec := "restoreplanFetches", unfollowed := true, recurses := true, plainKeys := false, apart := false }
def RestoreplanFetchesSaid : Prop := restoreplanFetchesRow.holds Try.pinned (OpenSpec.ofChange restoreplanFetchesSpec)

/-- ITS FALSE NEIGHBOUR: 'it returns false'. Refute it at one input. -/
def restoreplanFetchesWrong : ChangeSpec := { name := "restoreplanFetches", fn := fun _ => fun
  | [d1, d2, d3] => { results := [.lit (.bool false)], args := [d1, d2, d3] }
  | _ => none }
def RestoreplanFetchesWrongFalsely : Prop := restoreplanFetchesRow.holds Try.pinned (OpenSpec.ofChange restoreplanFetchesWrong)

/-- 'kinkeeplaw51.RestoreplanCheapest': WHATEVER THE INPUT: true; the input reads as it did. -/
def restoreplanCheapestSpec : ChangeSpec := { name := "restoreplanCheapest", fn := fun _ => fun
  | [d1, d2, d3] => { results := [.lit (.bool true)], args := [d1, d2, d3] }
  | _ => none }
def restoreplanCheapestRow : OpenClaim := { program := "ytlinhckgdfhppaa", sum := "1e9d9d56a49a059970531861ae8975e0391ed159fe661e1e5db4eeb8b4c004de", func := "kinkeep/kinkeeplaw51.RestoreplanCheapest", spec := "restoreplanCheapest", unfollowed := true, recurses := true, plainKeys := false, apart := false }
def RestoreplanCheapestSaid : Prop := restoreplanCheapestRow.holds Try.pinned (OpenSpec.ofChange restoreplanCheapestSpec)

/-- ITS FALSE NEIGHBOUR: 'it returns false'. Refute it at one input. -/
def restoreplanCheapestWrong : ChangeSpec := { name := "restoreplanCheapest", fn := fun _ => fun
  | [d1, d2, d3] => { results := [.lit (.bool false)], args := [d1, d2, d3] }
  | _ => none }
def RestoreplanCheapestWrongFalsely : Prop := restoreplanCheapestRow.holds Try.pinned (OpenSpec.ofChange restoreplanCheapestWrong)

/-- 'kinkeeplaw51.RestoreplanGreedy': WHATEVER THE INPUT: true; the input reads as it did. -/
def restoreplanGreedySpec : ChangeSpec := { name := "restoreplanGreedy", fn := fun _ => fun
  | [d1, d2, d3, d4] => { results := [.lit (.bool true)], args := [d1, d2, d3, d4] }
  | _ => none }
def restoreplanGreedyRow : OpenClaim := { program := "ytlinhckgdfhppaa", sum := "1e9d9d56a49a059970531861ae8975e0391ed159fe661e1e5db4eeb8b4c004de", func := "kinkeep/kinkeeplaw51.RestoreplanGreedy", spec := "restoreplanGreedy", unfollowed := true, recurses := true, plainKeys := false, apart := false }
def RestoreplanGreedySaid : Prop := restoreplanGreedyRow.holds Try.pinned (OpenSpec.ofChange restoreplanGreedySpec)

/-- ITS FALSE NEIGHBOUR: 'it returns false'. Refute it at one input. -/
def restoreplanGreedyWrong : ChangeSpec := { name := "restoreplanGreedy", fn := fun _ => fun
  | [d1, d2, d3, d4] => { results := [.lit (.bool false)], args := [d1, d2, d3, d4] }
  | _ => none }
def RestoreplanGreedyWrongFalsely : Prop := restoreplanGreedyRow.holds Try.pinned (OpenSpec.ofChange restoreplanGreedyWrong)

/-- 'kinkeeplaw51.RestoreplanFetched': WHATEVER THE INPUT: true; the input reads as it did. -/
def restoreplanFetchedSpec : ChangeSpec := { name := "restoreplanFetched", fn := fun _ => fun
  | [d1, d2, d3] => { results := [.lit (.bool true)], args := [d1, d2, d3] }
  | _ => none }
def restoreplanFetchedRow : OpenClaim := { program := "ytlinhckgdfhppaa", sum := "1e9d9d56a49a059970531861ae8975e0391ed159fe661e1e5db4eeb8b4c004de", func := "kinkeep/kinkeeplaw51.RestoreplanFetched", spec := "restoreplanFetched", unfollowed := true, recurses := true, plainKeys := false, apart := false }
def RestoreplanFetchedSaid : Prop := restoreplanFetchedRow.holds Try.pinned (OpenSpec.ofChange restoreplanFetchedSpec)

/-- ITS FALSE NEIGHBOUR: 'it returns false'. Refute it at one input. -/
def restoreplanFetchedWrong : ChangeSpec := { name := "restoreplanFetched", fn := fun _ => fun
  | [d1, d2, d3] => { results := [.lit (.bool false)], args := [d1, d2, d3] }
  | _ => none }
def RestoreplanFetchedWrongFalsely : Prop := restoreplanFetchedRow.holds Try.pinned (OpenSpec.ofChange restoreplanFetchedWrong)

/-- 'kinkeeplaw51.RestoreplanMore': WHATEVER THE INPUT: true; the input reads as it did. -/
def restoreplanMoreSpec : ChangeSpec := { name := "restoreplanMore", fn := fun _ => fun
  | [d1, d2, d3, d4, d5] => { results := [.lit (.bool true)], args := [d1, d2, d3, d4, d5] }
  | _ => none }
def restoreplanMoreRow : OpenClaim := { program := "ytlinhckgdfhppaa", sum := "1e9d9d56a49a059970531861ae8975e0391ed159fe661e1e5db4eeb8b4c004de", func := "kinkeep/kinkeeplaw51.RestoreplanMore", spec := "restoreplanMore", unfollowed := true, recurses := true, plainKeys := false, apart := false }
def RestoreplanMoreSaid : Prop := restoreplanMoreRow.holds Try.pinned (OpenSpec.ofChange restoreplanMoreSpec)

/-- ITS FALSE NEIGHBOUR: 'it returns false'. Refute it at one input. -/
def restoreplanMoreWrong : ChangeSpec := { name := "restoreplanMore", fn := fun _ => fun
  | [d1, d2, d3, d4, d5] => { results := [.lit (.bool false)], args := [d1, d2, d3, d4, d5] }
  | _ => none }
def RestoreplanMoreWrongFalsely : Prop := restoreplanMoreRow.holds Try.pinned (OpenSpec.ofChange restoreplanMoreWrong)

/-- 'kinkeeplaw51.RestoreplanFewer': WHATEVER THE INPUT: true; the input reads as it did. -/
def restoreplanFewerSpec : ChangeSpec := { name := "restoreplanFewer", fn := fun _ => fun
  | [d1, d2, d3] => { results := [.lit (.bool true)], args := [d1, d2, d3] }
  | _ => none }
def restoreplanFewerRow : OpenClaim := { program := "ytlinhckgdfhppaa", sum := "1e9d9d56a49a059970531861ae8975e0391ed159fe661e1e5db4eeb8b4c004de", func := "kinkeep/kinkeeplaw51.RestoreplanFewer", spec := "restoreplanFewer", unfollowed := true, recurses := true, plainKeys := false, apart := false }
def RestoreplanFewerSaid : Prop := restoreplanFewerRow.holds Try.pinned (OpenSpec.ofChange restoreplanFewerSpec)

/-- ITS FALSE NEIGHBOUR: 'it returns false'. Refute it at one input. -/
def restoreplanFewerWrong : ChangeSpec := { name := "restoreplanFewer", fn := fun _ => fun
  | [d1, d2, d3] => { results := [.lit (.bool false)], args := [d1, d2, d3] }
  | _ => none }
def RestoreplanFewerWrongFalsely : Prop := restoreplanFewerRow.holds Try.pinned (OpenSpec.ofChange restoreplanFewerWrong)

/- THE SECOND FORM. 'bulk': how many values and letters a reading holds, each counted each time it is reached (what is shared counts as often as it is met; a slice's spare places count too). A statement '..UptoSaid' is the law's where the arguments, and the package variables that the reading takes, are together of bulk at most 1048576: NARROWER than '..Said'. Prove '..Said' where nothing that the law and all that it calls make is longer than what came in: it says more and counts as full. Else prove '..UptoSaid'. A law counts once. -/
mutual
def uptoBulk {H : Type} : DataW H → Nat
  | .lit (.string bytes) => bytes.length + 1
  | .lit _ => 1
  | .nil => 1
  | .ptr d => uptoBulk d + 1
  | .slice elems spare => uptoBulkAll elems + uptoBulkAll spare + 1
  | .agg parts => uptoBulkAll parts + 1
  | .iface _ d => uptoBulk d + 1
  | .map entries => uptoBulkEntries entries + 1
  | .held _ => 1
def uptoBulkAll {H : Type} : List (DataW H) → Nat
  | [] => 0
  | d :: r => uptoBulk d + uptoBulkAll r
def uptoBulkEntries {H : Type} : List (Lit × DataW H) → Nat
  | [] => 0
  | x :: r => uptoBulkEntry x + uptoBulkEntries r
def uptoBulkEntry {H : Type} : Lit × DataW H → Nat
  | (.string bytes, d) => bytes.length + uptoBulk d + 1
  | (_, d) => uptoBulk d + 1
 end
def uptoSmall : (H : Type) → List (DataW H) → Bool := fun _ ds => decide (uptoBulkAll ds ≤ 1048576)
def OpenSpec.upto (s : _root_.Go.ChangeSpec) : _root_.Go.OpenSpec := { _root_.Go.OpenSpec.ofChange s with cond := some uptoSmall }

/-- 'kinkeeplaw51.RestoreplanMinimal', WHERE WHAT IT READS IS OF BULK AT MOST 1048576: true; the input reads as it did. -/
def restoreplanMinimalUptoRow : OpenClaim := { program := "ytlinhckgdfhppaa", sum := "1e9d9d56a49a059970531861ae8975e0391ed159fe661e1e5db4eeb8b4c004de", func := "kinkeep/kinkeeplaw51.RestoreplanMinimal", spec := "restoreplanMinimal", unfollowed := true, recurses := true, plainKeys := false, apart := false, narrowed := true }
def RestoreplanMinimalUptoSaid : Prop := restoreplanMinimalUptoRow.holds Try.pinned (OpenSpec.upto restoreplanMinimalSpec)

/-- 'kinkeeplaw51.RestoreplanFetches', WHERE WHAT IT READS IS OF BULK AT MOST 1048576: true; the input reads as it did. -/
def restoreplanFetchesUptoRow : OpenClaim := { program := "ytlinhckgdfhppaa", sum := "1e9d9d56a49a059970531861ae8975e0391ed159fe661e1e5db4eeb8b4c004de", func := "kinkeep/kinkeeplaw51.RestoreplanFetches", spec := "restoreplanFetches", unfollowed := true, recurses := true, plainKeys := false, apart := false, narrowed := true }
def RestoreplanFetchesUptoSaid : Prop := restoreplanFetchesUptoRow.holds Try.pinned (OpenSpec.upto restoreplanFetchesSpec)

/-- 'kinkeeplaw51.RestoreplanCheapest', WHERE WHAT IT READS IS OF BULK AT MOST 1048576: true; the input reads as it did. -/
def restoreplanCheapestUptoRow : OpenClaim := { program := "ytlinhckgdfhppaa", sum := "1e9d9d56a49a059970531861ae8975e0391ed159fe661e1e5db4eeb8b4c004de", func := "kinkeep/kinkeeplaw51.RestoreplanCheapest", spec := "restoreplanCheapest", unfollowed := true, recurses := true, plainKeys := false, apart := false, narrowed := true }
def RestoreplanCheapestUptoSaid : Prop := restoreplanCheapestUptoRow.holds Try.pinned (OpenSpec.upto restoreplanCheapestSpec)

/-- 'kinkeeplaw51.RestoreplanGreedy', WHERE WHAT IT READS IS OF BULK AT MOST 1048576: true; the input reads as it did. -/
def restoreplanGreedyUptoRow : OpenClaim := { program := "ytlinhckgdfhppaa", sum := "1e9d9d56a49a059970531861ae8975e0391ed159fe661e1e5db4eeb8b4c004de", func := "kinkeep/kinkeeplaw51.RestoreplanGreedy", spec := "restoreplanGreedy", unfollowed := true, recurses := true, plainKeys := false, apart := false, narrowed := true }
def RestoreplanGreedyUptoSaid : Prop := restoreplanGreedyUptoRow.holds Try.pinned (OpenSpec.upto restoreplanGreedySpec)

/-- 'kinkeeplaw51.RestoreplanFetched', WHERE WHAT IT READS IS OF BULK AT MOST 1048576: true; the input reads as it did. -/
def restoreplanFetchedUptoRow : OpenClaim := { program := "ytlinhckgdfhppaa", sum := "1e9d9d56a49a059970531861ae8975e0391ed159fe661e1e5db4eeb8b4c004de", func := "kinkeep/kinkeeplaw51.RestoreplanFetched", spec := "restoreplanFetched", unfollowed := true, recurses := true, plainKeys := false, apart := false, narrowed := true }
def RestoreplanFetchedUptoSaid : Prop := restoreplanFetchedUptoRow.holds Try.pinned (OpenSpec.upto restoreplanFetchedSpec)

/-- 'kinkeeplaw51.RestoreplanMore', WHERE WHAT IT READS IS OF BULK AT MOST 1048576: true; the input reads as it did. -/
def restoreplanMoreUptoRow : OpenClaim := { program := "ytlinhckgdfhppaa", sum := "1e9d9d56a49a059970531861ae8975e0391ed159fe661e1e5db4eeb8b4c004de", func := "kinkeep/kinkeeplaw51.RestoreplanMore", spec := "restoreplanMore", unfollowed := true, recurses := true, plainKeys := false, apart := false, narrowed := true }
def RestoreplanMoreUptoSaid : Prop := restoreplanMoreUptoRow.holds Try.pinned (OpenSpec.upto restoreplanMoreSpec)

/-- 'kinkeeplaw51.RestoreplanFewer', WHERE WHAT IT READS IS OF BULK AT MOST 1048576: true; the input reads as it did. -/
def restoreplanFewerUptoRow : OpenClaim := { program := "ytlinhckgdfhppaa", sum := "1e9d9d56a49a059970531861ae8975e0391ed159fe661e1e5db4eeb8b4c004de", func := "kinkeep/kinkeeplaw51.RestoreplanFewer", spec := "restoreplanFewer", unfollowed := true, recurses := true, plainKeys := false, apart := false, narrowed := true }
def RestoreplanFewerUptoSaid : Prop := restoreplanFewerUptoRow.holds Try.pinned (OpenSpec.upto restoreplanFewerSpec)

end Rows
end Go.Proofs.Ytlinhckgdfhppaa
