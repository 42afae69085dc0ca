/-
  No cell of these rows narrows 'for every input' (looked for: loops, veiled, ifaces, maps, wideKeys, modest, calm, conditions, laid).
  DERIVED. THE GIVEN ROWS OF THIS SEAT. 11 by the template 'for every input the law returns true; each argument reads behind the call as it read before'; 0 by the template 'total and deterministic' (their statements: YtcjbfnbknpolcaaTotals.lean).
  GIVEN WITH THE SEED: the statements are not yours to turn. If you find one false, say at which input.
  Laid BY PROGRAM, IN A SANDBOX (cutbox-rows.mjs): the forced cells as the released guide's own fill.sh prints them over the translation e6db613fd186f18c… (all of the seat's roots in one cut). By AI agents, Wed Nov 11 2026. No macro, syntax, notation, axiom, sorry.
-/
import Derived.Test.YtcjbfnbknpolcaaChecked
import GoSem.Claim
import GoSem.ClaimJoined
import GoSem.ClaimMapViews
import Derived.JoinedTies
import Derived.KernelRfl
namespace Go.Proofs.Ytcjbfnbknpolcaa
/- THE CELL 'sum', in the pinned program and in every row, IS THE sha256 OF THE DUMP (.gsa) THAT YtcjbfnbknpolcaaProg.lean LOADS. Nothing in Lean hashes anything: it is a label: what it is worth is what the hold of that sum in a sandbox is worth. -/
noncomputable def Try.pinned : Pinned := { name := "ytcjbfnbknpolcaa", sum := "e6db613fd186f18c7e6057292033e3935323eb160d88e3f3c786e66060519c93", checked := Try.checked }
namespace Rows
def none {H : Type} : Left H := { results := [], args := [] }

/-- 'laws.FnExactValidMachine': WHATEVER THE INPUT: true; the input reads as it did. -/
def fnExactValidMachineSpec : ChangeSpec := { name := "fnExactValidMachine", fn := fun _ => fun
  | [d] => { results := [.lit (.bool true)], args := [d] }
  | _ => none }
def fnExactValidMachineRow : OpenClaim := { program := "ytcjbfnbknpolcaa", sum := "e6db613fd186f18c7e6057292033e3935323eb160d88e3f3c786e66060519c93", func := "loop.example/g01139/laws.FnExactValidMachine", spec := "fnExactValidMachine", apart := false }
def FnExactValidMachineSaid : Prop := fnExactValidMachineRow.holds Try.pinned (OpenSpec.ofChange fnExactValidMachineSpec)

/-- ITS FALSE NEIGHBOUR: 'it returns false'. Refute it at one input. -/
def fnExactValidMachineWrong : ChangeSpec := { name := "fnExactValidMachine", fn := fun _ => fun
  | [d] => { results := [.lit (.bool false)], args := [d] }
  | _ => none }
def FnExactValidMachineWrongFalsely : Prop := fnExactValidMachineRow.holds Try.pinned (OpenSpec.ofChange fnExactValidMachineWrong)

/-- 'laws.FnExactIsShuffle': WHATEVER THE INPUT: true; the input reads as it did. -/
def fnExactIsShuffleSpec : ChangeSpec := { name := "fnExactIsShuffle", fn := fun _ => fun
  | [d] => { results := [.lit (.bool true)], args := [d] }
  | _ => none }
def fnExactIsShuffleRow : OpenClaim := { program := "ytcjbfnbknpolcaa", sum := "e6db613fd186f18c7e6057292033e3935323eb160d88e3f3c786e66060519c93", func := "loop.example/g01139/laws.FnExactIsShuffle", spec := "fnExactIsShuffle", unfollowed := true, recurses := true, apart := false }
def FnExactIsShuffleSaid : Prop := fnExactIsShuffleRow.holds Try.pinned (OpenSpec.ofChange fnExactIsShuffleSpec)

/-- ITS FALSE NEIGHBOUR: 'it returns false'. Refute it at one input. -/
def fnExactIsShuffleWrong : ChangeSpec := { name := "fnExactIsShuffle", fn := fun _ => fun
  | [d] => { results := [.lit (.bool false)], args := [d] }
  | _ => none }
def FnExactIsShuffleWrongFalsely : Prop := fnExactIsShuffleRow.holds Try.pinned (OpenSpec.ofChange fnExactIsShuffleWrong)

/-- 'laws.FnExactValidRanges': WHATEVER THE INPUT: true; the input reads as it did. -/
def fnExactValidRangesSpec : ChangeSpec := { name := "fnExactValidRanges", fn := fun _ => fun
  | [d] => { results := [.lit (.bool true)], args := [d] }
  | _ => none }
def fnExactValidRangesRow : OpenClaim := { program := "ytcjbfnbknpolcaa", sum := "e6db613fd186f18c7e6057292033e3935323eb160d88e3f3c786e66060519c93", func := "loop.example/g01139/laws.FnExactValidRanges", spec := "fnExactValidRanges", unfollowed := true, recurses := true, apart := false }
def FnExactValidRangesSaid : Prop := fnExactValidRangesRow.holds Try.pinned (OpenSpec.ofChange fnExactValidRangesSpec)

/-- ITS FALSE NEIGHBOUR: 'it returns false'. Refute it at one input. -/
def fnExactValidRangesWrong : ChangeSpec := { name := "fnExactValidRanges", fn := fun _ => fun
  | [d] => { results := [.lit (.bool false)], args := [d] }
  | _ => none }
def FnExactValidRangesWrongFalsely : Prop := fnExactValidRangesRow.holds Try.pinned (OpenSpec.ofChange fnExactValidRangesWrong)

/-- 'laws.FnExactThenShuffle': WHATEVER THE INPUT: true; the input reads as it did. -/
def fnExactThenShuffleSpec : ChangeSpec := { name := "fnExactThenShuffle", fn := fun _ => fun
  | [d1, d2] => { results := [.lit (.bool true)], args := [d1, d2] }
  | _ => none }
def fnExactThenShuffleRow : OpenClaim := { program := "ytcjbfnbknpolcaa", sum := "e6db613fd186f18c7e6057292033e3935323eb160d88e3f3c786e66060519c93", func := "loop.example/g01139/laws.FnExactThenShuffle", spec := "fnExactThenShuffle", unfollowed := true, recurses := true, apart := false }
def FnExactThenShuffleSaid : Prop := fnExactThenShuffleRow.holds Try.pinned (OpenSpec.ofChange fnExactThenShuffleSpec)

/-- ITS FALSE NEIGHBOUR: 'it returns false'. Refute it at one input. -/
def fnExactThenShuffleWrong : ChangeSpec := { name := "fnExactThenShuffle", fn := fun _ => fun
  | [d1, d2] => { results := [.lit (.bool false)], args := [d1, d2] }
  | _ => none }
def FnExactThenShuffleWrongFalsely : Prop := fnExactThenShuffleRow.holds Try.pinned (OpenSpec.ofChange fnExactThenShuffleWrong)

/-- 'laws.FnExactShuffleLanes': WHATEVER THE INPUT: true; the input reads as it did. -/
def fnExactShuffleLanesSpec : ChangeSpec := { name := "fnExactShuffleLanes", fn := fun _ => fun
  | [d1, d2, d3] => { results := [.lit (.bool true)], args := [d1, d2, d3] }
  | _ => none }
def fnExactShuffleLanesRow : OpenClaim := { program := "ytcjbfnbknpolcaa", sum := "e6db613fd186f18c7e6057292033e3935323eb160d88e3f3c786e66060519c93", func := "loop.example/g01139/laws.FnExactShuffleLanes", spec := "fnExactShuffleLanes", unfollowed := true, recurses := true, apart := false }
def FnExactShuffleLanesSaid : Prop := fnExactShuffleLanesRow.holds Try.pinned (OpenSpec.ofChange fnExactShuffleLanesSpec)

/-- ITS FALSE NEIGHBOUR: 'it returns false'. Refute it at one input. -/
def fnExactShuffleLanesWrong : ChangeSpec := { name := "fnExactShuffleLanes", fn := fun _ => fun
  | [d1, d2, d3] => { results := [.lit (.bool false)], args := [d1, d2, d3] }
  | _ => none }
def FnExactShuffleLanesWrongFalsely : Prop := fnExactShuffleLanesRow.holds Try.pinned (OpenSpec.ofChange fnExactShuffleLanesWrong)

/-- 'laws.FnExactWidthOf': WHATEVER THE INPUT: true; the input reads as it did. -/
def fnExactWidthOfSpec : ChangeSpec := { name := "fnExactWidthOf", fn := fun _ => fun
  | [d] => { results := [.lit (.bool true)], args := [d] }
  | _ => none }
def fnExactWidthOfRow : OpenClaim := { program := "ytcjbfnbknpolcaa", sum := "e6db613fd186f18c7e6057292033e3935323eb160d88e3f3c786e66060519c93", func := "loop.example/g01139/laws.FnExactWidthOf", spec := "fnExactWidthOf", unfollowed := true, recurses := true, apart := false }
def FnExactWidthOfSaid : Prop := fnExactWidthOfRow.holds Try.pinned (OpenSpec.ofChange fnExactWidthOfSpec)

/-- ITS FALSE NEIGHBOUR: 'it returns false'. Refute it at one input. -/
def fnExactWidthOfWrong : ChangeSpec := { name := "fnExactWidthOf", fn := fun _ => fun
  | [d] => { results := [.lit (.bool false)], args := [d] }
  | _ => none }
def FnExactWidthOfWrongFalsely : Prop := fnExactWidthOfRow.holds Try.pinned (OpenSpec.ofChange fnExactWidthOfWrong)

/-- 'laws.FnExactIsNetwork': WHATEVER THE INPUT: true; the input reads as it did. -/
def fnExactIsNetworkSpec : ChangeSpec := { name := "fnExactIsNetwork", fn := fun _ => fun
  | [d1, d2] => { results := [.lit (.bool true)], args := [d1, d2] }
  | _ => none }
def fnExactIsNetworkRow : OpenClaim := { program := "ytcjbfnbknpolcaa", sum := "e6db613fd186f18c7e6057292033e3935323eb160d88e3f3c786e66060519c93", func := "loop.example/g01139/laws.FnExactIsNetwork", spec := "fnExactIsNetwork", unfollowed := true, recurses := true, apart := false }
def FnExactIsNetworkSaid : Prop := fnExactIsNetworkRow.holds Try.pinned (OpenSpec.ofChange fnExactIsNetworkSpec)

/-- ITS FALSE NEIGHBOUR: 'it returns false'. Refute it at one input. -/
def fnExactIsNetworkWrong : ChangeSpec := { name := "fnExactIsNetwork", fn := fun _ => fun
  | [d1, d2] => { results := [.lit (.bool false)], args := [d1, d2] }
  | _ => none }
def FnExactIsNetworkWrongFalsely : Prop := fnExactIsNetworkRow.holds Try.pinned (OpenSpec.ofChange fnExactIsNetworkWrong)

/-- 'laws.FnExactNamedShuffle': WHATEVER THE INPUT: true; the input reads as it did. -/
def fnExactNamedShuffleSpec : ChangeSpec := { name := "fnExactNamedShuffle", fn := fun _ => fun
  | [d1, d2, d3] => { results := [.lit (.bool true)], args := [d1, d2, d3] }
  | _ => none }
def fnExactNamedShuffleRow : OpenClaim := { program := "ytcjbfnbknpolcaa", sum := "e6db613fd186f18c7e6057292033e3935323eb160d88e3f3c786e66060519c93", func := "loop.example/g01139/laws.FnExactNamedShuffle", spec := "fnExactNamedShuffle", unfollowed := true, recurses := true, apart := false }
def FnExactNamedShuffleSaid : Prop := fnExactNamedShuffleRow.holds Try.pinned (OpenSpec.ofChange fnExactNamedShuffleSpec)

/-- ITS FALSE NEIGHBOUR: 'it returns false'. Refute it at one input. -/
def fnExactNamedShuffleWrong : ChangeSpec := { name := "fnExactNamedShuffle", fn := fun _ => fun
  | [d1, d2, d3] => { results := [.lit (.bool false)], args := [d1, d2, d3] }
  | _ => none }
def FnExactNamedShuffleWrongFalsely : Prop := fnExactNamedShuffleRow.holds Try.pinned (OpenSpec.ofChange fnExactNamedShuffleWrong)

/-- 'laws.FnExactValidTasks': WHATEVER THE INPUT: true; the input reads as it did. -/
def fnExactValidTasksSpec : ChangeSpec := { name := "fnExactValidTasks", fn := fun _ => fun
  | [d] => { results := [.lit (.bool true)], args := [d] }
  | _ => none }
def fnExactValidTasksRow : OpenClaim := { program := "ytcjbfnbknpolcaa", sum := "e6db613fd186f18c7e6057292033e3935323eb160d88e3f3c786e66060519c93", func := "loop.example/g01139/laws.FnExactValidTasks", spec := "fnExactValidTasks", unfollowed := true, recurses := true, apart := false }
def FnExactValidTasksSaid : Prop := fnExactValidTasksRow.holds Try.pinned (OpenSpec.ofChange fnExactValidTasksSpec)

/-- ITS FALSE NEIGHBOUR: 'it returns false'. Refute it at one input. -/
def fnExactValidTasksWrong : ChangeSpec := { name := "fnExactValidTasks", fn := fun _ => fun
  | [d] => { results := [.lit (.bool false)], args := [d] }
  | _ => none }
def FnExactValidTasksWrongFalsely : Prop := fnExactValidTasksRow.holds Try.pinned (OpenSpec.ofChange fnExactValidTasksWrong)

/-- 'laws.FnExactInverseShuffle': WHATEVER THE INPUT: true; the input reads as it did. -/
def fnExactInverseShuffleSpec : ChangeSpec := { name := "fnExactInverseShuffle", fn := fun _ => fun
  | [d] => { results := [.lit (.bool true)], args := [d] }
  | _ => none }
def fnExactInverseShuffleRow : OpenClaim := { program := "ytcjbfnbknpolcaa", sum := "e6db613fd186f18c7e6057292033e3935323eb160d88e3f3c786e66060519c93", func := "loop.example/g01139/laws.FnExactInverseShuffle", spec := "fnExactInverseShuffle", unfollowed := true, recurses := true, apart := false }
def FnExactInverseShuffleSaid : Prop := fnExactInverseShuffleRow.holds Try.pinned (OpenSpec.ofChange fnExactInverseShuffleSpec)

/-- ITS FALSE NEIGHBOUR: 'it returns false'. Refute it at one input. -/
def fnExactInverseShuffleWrong : ChangeSpec := { name := "fnExactInverseShuffle", fn := fun _ => fun
  | [d] => { results := [.lit (.bool false)], args := [d] }
  | _ => none }
def FnExactInverseShuffleWrongFalsely : Prop := fnExactInverseShuffleRow.holds Try.pinned (OpenSpec.ofChange fnExactInverseShuffleWrong)

/-- 'laws.FnExactPickLanes': WHATEVER THE INPUT: true; the input reads as it did. -/
def fnExactPickLanesSpec : ChangeSpec := { name := "fnExactPickLanes", fn := fun _ => fun
  | [d1, d2, d3, d4] => { results := [.lit (.bool true)], args := [d1, d2, d3, d4] }
  | _ => none }
def fnExactPickLanesRow : OpenClaim := { program := "ytcjbfnbknpolcaa", sum := "e6db613fd186f18c7e6057292033e3935323eb160d88e3f3c786e66060519c93", func := "loop.example/g01139/laws.FnExactPickLanes", spec := "fnExactPickLanes", unfollowed := true, recurses := true, apart := false }
def FnExactPickLanesSaid : Prop := fnExactPickLanesRow.holds Try.pinned (OpenSpec.ofChange fnExactPickLanesSpec)

/-- ITS FALSE NEIGHBOUR: 'it returns false'. Refute it at one input. -/
def fnExactPickLanesWrong : ChangeSpec := { name := "fnExactPickLanes", fn := fun _ => fun
  | [d1, d2, d3, d4] => { results := [.lit (.bool false)], args := [d1, d2, d3, d4] }
  | _ => none }
def FnExactPickLanesWrongFalsely : Prop := fnExactPickLanesRow.holds Try.pinned (OpenSpec.ofChange fnExactPickLanesWrong)

/- THE SECOND FORM. 'bulk': how many values and letters a reading holds, each counted each time it is reached (what is shared counts as often as it is met; a slice's spare places count too). A statement '..UptoSaid' is the law's where the arguments, and the package variables that the reading takes, are together of bulk at most 1048576: NARROWER than '..Said'. Prove '..Said' where nothing that the law and all that it calls make is longer than what came in: it says more and counts as full. Else prove '..UptoSaid'. A law counts once. -/
mutual
def uptoBulk {H : Type} : DataW H → Nat
  | .lit (.string bytes) => bytes.length + 1
  | .lit _ => 1
  | .nil => 1
  | .ptr d => uptoBulk d + 1
  | .slice elems spare => uptoBulkAll elems + uptoBulkAll spare + 1
  | .agg parts => uptoBulkAll parts + 1
  | .iface _ d => uptoBulk d + 1
  | .map entries => uptoBulkEntries entries + 1
  | .held _ => 1
def uptoBulkAll {H : Type} : List (DataW H) → Nat
  | [] => 0
  | d :: r => uptoBulk d + uptoBulkAll r
def uptoBulkEntries {H : Type} : List (Lit × DataW H) → Nat
  | [] => 0
  | x :: r => uptoBulkEntry x + uptoBulkEntries r
def uptoBulkEntry {H : Type} : Lit × DataW H → Nat
  | (.string bytes, d) => bytes.length + uptoBulk d + 1
  | (_, d) => uptoBulk d + 1
 end
def uptoSmall : (H : Type) → List (DataW H) → Bool := fun _ ds => decide (uptoBulkAll ds ≤ 1048576)
def OpenSpec.upto (s : _root_.Go.ChangeSpec) : _root_.Go.OpenSpec := { _root_.Go.OpenSpec.ofChange s with cond := some uptoSmall }

/-- 'laws.FnExactValidMachine', WHERE WHAT IT READS IS OF BULK AT MOST 1048576: true; the input reads as it did. -/
def fnExactValidMachineUptoRow : OpenClaim := { program := "ytcjbfnbknpolcaa", sum := "e6db613fd186f18c7e6057292033e3935323eb160d88e3f3c786e66060519c93", func := "loop.example/g01139/laws.FnExactValidMachine", spec := "fnExactValidMachine", apart := false, narrowed := true }
def FnExactValidMachineUptoSaid : Prop := fnExactValidMachineUptoRow.holds Try.pinned (OpenSpec.upto fnExactValidMachineSpec)

/-- 'laws.FnExactIsShuffle', WHERE WHAT IT READS IS OF BULK AT MOST 1048576: true; the input reads as it did. -/
def fnExactIsShuffleUptoRow : OpenClaim := { program := "ytcjbfnbknpolcaa", sum := "e6db613fd186f18c7e6057292033e3935323eb160d88e3f3c786e66060519c93", func := "loop.example/g01139/laws.FnExactIsShuffle", spec := "fnExactIsShuffle", unfollowed := true, recurses := true, apart := false, narrowed := true }
def FnExactIsShuffleUptoSaid : Prop := fnExactIsShuffleUptoRow.holds Try.pinned (OpenSpec.upto fnExactIsShuffleSpec)

/-- 'laws.FnExactValidRanges', WHERE WHAT IT READS IS OF BULK AT MOST 1048576: true; the input reads as it did. -/
def fnExactValidRangesUptoRow : OpenClaim := { program := "ytcjbfnbknpolcaa", sum := "e6db613fd186f18c7e6057292033e3935323eb160d88e3f3c786e66060519c93", func := "loop.example/g01139/laws.FnExactValidRanges", spec := "fnExactValidRanges", unfollowed := true, recurses := true, apart := false, narrowed := true }
def FnExactValidRangesUptoSaid : Prop := fnExactValidRangesUptoRow.holds Try.pinned (OpenSpec.upto fnExactValidRangesSpec)

/-- 'laws.FnExactThenShuffle', WHERE WHAT IT READS IS OF BULK AT MOST 1048576: true; the input reads as it did. -/
def fnExactThenShuffleUptoRow : OpenClaim := { program := "ytcjbfnbknpolcaa", sum := "e6db613fd186f18c7e6057292033e3935323eb160d88e3f3c786e66060519c93", func := "loop.example/g01139/laws.FnExactThenShuffle", spec := "fnExactThenShuffle", unfollowed := true, recurses := true, apart := false, narrowed := true }
def FnExactThenShuffleUptoSaid : Prop := fnExactThenShuffleUptoRow.holds Try.pinned (OpenSpec.upto fnExactThenShuffleSpec)

/-- 'laws.FnExactShuffleLanes', WHERE WHAT IT READS IS OF BULK AT MOST 1048576: true; the input reads as it did. -/
def fnExactShuffleLanesUptoRow : OpenClaim := { program := "ytcjbfnbknpolcaa", sum := "e6db613fd186f18c7e6057292033e3935323eb160d88e3f3c786e66060519c93", func := "loop.example/g01139/laws.FnExactShuffleLanes", spec := "fnExactShuffleLanes", unfollowed := true, recurses := true, apart := false, narrowed := true }
def FnExactShuffleLanesUptoSaid : Prop := fnExactShuffleLanesUptoRow.holds Try.pinned (OpenSpec.upto fnExactShuffleLanesSpec)

/-- 'laws.FnExactWidthOf', WHERE WHAT IT READS IS OF BULK AT MOST 1048576: true; the input reads as it did. -/
def fnExactWidthOfUptoRow : OpenClaim := { program := "ytcjbfnbknpolcaa", sum := "e6db613fd186f18c7e6057292033e3935323eb160d88e3f3c786e66060519c93", func := "loop.example/g01139/laws.FnExactWidthOf", spec := "fnExactWidthOf", unfollowed := true, recurses := true, apart := false, narrowed := true }
def FnExactWidthOfUptoSaid : Prop := fnExactWidthOfUptoRow.holds Try.pinned (OpenSpec.upto fnExactWidthOfSpec)

/-- 'laws.FnExactIsNetwork', WHERE WHAT IT READS IS OF BULK AT MOST 1048576: true; the input reads as it did. -/
def fnExactIsNetworkUptoRow : OpenClaim := { program := "ytcjbfnbknpolcaa", sum := "e6db613fd186f18c7e6057292033e3935323eb160d88e3f3c786e66060519c93", func := "loop.example/g01139/laws.FnExactIsNetwork", spec := "fnExactIsNetwork", unfollowed := true, recurses := true, apart := false, narrowed := true }
def FnExactIsNetworkUptoSaid : Prop := fnExactIsNetworkUptoRow.holds Try.pinned (OpenSpec.upto fnExactIsNetworkSpec)

/-- 'laws.FnExactNamedShuffle', WHERE WHAT IT READS IS OF BULK AT MOST 1048576: true; the input reads as it did. -/
def fnExactNamedShuffleUptoRow : OpenClaim := { program := "ytcjbfnbknpolcaa", sum := "e6db613fd186f18c7e6057292033e3935323eb160d88e3f3c786e66060519c93", func := "loop.example/g01139/laws.FnExactNamedShuffle", spec := "fnExactNamedShuffle", unfollowed := true, recurses := true, apart := false, narrowed := true }
def FnExactNamedShuffleUptoSaid : Prop := fnExactNamedShuffleUptoRow.holds Try.pinned (OpenSpec.upto fnExactNamedShuffleSpec)

/-- 'laws.FnExactValidTasks', WHERE WHAT IT READS IS OF BULK AT MOST 1048576: true; the input reads as it did. -/
def fnExactValidTasksUptoRow : OpenClaim := { program := "ytcjbfnbknpolcaa", sum := "e6db613fd186f18c7e6057292033e3935323eb160d88e3f3c786e66060519c93", func := "loop.example/g01139/laws.FnExactValidTasks", spec := "fnExactValidTasks", unfollowed := true, recurses := true, apart := false, narrowed := true }
def FnExactValidTasksUptoSaid : Prop := fnExactValidTasksUptoRow.holds Try.pinned (OpenSpec.upto fnExactValidTasksSpec)

/-- 'laws.FnExactInverseShuffle', WHERE WHAT IT READS IS OF BULK AT MOST 1048576: true; the input reads as it did. -/
def fnExactInverseShuffleUptoRow : OpenClaim := { program := "ytcjbfnbknpolcaa", sum := "e6db613fd186f18c7e6057292033e3935323eb160d88e3f3c786e66060519c93", func := "loop.example/g01139/laws.FnExactInverseShuffle", spec := "fnExactInverseShuffle", unfollowed := true, recurses := true, apart := false, narrowed := true }
def FnExactInverseShuffleUptoSaid : Prop := fnExactInverseShuffleUptoRow.holds Try.pinned (OpenSpec.upto fnExactInverseShuffleSpec)

/-- 'laws.FnExactPickLanes', WHERE WHAT IT READS IS OF BULK AT MOST 1048576: true; the input reads as it did. -/
def fnExactPickLanesUptoRow : OpenClaim := { program := "ytcjbfnbknpolcaa", sum := "e6db613fd186f18c7e6057292033e3935323eb160d88e3f3c786e66060519c93", func := "loop.example/g01139/laws.FnExactPickLanes", spec := "fnExactPickLanes", unfollowed := true, recurses := true, apart := false, narrowed := true }
def FnExactPickLanesUptoSaid : Prop := fnExactPickLanesUptoRow.holds Try.pinned (OpenSpec.upto fnExactPickLanesSpec)

end Rows
end Go.Proofs.Ytcjbfnbknpolcaa
