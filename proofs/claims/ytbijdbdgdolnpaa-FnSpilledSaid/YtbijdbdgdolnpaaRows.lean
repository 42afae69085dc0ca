/-
  No cell of these rows narrows 'for every input' (looked for: loops, veiled, ifaces, maps, wideKeys, modest, calm, conditions, laid).
  DERIVED. THE GIVEN ROWS OF THIS SEAT. 11 by the template 'for every input the law returns true; each argument reads behind the call as it read before'; 0 by the template 'total and deterministic' (their statements: YtbijdbdgdolnpaaTotals.lean).
  GIVEN WITH THE SEED: the statements are not yours to turn. If you find one false, say at which input.
  Laid BY PROGRAM, IN A SANDBOX (cutbox-rows.mjs): the forced cells as the released guide's own fill.sh prints them over the translation 222846a50a61bc05… (all of the seat's roots in one cut). By AI agents, Wed Nov 11 2026. No macro, syntax, notation, axiom, sorry.
-/
import Derived.Test.YtbijdbdgdolnpaaChecked
import GoSem.Claim
import GoSem.ClaimJoined
import GoSem.ClaimMapViews
import Derived.JoinedTies
import Derived.KernelRfl
namespace Go.Proofs.Ytbijdbdgdolnpaa
/- THE CELL 'sum', in the pinned program and in every row, IS THE sha256 OF THE DUMP (.gsa) THAT YtbijdbdgdolnpaaProg.lean LOADS. Nothing in Lean hashes anything: it is a label: what it is worth is what the hold of that sum in a sandbox is worth. -/
noncomputable def Try.pinned : Pinned := { name := "ytbijdbdgdolnpaa", sum := "222846a50a61bc057d0ef48e5591255b0edc954e48d712ea704de561b8d048e7", checked := Try.checked }
namespace Rows
def none {H : Type} : Left H := { results := [], args := [] }

/-- 'laws.FnTransposed': WHATEVER THE INPUT: true; the input reads as it did. -/
def fnTransposedSpec : ChangeSpec := { name := "fnTransposed", fn := fun _ => fun
  | [d1, d2] => { results := [.lit (.bool true)], args := [d1, d2] }
  | _ => none }
def fnTransposedRow : OpenClaim := { program := "ytbijdbdgdolnpaa", sum := "222846a50a61bc057d0ef48e5591255b0edc954e48d712ea704de561b8d048e7", func := "loop.example/g01139/laws.FnTransposed", spec := "fnTransposed", unfollowed := true, recurses := true, apart := false }
def FnTransposedSaid : Prop := fnTransposedRow.holds Try.pinned (OpenSpec.ofChange fnTransposedSpec)

/-- ITS FALSE NEIGHBOUR: 'it returns false'. Refute it at one input. -/
def fnTransposedWrong : ChangeSpec := { name := "fnTransposed", fn := fun _ => fun
  | [d1, d2] => { results := [.lit (.bool false)], args := [d1, d2] }
  | _ => none }
def FnTransposedWrongFalsely : Prop := fnTransposedRow.holds Try.pinned (OpenSpec.ofChange fnTransposedWrong)

/-- 'laws.FnSpilled': WHATEVER THE INPUT: true; the input reads as it did. -/
def fnSpilledSpec : ChangeSpec := { name := "fnSpilled", fn := fun _ => fun
  | [d1, d2] => { results := [.lit (.bool true)], args := [d1, d2] }
  | _ => none }
def fnSpilledRow : OpenClaim := { program := "ytbijdbdgdolnpaa", sum := "222846a50a61bc057d0ef48e5591255b0edc954e48d712ea704de561b8d048e7", func := "loop.example/g01139/laws.FnSpilled", spec := "fnSpilled", unfollowed := true, recurses := true, apart := false }
def FnSpilledSaid : Prop := fnSpilledRow.holds Try.pinned (OpenSpec.ofChange fnSpilledSpec)

/-- ITS FALSE NEIGHBOUR: 'it returns false'. Refute it at one input. -/
def fnSpilledWrong : ChangeSpec := { name := "fnSpilled", fn := fun _ => fun
  | [d1, d2] => { results := [.lit (.bool false)], args := [d1, d2] }
  | _ => none }
def FnSpilledWrongFalsely : Prop := fnSpilledRow.holds Try.pinned (OpenSpec.ofChange fnSpilledWrong)

/-- 'laws.FnExactValidState': WHATEVER THE INPUT: true; the input reads as it did. -/
def fnExactValidStateSpec : ChangeSpec := { name := "fnExactValidState", fn := fun _ => fun
  | [d1, d2] => { results := [.lit (.bool true)], args := [d1, d2] }
  | _ => none }
def fnExactValidStateRow : OpenClaim := { program := "ytbijdbdgdolnpaa", sum := "222846a50a61bc057d0ef48e5591255b0edc954e48d712ea704de561b8d048e7", func := "loop.example/g01139/laws.FnExactValidState", spec := "fnExactValidState", unfollowed := true, recurses := true, apart := false }
def FnExactValidStateSaid : Prop := fnExactValidStateRow.holds Try.pinned (OpenSpec.ofChange fnExactValidStateSpec)

/-- ITS FALSE NEIGHBOUR: 'it returns false'. Refute it at one input. -/
def fnExactValidStateWrong : ChangeSpec := { name := "fnExactValidState", fn := fun _ => fun
  | [d1, d2] => { results := [.lit (.bool false)], args := [d1, d2] }
  | _ => none }
def FnExactValidStateWrongFalsely : Prop := fnExactValidStateRow.holds Try.pinned (OpenSpec.ofChange fnExactValidStateWrong)

/-- 'laws.FnExactTransposeLanes': WHATEVER THE INPUT: true; the input reads as it did. -/
def fnExactTransposeLanesSpec : ChangeSpec := { name := "fnExactTransposeLanes", fn := fun _ => fun
  | [d1, d2] => { results := [.lit (.bool true)], args := [d1, d2] }
  | _ => none }
def fnExactTransposeLanesRow : OpenClaim := { program := "ytbijdbdgdolnpaa", sum := "222846a50a61bc057d0ef48e5591255b0edc954e48d712ea704de561b8d048e7", func := "loop.example/g01139/laws.FnExactTransposeLanes", spec := "fnExactTransposeLanes", unfollowed := true, recurses := true, apart := false }
def FnExactTransposeLanesSaid : Prop := fnExactTransposeLanesRow.holds Try.pinned (OpenSpec.ofChange fnExactTransposeLanesSpec)

/-- ITS FALSE NEIGHBOUR: 'it returns false'. Refute it at one input. -/
def fnExactTransposeLanesWrong : ChangeSpec := { name := "fnExactTransposeLanes", fn := fun _ => fun
  | [d1, d2] => { results := [.lit (.bool false)], args := [d1, d2] }
  | _ => none }
def FnExactTransposeLanesWrongFalsely : Prop := fnExactTransposeLanesRow.holds Try.pinned (OpenSpec.ofChange fnExactTransposeLanesWrong)

/-- 'laws.FnExactNewState': WHATEVER THE INPUT: true; the input reads as it did. -/
def fnExactNewStateSpec : ChangeSpec := { name := "fnExactNewState", fn := fun _ => fun
  | [d1, d2] => { results := [.lit (.bool true)], args := [d1, d2] }
  | _ => none }
def fnExactNewStateRow : OpenClaim := { program := "ytbijdbdgdolnpaa", sum := "222846a50a61bc057d0ef48e5591255b0edc954e48d712ea704de561b8d048e7", func := "loop.example/g01139/laws.FnExactNewState", spec := "fnExactNewState", unfollowed := true, recurses := true, apart := false }
def FnExactNewStateSaid : Prop := fnExactNewStateRow.holds Try.pinned (OpenSpec.ofChange fnExactNewStateSpec)

/-- ITS FALSE NEIGHBOUR: 'it returns false'. Refute it at one input. -/
def fnExactNewStateWrong : ChangeSpec := { name := "fnExactNewState", fn := fun _ => fun
  | [d1, d2] => { results := [.lit (.bool false)], args := [d1, d2] }
  | _ => none }
def FnExactNewStateWrongFalsely : Prop := fnExactNewStateRow.holds Try.pinned (OpenSpec.ofChange fnExactNewStateWrong)

/-- 'laws.FnExactIsSchedule': WHATEVER THE INPUT: true; the input reads as it did. -/
def fnExactIsScheduleSpec : ChangeSpec := { name := "fnExactIsSchedule", fn := fun _ => fun
  | [d1, d2] => { results := [.lit (.bool true)], args := [d1, d2] }
  | _ => none }
def fnExactIsScheduleRow : OpenClaim := { program := "ytbijdbdgdolnpaa", sum := "222846a50a61bc057d0ef48e5591255b0edc954e48d712ea704de561b8d048e7", func := "loop.example/g01139/laws.FnExactIsSchedule", spec := "fnExactIsSchedule", unfollowed := true, recurses := true, apart := false }
def FnExactIsScheduleSaid : Prop := fnExactIsScheduleRow.holds Try.pinned (OpenSpec.ofChange fnExactIsScheduleSpec)

/-- ITS FALSE NEIGHBOUR: 'it returns false'. Refute it at one input. -/
def fnExactIsScheduleWrong : ChangeSpec := { name := "fnExactIsSchedule", fn := fun _ => fun
  | [d1, d2] => { results := [.lit (.bool false)], args := [d1, d2] }
  | _ => none }
def FnExactIsScheduleWrongFalsely : Prop := fnExactIsScheduleRow.holds Try.pinned (OpenSpec.ofChange fnExactIsScheduleWrong)

/-- 'laws.FnExactPathBound': WHATEVER THE INPUT: true; the input reads as it did. -/
def fnExactPathBoundSpec : ChangeSpec := { name := "fnExactPathBound", fn := fun _ => fun
  | [d] => { results := [.lit (.bool true)], args := [d] }
  | _ => none }
def fnExactPathBoundRow : OpenClaim := { program := "ytbijdbdgdolnpaa", sum := "222846a50a61bc057d0ef48e5591255b0edc954e48d712ea704de561b8d048e7", func := "loop.example/g01139/laws.FnExactPathBound", spec := "fnExactPathBound", unfollowed := true, recurses := true, apart := false }
def FnExactPathBoundSaid : Prop := fnExactPathBoundRow.holds Try.pinned (OpenSpec.ofChange fnExactPathBoundSpec)

/-- ITS FALSE NEIGHBOUR: 'it returns false'. Refute it at one input. -/
def fnExactPathBoundWrong : ChangeSpec := { name := "fnExactPathBound", fn := fun _ => fun
  | [d] => { results := [.lit (.bool false)], args := [d] }
  | _ => none }
def FnExactPathBoundWrongFalsely : Prop := fnExactPathBoundRow.holds Try.pinned (OpenSpec.ofChange fnExactPathBoundWrong)

/-- 'laws.FnExactTransposeStep': WHATEVER THE INPUT: true; the input reads as it did. -/
def fnExactTransposeStepSpec : ChangeSpec := { name := "fnExactTransposeStep", fn := fun _ => fun
  | [d1, d2, d3] => { results := [.lit (.bool true)], args := [d1, d2, d3] }
  | _ => none }
def fnExactTransposeStepRow : OpenClaim := { program := "ytbijdbdgdolnpaa", sum := "222846a50a61bc057d0ef48e5591255b0edc954e48d712ea704de561b8d048e7", func := "loop.example/g01139/laws.FnExactTransposeStep", spec := "fnExactTransposeStep", unfollowed := true, recurses := true, apart := false }
def FnExactTransposeStepSaid : Prop := fnExactTransposeStepRow.holds Try.pinned (OpenSpec.ofChange fnExactTransposeStepSpec)

/-- ITS FALSE NEIGHBOUR: 'it returns false'. Refute it at one input. -/
def fnExactTransposeStepWrong : ChangeSpec := { name := "fnExactTransposeStep", fn := fun _ => fun
  | [d1, d2, d3] => { results := [.lit (.bool false)], args := [d1, d2, d3] }
  | _ => none }
def FnExactTransposeStepWrongFalsely : Prop := fnExactTransposeStepRow.holds Try.pinned (OpenSpec.ofChange fnExactTransposeStepWrong)

/-- 'laws.FnExactPortBound': WHATEVER THE INPUT: true; the input reads as it did. -/
def fnExactPortBoundSpec : ChangeSpec := { name := "fnExactPortBound", fn := fun _ => fun
  | [d] => { results := [.lit (.bool true)], args := [d] }
  | _ => none }
def fnExactPortBoundRow : OpenClaim := { program := "ytbijdbdgdolnpaa", sum := "222846a50a61bc057d0ef48e5591255b0edc954e48d712ea704de561b8d048e7", func := "loop.example/g01139/laws.FnExactPortBound", spec := "fnExactPortBound", unfollowed := true, recurses := true, apart := false }
def FnExactPortBoundSaid : Prop := fnExactPortBoundRow.holds Try.pinned (OpenSpec.ofChange fnExactPortBoundSpec)

/-- ITS FALSE NEIGHBOUR: 'it returns false'. Refute it at one input. -/
def fnExactPortBoundWrong : ChangeSpec := { name := "fnExactPortBound", fn := fun _ => fun
  | [d] => { results := [.lit (.bool false)], args := [d] }
  | _ => none }
def FnExactPortBoundWrongFalsely : Prop := fnExactPortBoundRow.holds Try.pinned (OpenSpec.ofChange fnExactPortBoundWrong)

/-- 'laws.FnExactIsTaskOrder': WHATEVER THE INPUT: true; the input reads as it did. -/
def fnExactIsTaskOrderSpec : ChangeSpec := { name := "fnExactIsTaskOrder", fn := fun _ => fun
  | [d1, d2] => { results := [.lit (.bool true)], args := [d1, d2] }
  | _ => none }
def fnExactIsTaskOrderRow : OpenClaim := { program := "ytbijdbdgdolnpaa", sum := "222846a50a61bc057d0ef48e5591255b0edc954e48d712ea704de561b8d048e7", func := "loop.example/g01139/laws.FnExactIsTaskOrder", spec := "fnExactIsTaskOrder", unfollowed := true, recurses := true, apart := false }
def FnExactIsTaskOrderSaid : Prop := fnExactIsTaskOrderRow.holds Try.pinned (OpenSpec.ofChange fnExactIsTaskOrderSpec)

/-- ITS FALSE NEIGHBOUR: 'it returns false'. Refute it at one input. -/
def fnExactIsTaskOrderWrong : ChangeSpec := { name := "fnExactIsTaskOrder", fn := fun _ => fun
  | [d1, d2] => { results := [.lit (.bool false)], args := [d1, d2] }
  | _ => none }
def FnExactIsTaskOrderWrongFalsely : Prop := fnExactIsTaskOrderRow.holds Try.pinned (OpenSpec.ofChange fnExactIsTaskOrderWrong)

/-- 'laws.FnNamed': WHATEVER THE INPUT: true; the input reads as it did. -/
def fnNamedSpec : ChangeSpec := { name := "fnNamed", fn := fun _ => fun
  | [d1, d2] => { results := [.lit (.bool true)], args := [d1, d2] }
  | _ => none }
def fnNamedRow : OpenClaim := { program := "ytbijdbdgdolnpaa", sum := "222846a50a61bc057d0ef48e5591255b0edc954e48d712ea704de561b8d048e7", func := "loop.example/g01139/laws.FnNamed", spec := "fnNamed", unfollowed := true, recurses := true, apart := false }
def FnNamedSaid : Prop := fnNamedRow.holds Try.pinned (OpenSpec.ofChange fnNamedSpec)

/-- ITS FALSE NEIGHBOUR: 'it returns false'. Refute it at one input. -/
def fnNamedWrong : ChangeSpec := { name := "fnNamed", fn := fun _ => fun
  | [d1, d2] => { results := [.lit (.bool false)], args := [d1, d2] }
  | _ => none }
def FnNamedWrongFalsely : Prop := fnNamedRow.holds Try.pinned (OpenSpec.ofChange fnNamedWrong)

/- THE SECOND FORM. 'bulk': how many values and letters a reading holds, each counted each time it is reached (what is shared counts as often as it is met; a slice's spare places count too). A statement '..UptoSaid' is the law's where the arguments, and the package variables that the reading takes, are together of bulk at most 1048576: NARROWER than '..Said'. Prove '..Said' where nothing that the law and all that it calls make is longer than what came in: it says more and counts as full. Else prove '..UptoSaid'. A law counts once. -/
mutual
def uptoBulk {H : Type} : DataW H → Nat
  | .lit (.string bytes) => bytes.length + 1
  | .lit _ => 1
  | .nil => 1
  | .ptr d => uptoBulk d + 1
  | .slice elems spare => uptoBulkAll elems + uptoBulkAll spare + 1
  | .agg parts => uptoBulkAll parts + 1
  | .iface _ d => uptoBulk d + 1
  | .map entries => uptoBulkEntries entries + 1
  | .held _ => 1
def uptoBulkAll {H : Type} : List (DataW H) → Nat
  | [] => 0
  | d :: r => uptoBulk d + uptoBulkAll r
def uptoBulkEntries {H : Type} : List (Lit × DataW H) → Nat
  | [] => 0
  | x :: r => uptoBulkEntry x + uptoBulkEntries r
def uptoBulkEntry {H : Type} : Lit × DataW H → Nat
  | (.string bytes, d) => bytes.length + uptoBulk d + 1
  | (_, d) => uptoBulk d + 1
 end
def uptoSmall : (H : Type) → List (DataW H) → Bool := fun _ ds => decide (uptoBulkAll ds ≤ 1048576)
def OpenSpec.upto (s : _root_.Go.ChangeSpec) : _root_.Go.OpenSpec := { _root_.Go.OpenSpec.ofChange s with cond := some uptoSmall }

/-- 'laws.FnTransposed', WHERE WHAT IT READS IS OF BULK AT MOST 1048576: true; the input reads as it did. -/
def fnTransposedUptoRow : OpenClaim := { program := "ytbijdbdgdolnpaa", sum := "222846a50a61bc057d0ef48e5591255b0edc954e48d712ea704de561b8d048e7", func := "loop.example/g01139/laws.FnTransposed", spec := "fnTransposed", unfollowed := true, recurses := true, apart := false, narrowed := true }
def FnTransposedUptoSaid : Prop := fnTransposedUptoRow.holds Try.pinned (OpenSpec.upto fnTransposedSpec)

/-- 'laws.FnSpilled', WHERE WHAT IT READS IS OF BULK AT MOST 1048576: true; the input reads as it did. -/
def fnSpilledUptoRow : OpenClaim := { program := "ytbijdbdgdolnpaa", sum := "222846a50a61bc057d0ef48e5591255b0edc954e48d712ea704de561b8d048e7", func := "loop.example/g01139/laws.FnSpilled", spec := "fnSpilled", unfollowed := true, recurses := true, apart := false, narrowed := true }
def FnSpilledUptoSaid : Prop := fnSpilledUptoRow.holds Try.pinned (OpenSpec.upto fnSpilledSpec)

/-- 'laws.FnExactValidState', WHERE WHAT IT READS IS OF BULK AT MOST 1048576: true; the input reads as it did. -/
def fnExactValidStateUptoRow : OpenClaim := { program := "ytbijdbdgdolnpaa", sum := "222846a50a61bc057d0ef48e5591255b0edc954e48d712ea704de561b8d048e7", func := "loop.example/g01139/laws.FnExactValidState", spec := "fnExactValidState", unfollowed := true, recurses := true, apart := false, narrowed := true }
def FnExactValidStateUptoSaid : Prop := fnExactValidStateUptoRow.holds Try.pinned (OpenSpec.upto fnExactValidStateSpec)

/-- 'laws.FnExactTransposeLanes', WHERE WHAT IT READS IS OF BULK AT MOST 1048576: true; the input reads as it did. -/
def fnExactTransposeLanesUptoRow : OpenClaim := { program := "ytbijdbdgdolnpaa", sum := "222846a50a61bc057d0ef48e5591255b0edc954e48d712ea704de561b8d048e7", func := "loop.example/g01139/laws.FnExactTransposeLanes", spec := "fnExactTransposeLanes", unfollowed := true, recurses := true, apart := false, narrowed := true }
def FnExactTransposeLanesUptoSaid : Prop := fnExactTransposeLanesUptoRow.holds Try.pinned (OpenSpec.upto fnExactTransposeLanesSpec)

/-- 'laws.FnExactNewState', WHERE WHAT IT READS IS OF BULK AT MOST 1048576: true; the input reads as it did. -/
def fnExactNewStateUptoRow : OpenClaim := { program := "ytbijdbdgdolnpaa", sum := "222846a50a61bc057d0ef48e5591255b0edc954e48d712ea704de561b8d048e7", func := "loop.example/g01139/laws.FnExactNewState", spec := "fnExactNewState", unfollowed := true, recurses := true, apart := false, narrowed := true }
def FnExactNewStateUptoSaid : Prop := fnExactNewStateUptoRow.holds Try.pinned (OpenSpec.upto fnExactNewStateSpec)

/-- 'laws.FnExactIsSchedule', WHERE WHAT IT READS IS OF BULK AT MOST 1048576: true; the input reads as it did. -/
def fnExactIsScheduleUptoRow : OpenClaim := { program := "ytbijdbdgdolnpaa", sum := "222846a50a61bc057d0ef48e5591255b0edc954e48d712ea704de561b8d048e7", func := "loop.example/g01139/laws.FnExactIsSchedule", spec := "fnExactIsSchedule", unfollowed := true, recurses := true, apart := false, narrowed := true }
def FnExactIsScheduleUptoSaid : Prop := fnExactIsScheduleUptoRow.holds Try.pinned (OpenSpec.upto fnExactIsScheduleSpec)

/-- 'laws.FnExactPathBound', WHERE WHAT IT READS IS OF BULK AT MOST 1048576: true; the input reads as it did. -/
def fnExactPathBoundUptoRow : OpenClaim := { program := "ytbijdbdgdolnpaa", sum := "222846a50a61bc057d0ef48e5591255b0edc954e48d712ea704de561b8d048e7", func := "loop.example/g01139/laws.FnExactPathBound", spec := "fnExactPathBound", unfollowed := true, recurses := true, apart := false, narrowed := true }
def FnExactPathBoundUptoSaid : Prop := fnExactPathBoundUptoRow.holds Try.pinned (OpenSpec.upto fnExactPathBoundSpec)

/-- 'laws.FnExactTransposeStep', WHERE WHAT IT READS IS OF BULK AT MOST 1048576: true; the input reads as it did. -/
def fnExactTransposeStepUptoRow : OpenClaim := { program := "ytbijdbdgdolnpaa", sum := "222846a50a61bc057d0ef48e5591255b0edc954e48d712ea704de561b8d048e7", func := "loop.example/g01139/laws.FnExactTransposeStep", spec := "fnExactTransposeStep", unfollowed := true, recurses := true, apart := false, narrowed := true }
def FnExactTransposeStepUptoSaid : Prop := fnExactTransposeStepUptoRow.holds Try.pinned (OpenSpec.upto fnExactTransposeStepSpec)

/-- 'laws.FnExactPortBound', WHERE WHAT IT READS IS OF BULK AT MOST 1048576: true; the input reads as it did. -/
def fnExactPortBoundUptoRow : OpenClaim := { program := "ytbijdbdgdolnpaa", sum := "222846a50a61bc057d0ef48e5591255b0edc954e48d712ea704de561b8d048e7", func := "loop.example/g01139/laws.FnExactPortBound", spec := "fnExactPortBound", unfollowed := true, recurses := true, apart := false, narrowed := true }
def FnExactPortBoundUptoSaid : Prop := fnExactPortBoundUptoRow.holds Try.pinned (OpenSpec.upto fnExactPortBoundSpec)

/-- 'laws.FnExactIsTaskOrder', WHERE WHAT IT READS IS OF BULK AT MOST 1048576: true; the input reads as it did. -/
def fnExactIsTaskOrderUptoRow : OpenClaim := { program := "ytbijdbdgdolnpaa", sum := "222846a50a61bc057d0ef48e5591255b0edc954e48d712ea704de561b8d048e7", func := "loop.example/g01139/laws.FnExactIsTaskOrder", spec := "fnExactIsTaskOrder", unfollowed := true, recurses := true, apart := false, narrowed := true }
def FnExactIsTaskOrderUptoSaid : Prop := fnExactIsTaskOrderUptoRow.holds Try.pinned (OpenSpec.upto fnExactIsTaskOrderSpec)

/-- 'laws.FnNamed', WHERE WHAT IT READS IS OF BULK AT MOST 1048576: true; the input reads as it did. -/
def fnNamedUptoRow : OpenClaim := { program := "ytbijdbdgdolnpaa", sum := "222846a50a61bc057d0ef48e5591255b0edc954e48d712ea704de561b8d048e7", func := "loop.example/g01139/laws.FnNamed", spec := "fnNamed", unfollowed := true, recurses := true, apart := false, narrowed := true }
def FnNamedUptoSaid : Prop := fnNamedUptoRow.holds Try.pinned (OpenSpec.upto fnNamedSpec)

end Rows
end Go.Proofs.Ytbijdbdgdolnpaa
