/-
  No cell of these rows narrows 'for every input' (looked for: loops, veiled, ifaces, maps, wideKeys, modest, calm, conditions, laid).
  DERIVED. THE GIVEN ROWS OF THIS SEAT. 12 by the template 'for every input the law returns true; each argument reads behind the call as it read before'; 0 by the template 'total and deterministic' (their statements: YtcknhjeefdbhbaaTotals.lean).
  GIVEN WITH THE SEED: the statements are not yours to turn. If you find one false, say at which input.
  Laid BY PROGRAM, IN A SANDBOX (cutbox-rows.mjs): the forced cells as the released guide's own fill.sh prints them over the translation 50a5eb65fdfa2ab7… (all of the seat's roots in one cut). By AI agents, Wed Nov 11 2026. No macro, syntax, notation, axiom, sorry.
-/
import Derived.Test.YtcknhjeefdbhbaaChecked
import GoSem.Claim
import GoSem.ClaimJoined
import GoSem.ClaimMapViews
import Derived.JoinedTies
import Derived.KernelRfl
namespace Go.Proofs.Ytcknhjeefdbhbaa
/- THE CELL 'sum', in the pinned program and in every row, IS THE sha256 OF THE DUMP (.gsa) THAT YtcknhjeefdbhbaaProg.lean LOADS. Nothing in Lean hashes anything: it is a label: what it is worth is what the hold of that sum in a sandbox is worth. -/
noncomputable def Try.pinned : Pinned := { name := "ytcknhjeefdbhbaa", sum := "50a5eb65fdfa2ab73e40b0cd3b1f9c1adfcf0f9e6509249fc76ecbcd1361c5bb", checked := Try.checked }
namespace Rows
def none {H : Type} : Left H := { results := [], args := [] }

/-- 'laws.FnExactValidState': WHATEVER THE INPUT: true; the input reads as it did. -/
def fnExactValidStateSpec : ChangeSpec := { name := "fnExactValidState", fn := fun _ => fun
  | [d1, d2] => { results := [.lit (.bool true)], args := [d1, d2] }
  | _ => none }
def fnExactValidStateRow : OpenClaim := { program := "ytcknhjeefdbhbaa", sum := "50a5eb65fdfa2ab73e40b0cd3b1f9c1adfcf0f9e6509249fc76ecbcd1361c5bb", func := "loop.example/g01139/laws.FnExactValidState", spec := "fnExactValidState", unfollowed := true, recurses := true, apart := false }
def FnExactValidStateSaid : Prop := fnExactValidStateRow.holds Try.pinned (OpenSpec.ofChange fnExactValidStateSpec)

/-- ITS FALSE NEIGHBOUR: 'it returns false'. Refute it at one input. -/
def fnExactValidStateWrong : ChangeSpec := { name := "fnExactValidState", fn := fun _ => fun
  | [d1, d2] => { results := [.lit (.bool false)], args := [d1, d2] }
  | _ => none }
def FnExactValidStateWrongFalsely : Prop := fnExactValidStateRow.holds Try.pinned (OpenSpec.ofChange fnExactValidStateWrong)

/-- 'laws.FnExactNewState': WHATEVER THE INPUT: true; the input reads as it did. -/
def fnExactNewStateSpec : ChangeSpec := { name := "fnExactNewState", fn := fun _ => fun
  | [d1, d2] => { results := [.lit (.bool true)], args := [d1, d2] }
  | _ => none }
def fnExactNewStateRow : OpenClaim := { program := "ytcknhjeefdbhbaa", sum := "50a5eb65fdfa2ab73e40b0cd3b1f9c1adfcf0f9e6509249fc76ecbcd1361c5bb", func := "loop.example/g01139/laws.FnExactNewState", spec := "fnExactNewState", unfollowed := true, recurses := true, apart := false }
def FnExactNewStateSaid : Prop := fnExactNewStateRow.holds Try.pinned (OpenSpec.ofChange fnExactNewStateSpec)

/-- ITS FALSE NEIGHBOUR: 'it returns false'. Refute it at one input. -/
def fnExactNewStateWrong : ChangeSpec := { name := "fnExactNewState", fn := fun _ => fun
  | [d1, d2] => { results := [.lit (.bool false)], args := [d1, d2] }
  | _ => none }
def FnExactNewStateWrongFalsely : Prop := fnExactNewStateRow.holds Try.pinned (OpenSpec.ofChange fnExactNewStateWrong)

/-- 'laws.FnNamed': WHATEVER THE INPUT: true; the input reads as it did. -/
def fnNamedSpec : ChangeSpec := { name := "fnNamed", fn := fun _ => fun
  | [d1, d2] => { results := [.lit (.bool true)], args := [d1, d2] }
  | _ => none }
def fnNamedRow : OpenClaim := { program := "ytcknhjeefdbhbaa", sum := "50a5eb65fdfa2ab73e40b0cd3b1f9c1adfcf0f9e6509249fc76ecbcd1361c5bb", func := "loop.example/g01139/laws.FnNamed", spec := "fnNamed", unfollowed := true, recurses := true, apart := false }
def FnNamedSaid : Prop := fnNamedRow.holds Try.pinned (OpenSpec.ofChange fnNamedSpec)

/-- ITS FALSE NEIGHBOUR: 'it returns false'. Refute it at one input. -/
def fnNamedWrong : ChangeSpec := { name := "fnNamed", fn := fun _ => fun
  | [d1, d2] => { results := [.lit (.bool false)], args := [d1, d2] }
  | _ => none }
def FnNamedWrongFalsely : Prop := fnNamedRow.holds Try.pinned (OpenSpec.ofChange fnNamedWrong)

/-- 'laws.FnFewestSteps': WHATEVER THE INPUT: true; the input reads as it did. -/
def fnFewestStepsSpec : ChangeSpec := { name := "fnFewestSteps", fn := fun _ => fun
  | [d1, d2] => { results := [.lit (.bool true)], args := [d1, d2] }
  | _ => none }
def fnFewestStepsRow : OpenClaim := { program := "ytcknhjeefdbhbaa", sum := "50a5eb65fdfa2ab73e40b0cd3b1f9c1adfcf0f9e6509249fc76ecbcd1361c5bb", func := "loop.example/g01139/laws.FnFewestSteps", spec := "fnFewestSteps", unfollowed := true, recurses := true, apart := false }
def FnFewestStepsSaid : Prop := fnFewestStepsRow.holds Try.pinned (OpenSpec.ofChange fnFewestStepsSpec)

/-- ITS FALSE NEIGHBOUR: 'it returns false'. Refute it at one input. -/
def fnFewestStepsWrong : ChangeSpec := { name := "fnFewestSteps", fn := fun _ => fun
  | [d1, d2] => { results := [.lit (.bool false)], args := [d1, d2] }
  | _ => none }
def FnFewestStepsWrongFalsely : Prop := fnFewestStepsRow.holds Try.pinned (OpenSpec.ofChange fnFewestStepsWrong)

/-- 'laws.FnExactCountReached': WHATEVER THE INPUT: true; the input reads as it did. -/
def fnExactCountReachedSpec : ChangeSpec := { name := "fnExactCountReached", fn := fun _ => fun
  | [d1, d2] => { results := [.lit (.bool true)], args := [d1, d2] }
  | _ => none }
def fnExactCountReachedRow : OpenClaim := { program := "ytcknhjeefdbhbaa", sum := "50a5eb65fdfa2ab73e40b0cd3b1f9c1adfcf0f9e6509249fc76ecbcd1361c5bb", func := "loop.example/g01139/laws.FnExactCountReached", spec := "fnExactCountReached", unfollowed := true, recurses := true, apart := false }
def FnExactCountReachedSaid : Prop := fnExactCountReachedRow.holds Try.pinned (OpenSpec.ofChange fnExactCountReachedSpec)

/-- ITS FALSE NEIGHBOUR: 'it returns false'. Refute it at one input. -/
def fnExactCountReachedWrong : ChangeSpec := { name := "fnExactCountReached", fn := fun _ => fun
  | [d1, d2] => { results := [.lit (.bool false)], args := [d1, d2] }
  | _ => none }
def FnExactCountReachedWrongFalsely : Prop := fnExactCountReachedRow.holds Try.pinned (OpenSpec.ofChange fnExactCountReachedWrong)

/-- 'laws.FnPressed': WHATEVER THE INPUT: true; the input reads as it did. -/
def fnPressedSpec : ChangeSpec := { name := "fnPressed", fn := fun _ => fun
  | [d1, d2] => { results := [.lit (.bool true)], args := [d1, d2] }
  | _ => none }
def fnPressedRow : OpenClaim := { program := "ytcknhjeefdbhbaa", sum := "50a5eb65fdfa2ab73e40b0cd3b1f9c1adfcf0f9e6509249fc76ecbcd1361c5bb", func := "loop.example/g01139/laws.FnPressed", spec := "fnPressed", unfollowed := true, recurses := true, apart := false }
def FnPressedSaid : Prop := fnPressedRow.holds Try.pinned (OpenSpec.ofChange fnPressedSpec)

/-- ITS FALSE NEIGHBOUR: 'it returns false'. Refute it at one input. -/
def fnPressedWrong : ChangeSpec := { name := "fnPressed", fn := fun _ => fun
  | [d1, d2] => { results := [.lit (.bool false)], args := [d1, d2] }
  | _ => none }
def FnPressedWrongFalsely : Prop := fnPressedRow.holds Try.pinned (OpenSpec.ofChange fnPressedWrong)

/-- 'laws.FnAssigned': WHATEVER THE INPUT: true; the input reads as it did. -/
def fnAssignedSpec : ChangeSpec := { name := "fnAssigned", fn := fun _ => fun
  | [d1, d2] => { results := [.lit (.bool true)], args := [d1, d2] }
  | _ => none }
def fnAssignedRow : OpenClaim := { program := "ytcknhjeefdbhbaa", sum := "50a5eb65fdfa2ab73e40b0cd3b1f9c1adfcf0f9e6509249fc76ecbcd1361c5bb", func := "loop.example/g01139/laws.FnAssigned", spec := "fnAssigned", unfollowed := true, recurses := true, apart := false }
def FnAssignedSaid : Prop := fnAssignedRow.holds Try.pinned (OpenSpec.ofChange fnAssignedSpec)

/-- ITS FALSE NEIGHBOUR: 'it returns false'. Refute it at one input. -/
def fnAssignedWrong : ChangeSpec := { name := "fnAssigned", fn := fun _ => fun
  | [d1, d2] => { results := [.lit (.bool false)], args := [d1, d2] }
  | _ => none }
def FnAssignedWrongFalsely : Prop := fnAssignedRow.holds Try.pinned (OpenSpec.ofChange fnAssignedWrong)

/-- 'laws.FnExactValidInstr': WHATEVER THE INPUT: true; the input reads as it did. -/
def fnExactValidInstrSpec : ChangeSpec := { name := "fnExactValidInstr", fn := fun _ => fun
  | [d1, d2] => { results := [.lit (.bool true)], args := [d1, d2] }
  | _ => none }
def fnExactValidInstrRow : OpenClaim := { program := "ytcknhjeefdbhbaa", sum := "50a5eb65fdfa2ab73e40b0cd3b1f9c1adfcf0f9e6509249fc76ecbcd1361c5bb", func := "loop.example/g01139/laws.FnExactValidInstr", spec := "fnExactValidInstr", unfollowed := true, recurses := true, apart := false }
def FnExactValidInstrSaid : Prop := fnExactValidInstrRow.holds Try.pinned (OpenSpec.ofChange fnExactValidInstrSpec)

/-- ITS FALSE NEIGHBOUR: 'it returns false'. Refute it at one input. -/
def fnExactValidInstrWrong : ChangeSpec := { name := "fnExactValidInstr", fn := fun _ => fun
  | [d1, d2] => { results := [.lit (.bool false)], args := [d1, d2] }
  | _ => none }
def FnExactValidInstrWrongFalsely : Prop := fnExactValidInstrRow.holds Try.pinned (OpenSpec.ofChange fnExactValidInstrWrong)

/-- 'laws.FnExactShortestSteps': WHATEVER THE INPUT: true; the input reads as it did. -/
def fnExactShortestStepsSpec : ChangeSpec := { name := "fnExactShortestSteps", fn := fun _ => fun
  | [d1, d2, d3] => { results := [.lit (.bool true)], args := [d1, d2, d3] }
  | _ => none }
def fnExactShortestStepsRow : OpenClaim := { program := "ytcknhjeefdbhbaa", sum := "50a5eb65fdfa2ab73e40b0cd3b1f9c1adfcf0f9e6509249fc76ecbcd1361c5bb", func := "loop.example/g01139/laws.FnExactShortestSteps", spec := "fnExactShortestSteps", unfollowed := true, recurses := true, apart := false }
def FnExactShortestStepsSaid : Prop := fnExactShortestStepsRow.holds Try.pinned (OpenSpec.ofChange fnExactShortestStepsSpec)

/-- ITS FALSE NEIGHBOUR: 'it returns false'. Refute it at one input. -/
def fnExactShortestStepsWrong : ChangeSpec := { name := "fnExactShortestSteps", fn := fun _ => fun
  | [d1, d2, d3] => { results := [.lit (.bool false)], args := [d1, d2, d3] }
  | _ => none }
def FnExactShortestStepsWrongFalsely : Prop := fnExactShortestStepsRow.holds Try.pinned (OpenSpec.ofChange fnExactShortestStepsWrong)

/-- 'laws.FnExactListSchedule': WHATEVER THE INPUT: true; the input reads as it did. -/
def fnExactListScheduleSpec : ChangeSpec := { name := "fnExactListSchedule", fn := fun _ => fun
  | [d] => { results := [.lit (.bool true)], args := [d] }
  | _ => none }
def fnExactListScheduleRow : OpenClaim := { program := "ytcknhjeefdbhbaa", sum := "50a5eb65fdfa2ab73e40b0cd3b1f9c1adfcf0f9e6509249fc76ecbcd1361c5bb", func := "loop.example/g01139/laws.FnExactListSchedule", spec := "fnExactListSchedule", unfollowed := true, recurses := true, apart := false }
def FnExactListScheduleSaid : Prop := fnExactListScheduleRow.holds Try.pinned (OpenSpec.ofChange fnExactListScheduleSpec)

/-- ITS FALSE NEIGHBOUR: 'it returns false'. Refute it at one input. -/
def fnExactListScheduleWrong : ChangeSpec := { name := "fnExactListSchedule", fn := fun _ => fun
  | [d] => { results := [.lit (.bool false)], args := [d] }
  | _ => none }
def FnExactListScheduleWrongFalsely : Prop := fnExactListScheduleRow.holds Try.pinned (OpenSpec.ofChange fnExactListScheduleWrong)

/-- 'laws.FnExactLeastPressure': WHATEVER THE INPUT: true; the input reads as it did. -/
def fnExactLeastPressureSpec : ChangeSpec := { name := "fnExactLeastPressure", fn := fun _ => fun
  | [d] => { results := [.lit (.bool true)], args := [d] }
  | _ => none }
def fnExactLeastPressureRow : OpenClaim := { program := "ytcknhjeefdbhbaa", sum := "50a5eb65fdfa2ab73e40b0cd3b1f9c1adfcf0f9e6509249fc76ecbcd1361c5bb", func := "loop.example/g01139/laws.FnExactLeastPressure", spec := "fnExactLeastPressure", unfollowed := true, recurses := true, apart := false }
def FnExactLeastPressureSaid : Prop := fnExactLeastPressureRow.holds Try.pinned (OpenSpec.ofChange fnExactLeastPressureSpec)

/-- ITS FALSE NEIGHBOUR: 'it returns false'. Refute it at one input. -/
def fnExactLeastPressureWrong : ChangeSpec := { name := "fnExactLeastPressure", fn := fun _ => fun
  | [d] => { results := [.lit (.bool false)], args := [d] }
  | _ => none }
def FnExactLeastPressureWrongFalsely : Prop := fnExactLeastPressureRow.holds Try.pinned (OpenSpec.ofChange fnExactLeastPressureWrong)

/-- 'laws.FnExactBestSchedule': WHATEVER THE INPUT: true; the input reads as it did. -/
def fnExactBestScheduleSpec : ChangeSpec := { name := "fnExactBestSchedule", fn := fun _ => fun
  | [d] => { results := [.lit (.bool true)], args := [d] }
  | _ => none }
def fnExactBestScheduleRow : OpenClaim := { program := "ytcknhjeefdbhbaa", sum := "50a5eb65fdfa2ab73e40b0cd3b1f9c1adfcf0f9e6509249fc76ecbcd1361c5bb", func := "loop.example/g01139/laws.FnExactBestSchedule", spec := "fnExactBestSchedule", unfollowed := true, recurses := true, apart := false }
def FnExactBestScheduleSaid : Prop := fnExactBestScheduleRow.holds Try.pinned (OpenSpec.ofChange fnExactBestScheduleSpec)

/-- ITS FALSE NEIGHBOUR: 'it returns false'. Refute it at one input. -/
def fnExactBestScheduleWrong : ChangeSpec := { name := "fnExactBestSchedule", fn := fun _ => fun
  | [d] => { results := [.lit (.bool false)], args := [d] }
  | _ => none }
def FnExactBestScheduleWrongFalsely : Prop := fnExactBestScheduleRow.holds Try.pinned (OpenSpec.ofChange fnExactBestScheduleWrong)

/- THE SECOND FORM. 'bulk': how many values and letters a reading holds, each counted each time it is reached (what is shared counts as often as it is met; a slice's spare places count too). A statement '..UptoSaid' is the law's where the arguments, and the package variables that the reading takes, are together of bulk at most 1048576: NARROWER than '..Said'. Prove '..Said' where nothing that the law and all that it calls make is longer than what came in: it says more and counts as full. Else prove '..UptoSaid'. A law counts once. -/
mutual
def uptoBulk {H : Type} : DataW H → Nat
  | .lit (.string bytes) => bytes.length + 1
  | .lit _ => 1
  | .nil => 1
  | .ptr d => uptoBulk d + 1
  | .slice elems spare => uptoBulkAll elems + uptoBulkAll spare + 1
  | .agg parts => uptoBulkAll parts + 1
  | .iface _ d => uptoBulk d + 1
  | .map entries => uptoBulkEntries entries + 1
  | .held _ => 1
def uptoBulkAll {H : Type} : List (DataW H) → Nat
  | [] => 0
  | d :: r => uptoBulk d + uptoBulkAll r
def uptoBulkEntries {H : Type} : List (Lit × DataW H) → Nat
  | [] => 0
  | x :: r => uptoBulkEntry x + uptoBulkEntries r
def uptoBulkEntry {H : Type} : Lit × DataW H → Nat
  | (.string bytes, d) => bytes.length + uptoBulk d + 1
  | (_, d) => uptoBulk d + 1
 end
def uptoSmall : (H : Type) → List (DataW H) → Bool := fun _ ds => decide (uptoBulkAll ds ≤ 1048576)
def OpenSpec.upto (s : _root_.Go.ChangeSpec) : _root_.Go.OpenSpec := { _root_.Go.OpenSpec.ofChange s with cond := some uptoSmall }

/-- 'laws.FnExactValidState', WHERE WHAT IT READS IS OF BULK AT MOST 1048576: true; the input reads as it did. -/
def fnExactValidStateUptoRow : OpenClaim := { program := "ytcknhjeefdbhbaa", sum := "50a5eb65fdfa2ab73e40b0cd3b1f9c1adfcf0f9e6509249fc76ecbcd1361c5bb", func := "loop.example/g01139/laws.FnExactValidState", spec := "fnExactValidState", unfollowed := true, recurses := true, apart := false, narrowed := true }
def FnExactValidStateUptoSaid : Prop := fnExactValidStateUptoRow.holds Try.pinned (OpenSpec.upto fnExactValidStateSpec)

/-- 'laws.FnExactNewState', WHERE WHAT IT READS IS OF BULK AT MOST 1048576: true; the input reads as it did. -/
def fnExactNewStateUptoRow : OpenClaim := { program := "ytcknhjeefdbhbaa", sum := "50a5eb65fdfa2ab73e40b0cd3b1f9c1adfcf0f9e6509249fc76ecbcd1361c5bb", func := "loop.example/g01139/laws.FnExactNewState", spec := "fnExactNewState", unfollowed := true, recurses := true, apart := false, narrowed := true }
def FnExactNewStateUptoSaid : Prop := fnExactNewStateUptoRow.holds Try.pinned (OpenSpec.upto fnExactNewStateSpec)

/-- 'laws.FnNamed', WHERE WHAT IT READS IS OF BULK AT MOST 1048576: true; the input reads as it did. -/
def fnNamedUptoRow : OpenClaim := { program := "ytcknhjeefdbhbaa", sum := "50a5eb65fdfa2ab73e40b0cd3b1f9c1adfcf0f9e6509249fc76ecbcd1361c5bb", func := "loop.example/g01139/laws.FnNamed", spec := "fnNamed", unfollowed := true, recurses := true, apart := false, narrowed := true }
def FnNamedUptoSaid : Prop := fnNamedUptoRow.holds Try.pinned (OpenSpec.upto fnNamedSpec)

/-- 'laws.FnFewestSteps', WHERE WHAT IT READS IS OF BULK AT MOST 1048576: true; the input reads as it did. -/
def fnFewestStepsUptoRow : OpenClaim := { program := "ytcknhjeefdbhbaa", sum := "50a5eb65fdfa2ab73e40b0cd3b1f9c1adfcf0f9e6509249fc76ecbcd1361c5bb", func := "loop.example/g01139/laws.FnFewestSteps", spec := "fnFewestSteps", unfollowed := true, recurses := true, apart := false, narrowed := true }
def FnFewestStepsUptoSaid : Prop := fnFewestStepsUptoRow.holds Try.pinned (OpenSpec.upto fnFewestStepsSpec)

/-- 'laws.FnExactCountReached', WHERE WHAT IT READS IS OF BULK AT MOST 1048576: true; the input reads as it did. -/
def fnExactCountReachedUptoRow : OpenClaim := { program := "ytcknhjeefdbhbaa", sum := "50a5eb65fdfa2ab73e40b0cd3b1f9c1adfcf0f9e6509249fc76ecbcd1361c5bb", func := "loop.example/g01139/laws.FnExactCountReached", spec := "fnExactCountReached", unfollowed := true, recurses := true, apart := false, narrowed := true }
def FnExactCountReachedUptoSaid : Prop := fnExactCountReachedUptoRow.holds Try.pinned (OpenSpec.upto fnExactCountReachedSpec)

/-- 'laws.FnPressed', WHERE WHAT IT READS IS OF BULK AT MOST 1048576: true; the input reads as it did. -/
def fnPressedUptoRow : OpenClaim := { program := "ytcknhjeefdbhbaa", sum := "50a5eb65fdfa2ab73e40b0cd3b1f9c1adfcf0f9e6509249fc76ecbcd1361c5bb", func := "loop.example/g01139/laws.FnPressed", spec := "fnPressed", unfollowed := true, recurses := true, apart := false, narrowed := true }
def FnPressedUptoSaid : Prop := fnPressedUptoRow.holds Try.pinned (OpenSpec.upto fnPressedSpec)

/-- 'laws.FnAssigned', WHERE WHAT IT READS IS OF BULK AT MOST 1048576: true; the input reads as it did. -/
def fnAssignedUptoRow : OpenClaim := { program := "ytcknhjeefdbhbaa", sum := "50a5eb65fdfa2ab73e40b0cd3b1f9c1adfcf0f9e6509249fc76ecbcd1361c5bb", func := "loop.example/g01139/laws.FnAssigned", spec := "fnAssigned", unfollowed := true, recurses := true, apart := false, narrowed := true }
def FnAssignedUptoSaid : Prop := fnAssignedUptoRow.holds Try.pinned (OpenSpec.upto fnAssignedSpec)

/-- 'laws.FnExactValidInstr', WHERE WHAT IT READS IS OF BULK AT MOST 1048576: true; the input reads as it did. -/
def fnExactValidInstrUptoRow : OpenClaim := { program := "ytcknhjeefdbhbaa", sum := "50a5eb65fdfa2ab73e40b0cd3b1f9c1adfcf0f9e6509249fc76ecbcd1361c5bb", func := "loop.example/g01139/laws.FnExactValidInstr", spec := "fnExactValidInstr", unfollowed := true, recurses := true, apart := false, narrowed := true }
def FnExactValidInstrUptoSaid : Prop := fnExactValidInstrUptoRow.holds Try.pinned (OpenSpec.upto fnExactValidInstrSpec)

/-- 'laws.FnExactShortestSteps', WHERE WHAT IT READS IS OF BULK AT MOST 1048576: true; the input reads as it did. -/
def fnExactShortestStepsUptoRow : OpenClaim := { program := "ytcknhjeefdbhbaa", sum := "50a5eb65fdfa2ab73e40b0cd3b1f9c1adfcf0f9e6509249fc76ecbcd1361c5bb", func := "loop.example/g01139/laws.FnExactShortestSteps", spec := "fnExactShortestSteps", unfollowed := true, recurses := true, apart := false, narrowed := true }
def FnExactShortestStepsUptoSaid : Prop := fnExactShortestStepsUptoRow.holds Try.pinned (OpenSpec.upto fnExactShortestStepsSpec)

/-- 'laws.FnExactListSchedule', WHERE WHAT IT READS IS OF BULK AT MOST 1048576: true; the input reads as it did. -/
def fnExactListScheduleUptoRow : OpenClaim := { program := "ytcknhjeefdbhbaa", sum := "50a5eb65fdfa2ab73e40b0cd3b1f9c1adfcf0f9e6509249fc76ecbcd1361c5bb", func := "loop.example/g01139/laws.FnExactListSchedule", spec := "fnExactListSchedule", unfollowed := true, recurses := true, apart := false, narrowed := true }
def FnExactListScheduleUptoSaid : Prop := fnExactListScheduleUptoRow.holds Try.pinned (OpenSpec.upto fnExactListScheduleSpec)

/-- 'laws.FnExactLeastPressure', WHERE WHAT IT READS IS OF BULK AT MOST 1048576: true; the input reads as it did. -/
def fnExactLeastPressureUptoRow : OpenClaim := { program := "ytcknhjeefdbhbaa", sum := "50a5eb65fdfa2ab73e40b0cd3b1f9c1adfcf0f9e6509249fc76ecbcd1361c5bb", func := "loop.example/g01139/laws.FnExactLeastPressure", spec := "fnExactLeastPressure", unfollowed := true, recurses := true, apart := false, narrowed := true }
def FnExactLeastPressureUptoSaid : Prop := fnExactLeastPressureUptoRow.holds Try.pinned (OpenSpec.upto fnExactLeastPressureSpec)

/-- 'laws.FnExactBestSchedule', WHERE WHAT IT READS IS OF BULK AT MOST 1048576: true; the input reads as it did. -/
def fnExactBestScheduleUptoRow : OpenClaim := { program := "ytcknhjeefdbhbaa", sum := "50a5eb65fdfa2ab73e40b0cd3b1f9c1adfcf0f9e6509249fc76ecbcd1361c5bb", func := "loop.example/g01139/laws.FnExactBestSchedule", spec := "fnExactBestSchedule", unfollowed := true, recurses := true, apart := false, narrowed := true }
def FnExactBestScheduleUptoSaid : Prop := fnExactBestScheduleUptoRow.holds Try.pinned (OpenSpec.upto fnExactBestScheduleSpec)

end Rows
end Go.Proofs.Ytcknhjeefdbhbaa
