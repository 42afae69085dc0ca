/-
  No cell of these rows narrows 'for every input' (looked for: loops, veiled, ifaces, maps, wideKeys, modest, calm, conditions, laid).
  DERIVED. THE GIVEN ROWS OF THIS SEAT. 12 by the template 'for every input the law returns true; each argument reads behind the call as it read before'; 0 by the template 'total and deterministic' (their statements: YthgfcoafngddgaaTotals.lean).
  GIVEN WITH THE SEED: the statements are not yours to turn. If you find one false, say at which input.
  Laid BY PROGRAM, IN A SANDBOX (cutbox-rows.mjs): the forced cells as the released guide's own fill.sh prints them over the translation c8b0fb86d0158aaf… (all of the seat's roots in one cut). By AI agents, Wed Nov 11 2026. No macro, syntax, notation, axiom, sorry.
-/
import Derived.Test.YthgfcoafngddgaaChecked
import GoSem.Claim
import GoSem.ClaimJoined
import GoSem.ClaimMapViews
import Derived.JoinedTies
import Derived.KernelRfl
namespace Go.Proofs.Ythgfcoafngddgaa
/- THE CELL 'sum', in the pinned program and in every row, IS THE sha256 OF THE DUMP (.gsa) THAT YthgfcoafngddgaaProg.lean LOADS. Nothing in Lean hashes anything: it is a label: what it is worth is what the hold of that sum in a sandbox is worth. -/
noncomputable def Try.pinned : Pinned := { name := "ythgfcoafngddgaa", sum := "c8b0fb86d0158aafb826b786ffd1c7095bf6df5482933dc71a50cf27226d6a89", checked := Try.checked }
namespace Rows
def none {H : Type} : Left H := { results := [], args := [] }

/-- 'laws.FnExactHeightsOf': WHATEVER THE INPUT: true; the input reads as it did. -/
def fnExactHeightsOfSpec : ChangeSpec := { name := "fnExactHeightsOf", fn := fun _ => fun
  | [d] => { results := [.lit (.bool true)], args := [d] }
  | _ => none }
def fnExactHeightsOfRow : OpenClaim := { program := "ythgfcoafngddgaa", sum := "c8b0fb86d0158aafb826b786ffd1c7095bf6df5482933dc71a50cf27226d6a89", func := "loop.example/g01139/laws.FnExactHeightsOf", spec := "fnExactHeightsOf", unfollowed := true, recurses := true, apart := false }
def FnExactHeightsOfSaid : Prop := fnExactHeightsOfRow.holds Try.pinned (OpenSpec.ofChange fnExactHeightsOfSpec)

/-- ITS FALSE NEIGHBOUR: 'it returns false'. Refute it at one input. -/
def fnExactHeightsOfWrong : ChangeSpec := { name := "fnExactHeightsOf", fn := fun _ => fun
  | [d] => { results := [.lit (.bool false)], args := [d] }
  | _ => none }
def FnExactHeightsOfWrongFalsely : Prop := fnExactHeightsOfRow.holds Try.pinned (OpenSpec.ofChange fnExactHeightsOfWrong)

/-- 'laws.FnExactLengthOf': WHATEVER THE INPUT: true; the input reads as it did. -/
def fnExactLengthOfSpec : ChangeSpec := { name := "fnExactLengthOf", fn := fun _ => fun
  | [d1, d2] => { results := [.lit (.bool true)], args := [d1, d2] }
  | _ => none }
def fnExactLengthOfRow : OpenClaim := { program := "ythgfcoafngddgaa", sum := "c8b0fb86d0158aafb826b786ffd1c7095bf6df5482933dc71a50cf27226d6a89", func := "loop.example/g01139/laws.FnExactLengthOf", spec := "fnExactLengthOf", unfollowed := true, recurses := true, apart := false }
def FnExactLengthOfSaid : Prop := fnExactLengthOfRow.holds Try.pinned (OpenSpec.ofChange fnExactLengthOfSpec)

/-- ITS FALSE NEIGHBOUR: 'it returns false'. Refute it at one input. -/
def fnExactLengthOfWrong : ChangeSpec := { name := "fnExactLengthOf", fn := fun _ => fun
  | [d1, d2] => { results := [.lit (.bool false)], args := [d1, d2] }
  | _ => none }
def FnExactLengthOfWrongFalsely : Prop := fnExactLengthOfRow.holds Try.pinned (OpenSpec.ofChange fnExactLengthOfWrong)

/-- 'laws.FnExactRunNetwork': WHATEVER THE INPUT: true; the input reads as it did. -/
def fnExactRunNetworkSpec : ChangeSpec := { name := "fnExactRunNetwork", fn := fun _ => fun
  | [d1, d2, d3] => { results := [.lit (.bool true)], args := [d1, d2, d3] }
  | _ => none }
def fnExactRunNetworkRow : OpenClaim := { program := "ythgfcoafngddgaa", sum := "c8b0fb86d0158aafb826b786ffd1c7095bf6df5482933dc71a50cf27226d6a89", func := "loop.example/g01139/laws.FnExactRunNetwork", spec := "fnExactRunNetwork", unfollowed := true, recurses := true, apart := false }
def FnExactRunNetworkSaid : Prop := fnExactRunNetworkRow.holds Try.pinned (OpenSpec.ofChange fnExactRunNetworkSpec)

/-- ITS FALSE NEIGHBOUR: 'it returns false'. Refute it at one input. -/
def fnExactRunNetworkWrong : ChangeSpec := { name := "fnExactRunNetwork", fn := fun _ => fun
  | [d1, d2, d3] => { results := [.lit (.bool false)], args := [d1, d2, d3] }
  | _ => none }
def FnExactRunNetworkWrongFalsely : Prop := fnExactRunNetworkRow.holds Try.pinned (OpenSpec.ofChange fnExactRunNetworkWrong)

/-- 'laws.FnFewestSteps': WHATEVER THE INPUT: true; the input reads as it did. -/
def fnFewestStepsSpec : ChangeSpec := { name := "fnFewestSteps", fn := fun _ => fun
  | [d1, d2] => { results := [.lit (.bool true)], args := [d1, d2] }
  | _ => none }
def fnFewestStepsRow : OpenClaim := { program := "ythgfcoafngddgaa", sum := "c8b0fb86d0158aafb826b786ffd1c7095bf6df5482933dc71a50cf27226d6a89", func := "loop.example/g01139/laws.FnFewestSteps", spec := "fnFewestSteps", unfollowed := true, recurses := true, apart := false }
def FnFewestStepsSaid : Prop := fnFewestStepsRow.holds Try.pinned (OpenSpec.ofChange fnFewestStepsSpec)

/-- ITS FALSE NEIGHBOUR: 'it returns false'. Refute it at one input. -/
def fnFewestStepsWrong : ChangeSpec := { name := "fnFewestSteps", fn := fun _ => fun
  | [d1, d2] => { results := [.lit (.bool false)], args := [d1, d2] }
  | _ => none }
def FnFewestStepsWrongFalsely : Prop := fnFewestStepsRow.holds Try.pinned (OpenSpec.ofChange fnFewestStepsWrong)

/-- 'laws.FnExactCountReached': WHATEVER THE INPUT: true; the input reads as it did. -/
def fnExactCountReachedSpec : ChangeSpec := { name := "fnExactCountReached", fn := fun _ => fun
  | [d1, d2] => { results := [.lit (.bool true)], args := [d1, d2] }
  | _ => none }
def fnExactCountReachedRow : OpenClaim := { program := "ythgfcoafngddgaa", sum := "c8b0fb86d0158aafb826b786ffd1c7095bf6df5482933dc71a50cf27226d6a89", func := "loop.example/g01139/laws.FnExactCountReached", spec := "fnExactCountReached", unfollowed := true, recurses := true, apart := false }
def FnExactCountReachedSaid : Prop := fnExactCountReachedRow.holds Try.pinned (OpenSpec.ofChange fnExactCountReachedSpec)

/-- ITS FALSE NEIGHBOUR: 'it returns false'. Refute it at one input. -/
def fnExactCountReachedWrong : ChangeSpec := { name := "fnExactCountReached", fn := fun _ => fun
  | [d1, d2] => { results := [.lit (.bool false)], args := [d1, d2] }
  | _ => none }
def FnExactCountReachedWrongFalsely : Prop := fnExactCountReachedRow.holds Try.pinned (OpenSpec.ofChange fnExactCountReachedWrong)

/-- 'laws.FnPressed': WHATEVER THE INPUT: true; the input reads as it did. -/
def fnPressedSpec : ChangeSpec := { name := "fnPressed", fn := fun _ => fun
  | [d1, d2] => { results := [.lit (.bool true)], args := [d1, d2] }
  | _ => none }
def fnPressedRow : OpenClaim := { program := "ythgfcoafngddgaa", sum := "c8b0fb86d0158aafb826b786ffd1c7095bf6df5482933dc71a50cf27226d6a89", func := "loop.example/g01139/laws.FnPressed", spec := "fnPressed", unfollowed := true, recurses := true, apart := false }
def FnPressedSaid : Prop := fnPressedRow.holds Try.pinned (OpenSpec.ofChange fnPressedSpec)

/-- ITS FALSE NEIGHBOUR: 'it returns false'. Refute it at one input. -/
def fnPressedWrong : ChangeSpec := { name := "fnPressed", fn := fun _ => fun
  | [d1, d2] => { results := [.lit (.bool false)], args := [d1, d2] }
  | _ => none }
def FnPressedWrongFalsely : Prop := fnPressedRow.holds Try.pinned (OpenSpec.ofChange fnPressedWrong)

/-- 'laws.FnAssigned': WHATEVER THE INPUT: true; the input reads as it did. -/
def fnAssignedSpec : ChangeSpec := { name := "fnAssigned", fn := fun _ => fun
  | [d1, d2] => { results := [.lit (.bool true)], args := [d1, d2] }
  | _ => none }
def fnAssignedRow : OpenClaim := { program := "ythgfcoafngddgaa", sum := "c8b0fb86d0158aafb826b786ffd1c7095bf6df5482933dc71a50cf27226d6a89", func := "loop.example/g01139/laws.FnAssigned", spec := "fnAssigned", unfollowed := true, recurses := true, apart := false }
def FnAssignedSaid : Prop := fnAssignedRow.holds Try.pinned (OpenSpec.ofChange fnAssignedSpec)

/-- ITS FALSE NEIGHBOUR: 'it returns false'. Refute it at one input. -/
def fnAssignedWrong : ChangeSpec := { name := "fnAssigned", fn := fun _ => fun
  | [d1, d2] => { results := [.lit (.bool false)], args := [d1, d2] }
  | _ => none }
def FnAssignedWrongFalsely : Prop := fnAssignedRow.holds Try.pinned (OpenSpec.ofChange fnAssignedWrong)

/-- 'laws.FnExactFewestSpills': WHATEVER THE INPUT: true; the input reads as it did. -/
def fnExactFewestSpillsSpec : ChangeSpec := { name := "fnExactFewestSpills", fn := fun _ => fun
  | [d1, d2] => { results := [.lit (.bool true)], args := [d1, d2] }
  | _ => none }
def fnExactFewestSpillsRow : OpenClaim := { program := "ythgfcoafngddgaa", sum := "c8b0fb86d0158aafb826b786ffd1c7095bf6df5482933dc71a50cf27226d6a89", func := "loop.example/g01139/laws.FnExactFewestSpills", spec := "fnExactFewestSpills", unfollowed := true, recurses := true, apart := false }
def FnExactFewestSpillsSaid : Prop := fnExactFewestSpillsRow.holds Try.pinned (OpenSpec.ofChange fnExactFewestSpillsSpec)

/-- ITS FALSE NEIGHBOUR: 'it returns false'. Refute it at one input. -/
def fnExactFewestSpillsWrong : ChangeSpec := { name := "fnExactFewestSpills", fn := fun _ => fun
  | [d1, d2] => { results := [.lit (.bool false)], args := [d1, d2] }
  | _ => none }
def FnExactFewestSpillsWrongFalsely : Prop := fnExactFewestSpillsRow.holds Try.pinned (OpenSpec.ofChange fnExactFewestSpillsWrong)

/-- 'laws.FnExactPressureOf': WHATEVER THE INPUT: true; the input reads as it did. -/
def fnExactPressureOfSpec : ChangeSpec := { name := "fnExactPressureOf", fn := fun _ => fun
  | [d1, d2] => { results := [.lit (.bool true)], args := [d1, d2] }
  | _ => none }
def fnExactPressureOfRow : OpenClaim := { program := "ythgfcoafngddgaa", sum := "c8b0fb86d0158aafb826b786ffd1c7095bf6df5482933dc71a50cf27226d6a89", func := "loop.example/g01139/laws.FnExactPressureOf", spec := "fnExactPressureOf", unfollowed := true, recurses := true, apart := false }
def FnExactPressureOfSaid : Prop := fnExactPressureOfRow.holds Try.pinned (OpenSpec.ofChange fnExactPressureOfSpec)

/-- ITS FALSE NEIGHBOUR: 'it returns false'. Refute it at one input. -/
def fnExactPressureOfWrong : ChangeSpec := { name := "fnExactPressureOf", fn := fun _ => fun
  | [d1, d2] => { results := [.lit (.bool false)], args := [d1, d2] }
  | _ => none }
def FnExactPressureOfWrongFalsely : Prop := fnExactPressureOfRow.holds Try.pinned (OpenSpec.ofChange fnExactPressureOfWrong)

/-- 'laws.FnExactValidInstr': WHATEVER THE INPUT: true; the input reads as it did. -/
def fnExactValidInstrSpec : ChangeSpec := { name := "fnExactValidInstr", fn := fun _ => fun
  | [d1, d2] => { results := [.lit (.bool true)], args := [d1, d2] }
  | _ => none }
def fnExactValidInstrRow : OpenClaim := { program := "ythgfcoafngddgaa", sum := "c8b0fb86d0158aafb826b786ffd1c7095bf6df5482933dc71a50cf27226d6a89", func := "loop.example/g01139/laws.FnExactValidInstr", spec := "fnExactValidInstr", unfollowed := true, recurses := true, apart := false }
def FnExactValidInstrSaid : Prop := fnExactValidInstrRow.holds Try.pinned (OpenSpec.ofChange fnExactValidInstrSpec)

/-- ITS FALSE NEIGHBOUR: 'it returns false'. Refute it at one input. -/
def fnExactValidInstrWrong : ChangeSpec := { name := "fnExactValidInstr", fn := fun _ => fun
  | [d1, d2] => { results := [.lit (.bool false)], args := [d1, d2] }
  | _ => none }
def FnExactValidInstrWrongFalsely : Prop := fnExactValidInstrRow.holds Try.pinned (OpenSpec.ofChange fnExactValidInstrWrong)

/-- 'laws.FnExactShortestSteps': WHATEVER THE INPUT: true; the input reads as it did. -/
def fnExactShortestStepsSpec : ChangeSpec := { name := "fnExactShortestSteps", fn := fun _ => fun
  | [d1, d2, d3] => { results := [.lit (.bool true)], args := [d1, d2, d3] }
  | _ => none }
def fnExactShortestStepsRow : OpenClaim := { program := "ythgfcoafngddgaa", sum := "c8b0fb86d0158aafb826b786ffd1c7095bf6df5482933dc71a50cf27226d6a89", func := "loop.example/g01139/laws.FnExactShortestSteps", spec := "fnExactShortestSteps", unfollowed := true, recurses := true, apart := false }
def FnExactShortestStepsSaid : Prop := fnExactShortestStepsRow.holds Try.pinned (OpenSpec.ofChange fnExactShortestStepsSpec)

/-- ITS FALSE NEIGHBOUR: 'it returns false'. Refute it at one input. -/
def fnExactShortestStepsWrong : ChangeSpec := { name := "fnExactShortestSteps", fn := fun _ => fun
  | [d1, d2, d3] => { results := [.lit (.bool false)], args := [d1, d2, d3] }
  | _ => none }
def FnExactShortestStepsWrongFalsely : Prop := fnExactShortestStepsRow.holds Try.pinned (OpenSpec.ofChange fnExactShortestStepsWrong)

/-- 'laws.FnShuffled': WHATEVER THE INPUT: true; the input reads as it did. -/
def fnShuffledSpec : ChangeSpec := { name := "fnShuffled", fn := fun _ => fun
  | [d1, d2] => { results := [.lit (.bool true)], args := [d1, d2] }
  | _ => none }
def fnShuffledRow : OpenClaim := { program := "ythgfcoafngddgaa", sum := "c8b0fb86d0158aafb826b786ffd1c7095bf6df5482933dc71a50cf27226d6a89", func := "loop.example/g01139/laws.FnShuffled", spec := "fnShuffled", unfollowed := true, recurses := true, apart := false }
def FnShuffledSaid : Prop := fnShuffledRow.holds Try.pinned (OpenSpec.ofChange fnShuffledSpec)

/-- ITS FALSE NEIGHBOUR: 'it returns false'. Refute it at one input. -/
def fnShuffledWrong : ChangeSpec := { name := "fnShuffled", fn := fun _ => fun
  | [d1, d2] => { results := [.lit (.bool false)], args := [d1, d2] }
  | _ => none }
def FnShuffledWrongFalsely : Prop := fnShuffledRow.holds Try.pinned (OpenSpec.ofChange fnShuffledWrong)

/- THE SECOND FORM. 'bulk': how many values and letters a reading holds, each counted each time it is reached (what is shared counts as often as it is met; a slice's spare places count too). A statement '..UptoSaid' is the law's where the arguments, and the package variables that the reading takes, are together of bulk at most 1048576: NARROWER than '..Said'. Prove '..Said' where nothing that the law and all that it calls make is longer than what came in: it says more and counts as full. Else prove '..UptoSaid'. A law counts once. -/
mutual
def uptoBulk {H : Type} : DataW H → Nat
  | .lit (.string bytes) => bytes.length + 1
  | .lit _ => 1
  | .nil => 1
  | .ptr d => uptoBulk d + 1
  | .slice elems spare => uptoBulkAll elems + uptoBulkAll spare + 1
  | .agg parts => uptoBulkAll parts + 1
  | .iface _ d => uptoBulk d + 1
  | .map entries => uptoBulkEntries entries + 1
  | .held _ => 1
def uptoBulkAll {H : Type} : List (DataW H) → Nat
  | [] => 0
  | d :: r => uptoBulk d + uptoBulkAll r
def uptoBulkEntries {H : Type} : List (Lit × DataW H) → Nat
  | [] => 0
  | x :: r => uptoBulkEntry x + uptoBulkEntries r
def uptoBulkEntry {H : Type} : Lit × DataW H → Nat
  | (.string bytes, d) => bytes.length + uptoBulk d + 1
  | (_, d) => uptoBulk d + 1
 end
def uptoSmall : (H : Type) → List (DataW H) → Bool := fun _ ds => decide (uptoBulkAll ds ≤ 1048576)
def OpenSpec.upto (s : _root_.Go.ChangeSpec) : _root_.Go.OpenSpec := { _root_.Go.OpenSpec.ofChange s with cond := some uptoSmall }

/-- 'laws.FnExactHeightsOf', WHERE WHAT IT READS IS OF BULK AT MOST 1048576: true; the input reads as it did. -/
def fnExactHeightsOfUptoRow : OpenClaim := { program := "ythgfcoafngddgaa", sum := "c8b0fb86d0158aafb826b786ffd1c7095bf6df5482933dc71a50cf27226d6a89", func := "loop.example/g01139/laws.FnExactHeightsOf", spec := "fnExactHeightsOf", unfollowed := true, recurses := true, apart := false, narrowed := true }
def FnExactHeightsOfUptoSaid : Prop := fnExactHeightsOfUptoRow.holds Try.pinned (OpenSpec.upto fnExactHeightsOfSpec)

/-- 'laws.FnExactLengthOf', WHERE WHAT IT READS IS OF BULK AT MOST 1048576: true; the input reads as it did. -/
def fnExactLengthOfUptoRow : OpenClaim := { program := "ythgfcoafngddgaa", sum := "c8b0fb86d0158aafb826b786ffd1c7095bf6df5482933dc71a50cf27226d6a89", func := "loop.example/g01139/laws.FnExactLengthOf", spec := "fnExactLengthOf", unfollowed := true, recurses := true, apart := false, narrowed := true }
def FnExactLengthOfUptoSaid : Prop := fnExactLengthOfUptoRow.holds Try.pinned (OpenSpec.upto fnExactLengthOfSpec)

/-- 'laws.FnExactRunNetwork', WHERE WHAT IT READS IS OF BULK AT MOST 1048576: true; the input reads as it did. -/
def fnExactRunNetworkUptoRow : OpenClaim := { program := "ythgfcoafngddgaa", sum := "c8b0fb86d0158aafb826b786ffd1c7095bf6df5482933dc71a50cf27226d6a89", func := "loop.example/g01139/laws.FnExactRunNetwork", spec := "fnExactRunNetwork", unfollowed := true, recurses := true, apart := false, narrowed := true }
def FnExactRunNetworkUptoSaid : Prop := fnExactRunNetworkUptoRow.holds Try.pinned (OpenSpec.upto fnExactRunNetworkSpec)

/-- 'laws.FnFewestSteps', WHERE WHAT IT READS IS OF BULK AT MOST 1048576: true; the input reads as it did. -/
def fnFewestStepsUptoRow : OpenClaim := { program := "ythgfcoafngddgaa", sum := "c8b0fb86d0158aafb826b786ffd1c7095bf6df5482933dc71a50cf27226d6a89", func := "loop.example/g01139/laws.FnFewestSteps", spec := "fnFewestSteps", unfollowed := true, recurses := true, apart := false, narrowed := true }
def FnFewestStepsUptoSaid : Prop := fnFewestStepsUptoRow.holds Try.pinned (OpenSpec.upto fnFewestStepsSpec)

/-- 'laws.FnExactCountReached', WHERE WHAT IT READS IS OF BULK AT MOST 1048576: true; the input reads as it did. -/
def fnExactCountReachedUptoRow : OpenClaim := { program := "ythgfcoafngddgaa", sum := "c8b0fb86d0158aafb826b786ffd1c7095bf6df5482933dc71a50cf27226d6a89", func := "loop.example/g01139/laws.FnExactCountReached", spec := "fnExactCountReached", unfollowed := true, recurses := true, apart := false, narrowed := true }
def FnExactCountReachedUptoSaid : Prop := fnExactCountReachedUptoRow.holds Try.pinned (OpenSpec.upto fnExactCountReachedSpec)

/-- 'laws.FnPressed', WHERE WHAT IT READS IS OF BULK AT MOST 1048576: true; the input reads as it did. -/
def fnPressedUptoRow : OpenClaim := { program := "ythgfcoafngddgaa", sum := "c8b0fb86d0158aafb826b786ffd1c7095bf6df5482933dc71a50cf27226d6a89", func := "loop.example/g01139/laws.FnPressed", spec := "fnPressed", unfollowed := true, recurses := true, apart := false, narrowed := true }
def FnPressedUptoSaid : Prop := fnPressedUptoRow.holds Try.pinned (OpenSpec.upto fnPressedSpec)

/-- 'laws.FnAssigned', WHERE WHAT IT READS IS OF BULK AT MOST 1048576: true; the input reads as it did. -/
def fnAssignedUptoRow : OpenClaim := { program := "ythgfcoafngddgaa", sum := "c8b0fb86d0158aafb826b786ffd1c7095bf6df5482933dc71a50cf27226d6a89", func := "loop.example/g01139/laws.FnAssigned", spec := "fnAssigned", unfollowed := true, recurses := true, apart := false, narrowed := true }
def FnAssignedUptoSaid : Prop := fnAssignedUptoRow.holds Try.pinned (OpenSpec.upto fnAssignedSpec)

/-- 'laws.FnExactFewestSpills', WHERE WHAT IT READS IS OF BULK AT MOST 1048576: true; the input reads as it did. -/
def fnExactFewestSpillsUptoRow : OpenClaim := { program := "ythgfcoafngddgaa", sum := "c8b0fb86d0158aafb826b786ffd1c7095bf6df5482933dc71a50cf27226d6a89", func := "loop.example/g01139/laws.FnExactFewestSpills", spec := "fnExactFewestSpills", unfollowed := true, recurses := true, apart := false, narrowed := true }
def FnExactFewestSpillsUptoSaid : Prop := fnExactFewestSpillsUptoRow.holds Try.pinned (OpenSpec.upto fnExactFewestSpillsSpec)

/-- 'laws.FnExactPressureOf', WHERE WHAT IT READS IS OF BULK AT MOST 1048576: true; the input reads as it did. -/
def fnExactPressureOfUptoRow : OpenClaim := { program := "ythgfcoafngddgaa", sum := "c8b0fb86d0158aafb826b786ffd1c7095bf6df5482933dc71a50cf27226d6a89", func := "loop.example/g01139/laws.FnExactPressureOf", spec := "fnExactPressureOf", unfollowed := true, recurses := true, apart := false, narrowed := true }
def FnExactPressureOfUptoSaid : Prop := fnExactPressureOfUptoRow.holds Try.pinned (OpenSpec.upto fnExactPressureOfSpec)

/-- 'laws.FnExactValidInstr', WHERE WHAT IT READS IS OF BULK AT MOST 1048576: true; the input reads as it did. -/
def fnExactValidInstrUptoRow : OpenClaim := { program := "ythgfcoafngddgaa", sum := "c8b0fb86d0158aafb826b786ffd1c7095bf6df5482933dc71a50cf27226d6a89", func := "loop.example/g01139/laws.FnExactValidInstr", spec := "fnExactValidInstr", unfollowed := true, recurses := true, apart := false, narrowed := true }
def FnExactValidInstrUptoSaid : Prop := fnExactValidInstrUptoRow.holds Try.pinned (OpenSpec.upto fnExactValidInstrSpec)

/-- 'laws.FnExactShortestSteps', WHERE WHAT IT READS IS OF BULK AT MOST 1048576: true; the input reads as it did. -/
def fnExactShortestStepsUptoRow : OpenClaim := { program := "ythgfcoafngddgaa", sum := "c8b0fb86d0158aafb826b786ffd1c7095bf6df5482933dc71a50cf27226d6a89", func := "loop.example/g01139/laws.FnExactShortestSteps", spec := "fnExactShortestSteps", unfollowed := true, recurses := true, apart := false, narrowed := true }
def FnExactShortestStepsUptoSaid : Prop := fnExactShortestStepsUptoRow.holds Try.pinned (OpenSpec.upto fnExactShortestStepsSpec)

/-- 'laws.FnShuffled', WHERE WHAT IT READS IS OF BULK AT MOST 1048576: true; the input reads as it did. -/
def fnShuffledUptoRow : OpenClaim := { program := "ythgfcoafngddgaa", sum := "c8b0fb86d0158aafb826b786ffd1c7095bf6df5482933dc71a50cf27226d6a89", func := "loop.example/g01139/laws.FnShuffled", spec := "fnShuffled", unfollowed := true, recurses := true, apart := false, narrowed := true }
def FnShuffledUptoSaid : Prop := fnShuffledUptoRow.holds Try.pinned (OpenSpec.upto fnShuffledSpec)

end Rows
end Go.Proofs.Ythgfcoafngddgaa
