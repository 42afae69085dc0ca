/-
  No cell of these rows narrows 'for every input' (looked for: loops, veiled, ifaces, maps, wideKeys, modest, calm, conditions, laid).
  DERIVED. THE GIVEN ROWS OF THIS SEAT. 8 by the template 'for every input the law returns true; each argument reads behind the call as it read before'; 0 by the template 'total and deterministic' (their statements: YtolcmehndambmaaTotals.lean).
  GIVEN WITH THE SEED: the statements are not yours to turn. If you find one false, say at which input.
  Laid BY PROGRAM, IN A SANDBOX (cutbox-rows.mjs): the forced cells as the released guide's own fill.sh prints them over the translation b3ef9387ba8a5f74… (all of the seat's roots in one cut). By AI agents, Wed Nov 11 2026. No macro, syntax, notation, axiom, sorry.
-/
import Derived.Test.YtolcmehndambmaaChecked
import GoSem.Claim
import GoSem.ClaimJoined
import GoSem.ClaimMapViews
import Derived.JoinedTies
import Derived.KernelRfl
namespace Go.Proofs.Ytolcmehndambmaa
/- THE CELL 'sum', in the pinned program and in every row, IS THE sha256 OF THE DUMP (.gsa) THAT YtolcmehndambmaaProg.lean LOADS. Nothing in Lean hashes anything: it is a label: what it is worth is what the hold of that sum in a sandbox is worth. -/
noncomputable def Try.pinned : Pinned := { name := "ytolcmehndambmaa", sum := "b3ef9387ba8a5f741af6be0306c2edbe71f33f4095a3a6967f12776c79417c3a", checked := Try.checked }
namespace Rows
def none {H : Type} : Left H := { results := [], args := [] }

/-- 'laws.FnAssigned': WHATEVER THE INPUT: true; the input reads as it did. -/
def fnAssignedSpec : ChangeSpec := { name := "fnAssigned", fn := fun _ => fun
  | [d1, d2] => { results := [.lit (.bool true)], args := [d1, d2] }
  | _ => none }
def fnAssignedRow : OpenClaim := { program := "ytolcmehndambmaa", sum := "b3ef9387ba8a5f741af6be0306c2edbe71f33f4095a3a6967f12776c79417c3a", func := "loop.example/g01139/laws.FnAssigned", spec := "fnAssigned", unfollowed := true, recurses := true, apart := false }
def FnAssignedSaid : Prop := fnAssignedRow.holds Try.pinned (OpenSpec.ofChange fnAssignedSpec)

/-- ITS FALSE NEIGHBOUR: 'it returns false'. Refute it at one input. -/
def fnAssignedWrong : ChangeSpec := { name := "fnAssigned", fn := fun _ => fun
  | [d1, d2] => { results := [.lit (.bool false)], args := [d1, d2] }
  | _ => none }
def FnAssignedWrongFalsely : Prop := fnAssignedRow.holds Try.pinned (OpenSpec.ofChange fnAssignedWrong)

/-- 'laws.FnExactRouteNetwork': WHATEVER THE INPUT: true; the input reads as it did. -/
def fnExactRouteNetworkSpec : ChangeSpec := { name := "fnExactRouteNetwork", fn := fun _ => fun
  | [d] => { results := [.lit (.bool true)], args := [d] }
  | _ => none }
def fnExactRouteNetworkRow : OpenClaim := { program := "ytolcmehndambmaa", sum := "b3ef9387ba8a5f741af6be0306c2edbe71f33f4095a3a6967f12776c79417c3a", func := "loop.example/g01139/laws.FnExactRouteNetwork", spec := "fnExactRouteNetwork", unfollowed := true, recurses := true, apart := false }
def FnExactRouteNetworkSaid : Prop := fnExactRouteNetworkRow.holds Try.pinned (OpenSpec.ofChange fnExactRouteNetworkSpec)

/-- ITS FALSE NEIGHBOUR: 'it returns false'. Refute it at one input. -/
def fnExactRouteNetworkWrong : ChangeSpec := { name := "fnExactRouteNetwork", fn := fun _ => fun
  | [d] => { results := [.lit (.bool false)], args := [d] }
  | _ => none }
def FnExactRouteNetworkWrongFalsely : Prop := fnExactRouteNetworkRow.holds Try.pinned (OpenSpec.ofChange fnExactRouteNetworkWrong)

/-- 'laws.FnRouted': WHATEVER THE INPUT: true; the input reads as it did. -/
def fnRoutedSpec : ChangeSpec := { name := "fnRouted", fn := fun _ => fun
  | [d1, d2] => { results := [.lit (.bool true)], args := [d1, d2] }
  | _ => none }
def fnRoutedRow : OpenClaim := { program := "ytolcmehndambmaa", sum := "b3ef9387ba8a5f741af6be0306c2edbe71f33f4095a3a6967f12776c79417c3a", func := "loop.example/g01139/laws.FnRouted", spec := "fnRouted", unfollowed := true, recurses := true, apart := false }
def FnRoutedSaid : Prop := fnRoutedRow.holds Try.pinned (OpenSpec.ofChange fnRoutedSpec)

/-- ITS FALSE NEIGHBOUR: 'it returns false'. Refute it at one input. -/
def fnRoutedWrong : ChangeSpec := { name := "fnRouted", fn := fun _ => fun
  | [d1, d2] => { results := [.lit (.bool false)], args := [d1, d2] }
  | _ => none }
def FnRoutedWrongFalsely : Prop := fnRoutedRow.holds Try.pinned (OpenSpec.ofChange fnRoutedWrong)

/-- 'laws.FnExactCountReached': WHATEVER THE INPUT: true; the input reads as it did. -/
def fnExactCountReachedSpec : ChangeSpec := { name := "fnExactCountReached", fn := fun _ => fun
  | [d1, d2] => { results := [.lit (.bool true)], args := [d1, d2] }
  | _ => none }
def fnExactCountReachedRow : OpenClaim := { program := "ytolcmehndambmaa", sum := "b3ef9387ba8a5f741af6be0306c2edbe71f33f4095a3a6967f12776c79417c3a", func := "loop.example/g01139/laws.FnExactCountReached", spec := "fnExactCountReached", unfollowed := true, recurses := true, apart := false }
def FnExactCountReachedSaid : Prop := fnExactCountReachedRow.holds Try.pinned (OpenSpec.ofChange fnExactCountReachedSpec)

/-- ITS FALSE NEIGHBOUR: 'it returns false'. Refute it at one input. -/
def fnExactCountReachedWrong : ChangeSpec := { name := "fnExactCountReached", fn := fun _ => fun
  | [d1, d2] => { results := [.lit (.bool false)], args := [d1, d2] }
  | _ => none }
def FnExactCountReachedWrongFalsely : Prop := fnExactCountReachedRow.holds Try.pinned (OpenSpec.ofChange fnExactCountReachedWrong)

/-- 'laws.FnExactShortestSteps': WHATEVER THE INPUT: true; the input reads as it did. -/
def fnExactShortestStepsSpec : ChangeSpec := { name := "fnExactShortestSteps", fn := fun _ => fun
  | [d1, d2, d3] => { results := [.lit (.bool true)], args := [d1, d2, d3] }
  | _ => none }
def fnExactShortestStepsRow : OpenClaim := { program := "ytolcmehndambmaa", sum := "b3ef9387ba8a5f741af6be0306c2edbe71f33f4095a3a6967f12776c79417c3a", func := "loop.example/g01139/laws.FnExactShortestSteps", spec := "fnExactShortestSteps", unfollowed := true, recurses := true, apart := false }
def FnExactShortestStepsSaid : Prop := fnExactShortestStepsRow.holds Try.pinned (OpenSpec.ofChange fnExactShortestStepsSpec)

/-- ITS FALSE NEIGHBOUR: 'it returns false'. Refute it at one input. -/
def fnExactShortestStepsWrong : ChangeSpec := { name := "fnExactShortestSteps", fn := fun _ => fun
  | [d1, d2, d3] => { results := [.lit (.bool false)], args := [d1, d2, d3] }
  | _ => none }
def FnExactShortestStepsWrongFalsely : Prop := fnExactShortestStepsRow.holds Try.pinned (OpenSpec.ofChange fnExactShortestStepsWrong)

/-- 'laws.FnFewestSteps': WHATEVER THE INPUT: true; the input reads as it did. -/
def fnFewestStepsSpec : ChangeSpec := { name := "fnFewestSteps", fn := fun _ => fun
  | [d1, d2] => { results := [.lit (.bool true)], args := [d1, d2] }
  | _ => none }
def fnFewestStepsRow : OpenClaim := { program := "ytolcmehndambmaa", sum := "b3ef9387ba8a5f741af6be0306c2edbe71f33f4095a3a6967f12776c79417c3a", func := "loop.example/g01139/laws.FnFewestSteps", spec := "fnFewestSteps", unfollowed := true, recurses := true, apart := false }
def FnFewestStepsSaid : Prop := fnFewestStepsRow.holds Try.pinned (OpenSpec.ofChange fnFewestStepsSpec)

/-- ITS FALSE NEIGHBOUR: 'it returns false'. Refute it at one input. -/
def fnFewestStepsWrong : ChangeSpec := { name := "fnFewestSteps", fn := fun _ => fun
  | [d1, d2] => { results := [.lit (.bool false)], args := [d1, d2] }
  | _ => none }
def FnFewestStepsWrongFalsely : Prop := fnFewestStepsRow.holds Try.pinned (OpenSpec.ofChange fnFewestStepsWrong)

/-- 'laws.FnExactNewState': WHATEVER THE INPUT: true; the input reads as it did. -/
def fnExactNewStateSpec : ChangeSpec := { name := "fnExactNewState", fn := fun _ => fun
  | [d1, d2] => { results := [.lit (.bool true)], args := [d1, d2] }
  | _ => none }
def fnExactNewStateRow : OpenClaim := { program := "ytolcmehndambmaa", sum := "b3ef9387ba8a5f741af6be0306c2edbe71f33f4095a3a6967f12776c79417c3a", func := "loop.example/g01139/laws.FnExactNewState", spec := "fnExactNewState", unfollowed := true, recurses := true, apart := false }
def FnExactNewStateSaid : Prop := fnExactNewStateRow.holds Try.pinned (OpenSpec.ofChange fnExactNewStateSpec)

/-- ITS FALSE NEIGHBOUR: 'it returns false'. Refute it at one input. -/
def fnExactNewStateWrong : ChangeSpec := { name := "fnExactNewState", fn := fun _ => fun
  | [d1, d2] => { results := [.lit (.bool false)], args := [d1, d2] }
  | _ => none }
def FnExactNewStateWrongFalsely : Prop := fnExactNewStateRow.holds Try.pinned (OpenSpec.ofChange fnExactNewStateWrong)

/-- 'laws.FnNamed': WHATEVER THE INPUT: true; the input reads as it did. -/
def fnNamedSpec : ChangeSpec := { name := "fnNamed", fn := fun _ => fun
  | [d1, d2] => { results := [.lit (.bool true)], args := [d1, d2] }
  | _ => none }
def fnNamedRow : OpenClaim := { program := "ytolcmehndambmaa", sum := "b3ef9387ba8a5f741af6be0306c2edbe71f33f4095a3a6967f12776c79417c3a", func := "loop.example/g01139/laws.FnNamed", spec := "fnNamed", unfollowed := true, recurses := true, apart := false }
def FnNamedSaid : Prop := fnNamedRow.holds Try.pinned (OpenSpec.ofChange fnNamedSpec)

/-- ITS FALSE NEIGHBOUR: 'it returns false'. Refute it at one input. -/
def fnNamedWrong : ChangeSpec := { name := "fnNamed", fn := fun _ => fun
  | [d1, d2] => { results := [.lit (.bool false)], args := [d1, d2] }
  | _ => none }
def FnNamedWrongFalsely : Prop := fnNamedRow.holds Try.pinned (OpenSpec.ofChange fnNamedWrong)

/- THE SECOND FORM. 'bulk': how many values and letters a reading holds, each counted each time it is reached (what is shared counts as often as it is met; a slice's spare places count too). A statement '..UptoSaid' is the law's where the arguments, and the package variables that the reading takes, are together of bulk at most 1048576: NARROWER than '..Said'. Prove '..Said' where nothing that the law and all that it calls make is longer than what came in: it says more and counts as full. Else prove '..UptoSaid'. A law counts once. -/
mutual
def uptoBulk {H : Type} : DataW H → Nat
  | .lit (.string bytes) => bytes.length + 1
  | .lit _ => 1
  | .nil => 1
  | .ptr d => uptoBulk d + 1
  | .slice elems spare => uptoBulkAll elems + uptoBulkAll spare + 1
  | .agg parts => uptoBulkAll parts + 1
  | .iface _ d => uptoBulk d + 1
  | .map entries => uptoBulkEntries entries + 1
  | .held _ => 1
def uptoBulkAll {H : Type} : List (DataW H) → Nat
  | [] => 0
  | d :: r => uptoBulk d + uptoBulkAll r
def uptoBulkEntries {H : Type} : List (Lit × DataW H) → Nat
  | [] => 0
  | x :: r => uptoBulkEntry x + uptoBulkEntries r
def uptoBulkEntry {H : Type} : Lit × DataW H → Nat
  | (.string bytes, d) => bytes.length + uptoBulk d + 1
  | (_, d) => uptoBulk d + 1
 end
def uptoSmall : (H : Type) → List (DataW H) → Bool := fun _ ds => decide (uptoBulkAll ds ≤ 1048576)
def OpenSpec.upto (s : _root_.Go.ChangeSpec) : _root_.Go.OpenSpec := { _root_.Go.OpenSpec.ofChange s with cond := some uptoSmall }

/-- 'laws.FnAssigned', WHERE WHAT IT READS IS OF BULK AT MOST 1048576: true; the input reads as it did. -/
def fnAssignedUptoRow : OpenClaim := { program := "ytolcmehndambmaa", sum := "b3ef9387ba8a5f741af6be0306c2edbe71f33f4095a3a6967f12776c79417c3a", func := "loop.example/g01139/laws.FnAssigned", spec := "fnAssigned", unfollowed := true, recurses := true, apart := false, narrowed := true }
def FnAssignedUptoSaid : Prop := fnAssignedUptoRow.holds Try.pinned (OpenSpec.upto fnAssignedSpec)

/-- 'laws.FnExactRouteNetwork', WHERE WHAT IT READS IS OF BULK AT MOST 1048576: true; the input reads as it did. -/
def fnExactRouteNetworkUptoRow : OpenClaim := { program := "ytolcmehndambmaa", sum := "b3ef9387ba8a5f741af6be0306c2edbe71f33f4095a3a6967f12776c79417c3a", func := "loop.example/g01139/laws.FnExactRouteNetwork", spec := "fnExactRouteNetwork", unfollowed := true, recurses := true, apart := false, narrowed := true }
def FnExactRouteNetworkUptoSaid : Prop := fnExactRouteNetworkUptoRow.holds Try.pinned (OpenSpec.upto fnExactRouteNetworkSpec)

/-- 'laws.FnRouted', WHERE WHAT IT READS IS OF BULK AT MOST 1048576: true; the input reads as it did. -/
def fnRoutedUptoRow : OpenClaim := { program := "ytolcmehndambmaa", sum := "b3ef9387ba8a5f741af6be0306c2edbe71f33f4095a3a6967f12776c79417c3a", func := "loop.example/g01139/laws.FnRouted", spec := "fnRouted", unfollowed := true, recurses := true, apart := false, narrowed := true }
def FnRoutedUptoSaid : Prop := fnRoutedUptoRow.holds Try.pinned (OpenSpec.upto fnRoutedSpec)

/-- 'laws.FnExactCountReached', WHERE WHAT IT READS IS OF BULK AT MOST 1048576: true; the input reads as it did. -/
def fnExactCountReachedUptoRow : OpenClaim := { program := "ytolcmehndambmaa", sum := "b3ef9387ba8a5f741af6be0306c2edbe71f33f4095a3a6967f12776c79417c3a", func := "loop.example/g01139/laws.FnExactCountReached", spec := "fnExactCountReached", unfollowed := true, recurses := true, apart := false, narrowed := true }
def FnExactCountReachedUptoSaid : Prop := fnExactCountReachedUptoRow.holds Try.pinned (OpenSpec.upto fnExactCountReachedSpec)

/-- 'laws.FnExactShortestSteps', WHERE WHAT IT READS IS OF BULK AT MOST 1048576: true; the input reads as it did. -/
def fnExactShortestStepsUptoRow : OpenClaim := { program := "ytolcmehndambmaa", sum := "b3ef9387ba8a5f741af6be0306c2edbe71f33f4095a3a6967f12776c79417c3a", func := "loop.example/g01139/laws.FnExactShortestSteps", spec := "fnExactShortestSteps", unfollowed := true, recurses := true, apart := false, narrowed := true }
def FnExactShortestStepsUptoSaid : Prop := fnExactShortestStepsUptoRow.holds Try.pinned (OpenSpec.upto fnExactShortestStepsSpec)

/-- 'laws.FnFewestSteps', WHERE WHAT IT READS IS OF BULK AT MOST 1048576: true; the input reads as it did. -/
def fnFewestStepsUptoRow : OpenClaim := { program := "ytolcmehndambmaa", sum := "b3ef9387ba8a5f741af6be0306c2edbe71f33f4095a3a6967f12776c79417c3a", func := "loop.example/g01139/laws.FnFewestSteps", spec := "fnFewestSteps", unfollowed := true, recurses := true, apart := false, narrowed := true }
def FnFewestStepsUptoSaid : Prop := fnFewestStepsUptoRow.holds Try.pinned (OpenSpec.upto fnFewestStepsSpec)

/-- 'laws.FnExactNewState', WHERE WHAT IT READS IS OF BULK AT MOST 1048576: true; the input reads as it did. -/
def fnExactNewStateUptoRow : OpenClaim := { program := "ytolcmehndambmaa", sum := "b3ef9387ba8a5f741af6be0306c2edbe71f33f4095a3a6967f12776c79417c3a", func := "loop.example/g01139/laws.FnExactNewState", spec := "fnExactNewState", unfollowed := true, recurses := true, apart := false, narrowed := true }
def FnExactNewStateUptoSaid : Prop := fnExactNewStateUptoRow.holds Try.pinned (OpenSpec.upto fnExactNewStateSpec)

/-- 'laws.FnNamed', WHERE WHAT IT READS IS OF BULK AT MOST 1048576: true; the input reads as it did. -/
def fnNamedUptoRow : OpenClaim := { program := "ytolcmehndambmaa", sum := "b3ef9387ba8a5f741af6be0306c2edbe71f33f4095a3a6967f12776c79417c3a", func := "loop.example/g01139/laws.FnNamed", spec := "fnNamed", unfollowed := true, recurses := true, apart := false, narrowed := true }
def FnNamedUptoSaid : Prop := fnNamedUptoRow.holds Try.pinned (OpenSpec.upto fnNamedSpec)

end Rows
end Go.Proofs.Ytolcmehndambmaa
