/-
  No cell of these rows narrows 'for every input' (looked for: loops, veiled, ifaces, maps, wideKeys, modest, calm, conditions, laid).
  DERIVED. THE GIVEN ROWS OF THIS SEAT. 8 by the template 'for every input the law returns true; each argument reads behind the call as it read before'; 0 by the template 'total and deterministic' (their statements: YtjcpjmijhloimaaTotals.lean).
  GIVEN WITH THE SEED: the statements are not yours to turn. If you find one false, say at which input.
  Laid BY PROGRAM, IN A SANDBOX (cutbox-rows.mjs): the forced cells as the released guide's own fill.sh prints them over the translation b5b8f6bc250bf31a… (all of the seat's roots in one cut). By AI agents, Wed Nov 11 2026. No macro, syntax, notation, axiom, sorry.
-/
import Derived.Test.YtjcpjmijhloimaaChecked
import GoSem.Claim
import GoSem.ClaimJoined
import GoSem.ClaimMapViews
import Derived.JoinedTies
import Derived.KernelRfl
namespace Go.Proofs.Ytjcpjmijhloimaa
/- THE CELL 'sum', in the pinned program and in every row, IS THE sha256 OF THE DUMP (.gsa) THAT YtjcpjmijhloimaaProg.lean LOADS. Nothing in Lean hashes anything: it is a label: what it is worth is what the hold of that sum in a sandbox is worth. -/
noncomputable def Try.pinned : Pinned := { name := "ytjcpjmijhloimaa", sum := "b5b8f6bc250bf31a275128b589c6654da75a176afb9de2f7e4a91db7e9bf7211", checked := Try.checked }
namespace Rows
def none {H : Type} : Left H := { results := [], args := [] }

/-- 'laws.FnRouted': WHATEVER THE INPUT: true; the input reads as it did. -/
def fnRoutedSpec : ChangeSpec := { name := "fnRouted", fn := fun _ => fun
  | [d1, d2] => { results := [.lit (.bool true)], args := [d1, d2] }
  | _ => none }
def fnRoutedRow : OpenClaim := { program := "ytjcpjmijhloimaa", sum := "b5b8f6bc250bf31a275128b589c6654da75a176afb9de2f7e4a91db7e9bf7211", func := "loop.example/g01139/laws.FnRouted", spec := "fnRouted", unfollowed := true, recurses := true, apart := false }
def FnRoutedSaid : Prop := fnRoutedRow.holds Try.pinned (OpenSpec.ofChange fnRoutedSpec)

/-- ITS FALSE NEIGHBOUR: 'it returns false'. Refute it at one input. -/
def fnRoutedWrong : ChangeSpec := { name := "fnRouted", fn := fun _ => fun
  | [d1, d2] => { results := [.lit (.bool false)], args := [d1, d2] }
  | _ => none }
def FnRoutedWrongFalsely : Prop := fnRoutedRow.holds Try.pinned (OpenSpec.ofChange fnRoutedWrong)

/-- 'laws.FnExactRouteNetwork': WHATEVER THE INPUT: true; the input reads as it did. -/
def fnExactRouteNetworkSpec : ChangeSpec := { name := "fnExactRouteNetwork", fn := fun _ => fun
  | [d] => { results := [.lit (.bool true)], args := [d] }
  | _ => none }
def fnExactRouteNetworkRow : OpenClaim := { program := "ytjcpjmijhloimaa", sum := "b5b8f6bc250bf31a275128b589c6654da75a176afb9de2f7e4a91db7e9bf7211", func := "loop.example/g01139/laws.FnExactRouteNetwork", spec := "fnExactRouteNetwork", unfollowed := true, recurses := true, apart := false }
def FnExactRouteNetworkSaid : Prop := fnExactRouteNetworkRow.holds Try.pinned (OpenSpec.ofChange fnExactRouteNetworkSpec)

/-- ITS FALSE NEIGHBOUR: 'it returns false'. Refute it at one input. -/
def fnExactRouteNetworkWrong : ChangeSpec := { name := "fnExactRouteNetwork", fn := fun _ => fun
  | [d] => { results := [.lit (.bool false)], args := [d] }
  | _ => none }
def FnExactRouteNetworkWrongFalsely : Prop := fnExactRouteNetworkRow.holds Try.pinned (OpenSpec.ofChange fnExactRouteNetworkWrong)

/-- 'laws.FnExactValidProgram': WHATEVER THE INPUT: true; the input reads as it did. -/
def fnExactValidProgramSpec : ChangeSpec := { name := "fnExactValidProgram", fn := fun _ => fun
  | [d1, d2] => { results := [.lit (.bool true)], args := [d1, d2] }
  | _ => none }
def fnExactValidProgramRow : OpenClaim := { program := "ytjcpjmijhloimaa", sum := "b5b8f6bc250bf31a275128b589c6654da75a176afb9de2f7e4a91db7e9bf7211", func := "loop.example/g01139/laws.FnExactValidProgram", spec := "fnExactValidProgram", unfollowed := true, recurses := true, apart := false }
def FnExactValidProgramSaid : Prop := fnExactValidProgramRow.holds Try.pinned (OpenSpec.ofChange fnExactValidProgramSpec)

/-- ITS FALSE NEIGHBOUR: 'it returns false'. Refute it at one input. -/
def fnExactValidProgramWrong : ChangeSpec := { name := "fnExactValidProgram", fn := fun _ => fun
  | [d1, d2] => { results := [.lit (.bool false)], args := [d1, d2] }
  | _ => none }
def FnExactValidProgramWrongFalsely : Prop := fnExactValidProgramRow.holds Try.pinned (OpenSpec.ofChange fnExactValidProgramWrong)

/-- 'laws.FnExactAssignRegisters': WHATEVER THE INPUT: true; the input reads as it did. -/
def fnExactAssignRegistersSpec : ChangeSpec := { name := "fnExactAssignRegisters", fn := fun _ => fun
  | [d1, d2] => { results := [.lit (.bool true)], args := [d1, d2] }
  | _ => none }
def fnExactAssignRegistersRow : OpenClaim := { program := "ytjcpjmijhloimaa", sum := "b5b8f6bc250bf31a275128b589c6654da75a176afb9de2f7e4a91db7e9bf7211", func := "loop.example/g01139/laws.FnExactAssignRegisters", spec := "fnExactAssignRegisters", unfollowed := true, recurses := true, apart := false }
def FnExactAssignRegistersSaid : Prop := fnExactAssignRegistersRow.holds Try.pinned (OpenSpec.ofChange fnExactAssignRegistersSpec)

/-- ITS FALSE NEIGHBOUR: 'it returns false'. Refute it at one input. -/
def fnExactAssignRegistersWrong : ChangeSpec := { name := "fnExactAssignRegisters", fn := fun _ => fun
  | [d1, d2] => { results := [.lit (.bool false)], args := [d1, d2] }
  | _ => none }
def FnExactAssignRegistersWrongFalsely : Prop := fnExactAssignRegistersRow.holds Try.pinned (OpenSpec.ofChange fnExactAssignRegistersWrong)

/-- 'laws.FnScheduled': WHATEVER THE INPUT: true; the input reads as it did. -/
def fnScheduledSpec : ChangeSpec := { name := "fnScheduled", fn := fun _ => fun
  | [d1, d2] => { results := [.lit (.bool true)], args := [d1, d2] }
  | _ => none }
def fnScheduledRow : OpenClaim := { program := "ytjcpjmijhloimaa", sum := "b5b8f6bc250bf31a275128b589c6654da75a176afb9de2f7e4a91db7e9bf7211", func := "loop.example/g01139/laws.FnScheduled", spec := "fnScheduled", unfollowed := true, recurses := true, apart := false }
def FnScheduledSaid : Prop := fnScheduledRow.holds Try.pinned (OpenSpec.ofChange fnScheduledSpec)

/-- ITS FALSE NEIGHBOUR: 'it returns false'. Refute it at one input. -/
def fnScheduledWrong : ChangeSpec := { name := "fnScheduled", fn := fun _ => fun
  | [d1, d2] => { results := [.lit (.bool false)], args := [d1, d2] }
  | _ => none }
def FnScheduledWrongFalsely : Prop := fnScheduledRow.holds Try.pinned (OpenSpec.ofChange fnScheduledWrong)

/-- 'laws.FnExactMustWait': WHATEVER THE INPUT: true; the input reads as it did. -/
def fnExactMustWaitSpec : ChangeSpec := { name := "fnExactMustWait", fn := fun _ => fun
  | [d1, d2, d3] => { results := [.lit (.bool true)], args := [d1, d2, d3] }
  | _ => none }
def fnExactMustWaitRow : OpenClaim := { program := "ytjcpjmijhloimaa", sum := "b5b8f6bc250bf31a275128b589c6654da75a176afb9de2f7e4a91db7e9bf7211", func := "loop.example/g01139/laws.FnExactMustWait", spec := "fnExactMustWait", unfollowed := true, recurses := true, apart := false }
def FnExactMustWaitSaid : Prop := fnExactMustWaitRow.holds Try.pinned (OpenSpec.ofChange fnExactMustWaitSpec)

/-- ITS FALSE NEIGHBOUR: 'it returns false'. Refute it at one input. -/
def fnExactMustWaitWrong : ChangeSpec := { name := "fnExactMustWait", fn := fun _ => fun
  | [d1, d2, d3] => { results := [.lit (.bool false)], args := [d1, d2, d3] }
  | _ => none }
def FnExactMustWaitWrongFalsely : Prop := fnExactMustWaitRow.holds Try.pinned (OpenSpec.ofChange fnExactMustWaitWrong)

/-- 'laws.FnExactCostOf': WHATEVER THE INPUT: true; the input reads as it did. -/
def fnExactCostOfSpec : ChangeSpec := { name := "fnExactCostOf", fn := fun _ => fun
  | [d1, d2] => { results := [.lit (.bool true)], args := [d1, d2] }
  | _ => none }
def fnExactCostOfRow : OpenClaim := { program := "ytjcpjmijhloimaa", sum := "b5b8f6bc250bf31a275128b589c6654da75a176afb9de2f7e4a91db7e9bf7211", func := "loop.example/g01139/laws.FnExactCostOf", spec := "fnExactCostOf", unfollowed := true, recurses := true, apart := false }
def FnExactCostOfSaid : Prop := fnExactCostOfRow.holds Try.pinned (OpenSpec.ofChange fnExactCostOfSpec)

/-- ITS FALSE NEIGHBOUR: 'it returns false'. Refute it at one input. -/
def fnExactCostOfWrong : ChangeSpec := { name := "fnExactCostOf", fn := fun _ => fun
  | [d1, d2] => { results := [.lit (.bool false)], args := [d1, d2] }
  | _ => none }
def FnExactCostOfWrongFalsely : Prop := fnExactCostOfRow.holds Try.pinned (OpenSpec.ofChange fnExactCostOfWrong)

/-- 'laws.FnExactIsGroup': WHATEVER THE INPUT: true; the input reads as it did. -/
def fnExactIsGroupSpec : ChangeSpec := { name := "fnExactIsGroup", fn := fun _ => fun
  | [d1, d2, d3] => { results := [.lit (.bool true)], args := [d1, d2, d3] }
  | _ => none }
def fnExactIsGroupRow : OpenClaim := { program := "ytjcpjmijhloimaa", sum := "b5b8f6bc250bf31a275128b589c6654da75a176afb9de2f7e4a91db7e9bf7211", func := "loop.example/g01139/laws.FnExactIsGroup", spec := "fnExactIsGroup", unfollowed := true, recurses := true, apart := false }
def FnExactIsGroupSaid : Prop := fnExactIsGroupRow.holds Try.pinned (OpenSpec.ofChange fnExactIsGroupSpec)

/-- ITS FALSE NEIGHBOUR: 'it returns false'. Refute it at one input. -/
def fnExactIsGroupWrong : ChangeSpec := { name := "fnExactIsGroup", fn := fun _ => fun
  | [d1, d2, d3] => { results := [.lit (.bool false)], args := [d1, d2, d3] }
  | _ => none }
def FnExactIsGroupWrongFalsely : Prop := fnExactIsGroupRow.holds Try.pinned (OpenSpec.ofChange fnExactIsGroupWrong)

/- THE SECOND FORM. 'bulk': how many values and letters a reading holds, each counted each time it is reached (what is shared counts as often as it is met; a slice's spare places count too). A statement '..UptoSaid' is the law's where the arguments, and the package variables that the reading takes, are together of bulk at most 1048576: NARROWER than '..Said'. Prove '..Said' where nothing that the law and all that it calls make is longer than what came in: it says more and counts as full. Else prove '..UptoSaid'. A law counts once. -/
mutual
def uptoBulk {H : Type} : DataW H → Nat
  | .lit (.string bytes) => bytes.length + 1
  | .lit _ => 1
  | .nil => 1
  | .ptr d => uptoBulk d + 1
  | .slice elems spare => uptoBulkAll elems + uptoBulkAll spare + 1
  | .agg parts => uptoBulkAll parts + 1
  | .iface _ d => uptoBulk d + 1
  | .map entries => uptoBulkEntries entries + 1
  | .held _ => 1
def uptoBulkAll {H : Type} : List (DataW H) → Nat
  | [] => 0
  | d :: r => uptoBulk d + uptoBulkAll r
def uptoBulkEntries {H : Type} : List (Lit × DataW H) → Nat
  | [] => 0
  | x :: r => uptoBulkEntry x + uptoBulkEntries r
def uptoBulkEntry {H : Type} : Lit × DataW H → Nat
  | (.string bytes, d) => bytes.length + uptoBulk d + 1
  | (_, d) => uptoBulk d + 1
 end
def uptoSmall : (H : Type) → List (DataW H) → Bool := fun _ ds => decide (uptoBulkAll ds ≤ 1048576)
def OpenSpec.upto (s : _root_.Go.ChangeSpec) : _root_.Go.OpenSpec := { _root_.Go.OpenSpec.ofChange s with cond := some uptoSmall }

/-- 'laws.FnRouted', WHERE WHAT IT READS IS OF BULK AT MOST 1048576: true; the input reads as it did. -/
def fnRoutedUptoRow : OpenClaim := { program := "ytjcpjmijhloimaa", sum := "b5b8f6bc250bf31a275128b589c6654da75a176afb9de2f7e4a91db7e9bf7211", func := "loop.example/g01139/laws.FnRouted", spec := "fnRouted", unfollowed := true, recurses := true, apart := false, narrowed := true }
def FnRoutedUptoSaid : Prop := fnRoutedUptoRow.holds Try.pinned (OpenSpec.upto fnRoutedSpec)

/-- 'laws.FnExactRouteNetwork', WHERE WHAT IT READS IS OF BULK AT MOST 1048576: true; the input reads as it did. -/
def fnExactRouteNetworkUptoRow : OpenClaim := { program := "ytjcpjmijhloimaa", sum := "b5b8f6bc250bf31a275128b589c6654da75a176afb9de2f7e4a91db7e9bf7211", func := "loop.example/g01139/laws.FnExactRouteNetwork", spec := "fnExactRouteNetwork", unfollowed := true, recurses := true, apart := false, narrowed := true }
def FnExactRouteNetworkUptoSaid : Prop := fnExactRouteNetworkUptoRow.holds Try.pinned (OpenSpec.upto fnExactRouteNetworkSpec)

/-- 'laws.FnExactValidProgram', WHERE WHAT IT READS IS OF BULK AT MOST 1048576: true; the input reads as it did. -/
def fnExactValidProgramUptoRow : OpenClaim := { program := "ytjcpjmijhloimaa", sum := "b5b8f6bc250bf31a275128b589c6654da75a176afb9de2f7e4a91db7e9bf7211", func := "loop.example/g01139/laws.FnExactValidProgram", spec := "fnExactValidProgram", unfollowed := true, recurses := true, apart := false, narrowed := true }
def FnExactValidProgramUptoSaid : Prop := fnExactValidProgramUptoRow.holds Try.pinned (OpenSpec.upto fnExactValidProgramSpec)

/-- 'laws.FnExactAssignRegisters', WHERE WHAT IT READS IS OF BULK AT MOST 1048576: true; the input reads as it did. -/
def fnExactAssignRegistersUptoRow : OpenClaim := { program := "ytjcpjmijhloimaa", sum := "b5b8f6bc250bf31a275128b589c6654da75a176afb9de2f7e4a91db7e9bf7211", func := "loop.example/g01139/laws.FnExactAssignRegisters", spec := "fnExactAssignRegisters", unfollowed := true, recurses := true, apart := false, narrowed := true }
def FnExactAssignRegistersUptoSaid : Prop := fnExactAssignRegistersUptoRow.holds Try.pinned (OpenSpec.upto fnExactAssignRegistersSpec)

/-- 'laws.FnScheduled', WHERE WHAT IT READS IS OF BULK AT MOST 1048576: true; the input reads as it did. -/
def fnScheduledUptoRow : OpenClaim := { program := "ytjcpjmijhloimaa", sum := "b5b8f6bc250bf31a275128b589c6654da75a176afb9de2f7e4a91db7e9bf7211", func := "loop.example/g01139/laws.FnScheduled", spec := "fnScheduled", unfollowed := true, recurses := true, apart := false, narrowed := true }
def FnScheduledUptoSaid : Prop := fnScheduledUptoRow.holds Try.pinned (OpenSpec.upto fnScheduledSpec)

/-- 'laws.FnExactMustWait', WHERE WHAT IT READS IS OF BULK AT MOST 1048576: true; the input reads as it did. -/
def fnExactMustWaitUptoRow : OpenClaim := { program := "ytjcpjmijhloimaa", sum := "b5b8f6bc250bf31a275128b589c6654da75a176afb9de2f7e4a91db7e9bf7211", func := "loop.example/g01139/laws.FnExactMustWait", spec := "fnExactMustWait", unfollowed := true, recurses := true, apart := false, narrowed := true }
def FnExactMustWaitUptoSaid : Prop := fnExactMustWaitUptoRow.holds Try.pinned (OpenSpec.upto fnExactMustWaitSpec)

/-- 'laws.FnExactCostOf', WHERE WHAT IT READS IS OF BULK AT MOST 1048576: true; the input reads as it did. -/
def fnExactCostOfUptoRow : OpenClaim := { program := "ytjcpjmijhloimaa", sum := "b5b8f6bc250bf31a275128b589c6654da75a176afb9de2f7e4a91db7e9bf7211", func := "loop.example/g01139/laws.FnExactCostOf", spec := "fnExactCostOf", unfollowed := true, recurses := true, apart := false, narrowed := true }
def FnExactCostOfUptoSaid : Prop := fnExactCostOfUptoRow.holds Try.pinned (OpenSpec.upto fnExactCostOfSpec)

/-- 'laws.FnExactIsGroup', WHERE WHAT IT READS IS OF BULK AT MOST 1048576: true; the input reads as it did. -/
def fnExactIsGroupUptoRow : OpenClaim := { program := "ytjcpjmijhloimaa", sum := "b5b8f6bc250bf31a275128b589c6654da75a176afb9de2f7e4a91db7e9bf7211", func := "loop.example/g01139/laws.FnExactIsGroup", spec := "fnExactIsGroup", unfollowed := true, recurses := true, apart := false, narrowed := true }
def FnExactIsGroupUptoSaid : Prop := fnExactIsGroupUptoRow.holds Try.pinned (OpenSpec.upto fnExactIsGroupSpec)

end Rows
end Go.Proofs.Ytjcpjmijhloimaa
