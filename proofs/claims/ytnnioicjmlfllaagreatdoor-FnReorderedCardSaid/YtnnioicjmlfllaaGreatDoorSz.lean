import Derived.Test.YtnnioicjmlfllaaGreatDoorBase
namespace Go.Proofs.YtnnioicjmlfllaaGreatDoor
open Go.RowKit
/-- What a size check leaves. -/
def szR (left : Int) (n : Nat) : Int := if left < n then -1 else left - n
end Go.Proofs.YtnnioicjmlfllaaGreatDoor
