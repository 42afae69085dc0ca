import Derived.Test.YtmpdaafkphpnoaaDoorBase
namespace Go.Proofs.YtmpdaafkphpnoaaDoor
open Go.RowKit
/-- What a size check leaves. -/
def szR (left : Int) (n : Nat) : Int := if left < n then -1 else left - n
end Go.Proofs.YtmpdaafkphpnoaaDoor
