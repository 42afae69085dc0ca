import Derived.Test.YtolcmehndambmaaNet2
set_option linter.unusedVariables false
set_option linter.unusedSimpArgs false
namespace Go.Proofs.Ytolcmehndambmaa
open Go.RowKit

theorem rws_drop {xss : List (List Int)} {k : Nat} (hk : k < xss.length) : xss.drop k = rw_ xss k :: xss.drop (k + 1) := by
  rw [List.drop_eq_getElem_cons hk]; congr 1; have := rw_get hk; rw [List.getElem?_eq_getElem hk] at this; exact Option.some.inj this
end Go.Proofs.Ytolcmehndambmaa
