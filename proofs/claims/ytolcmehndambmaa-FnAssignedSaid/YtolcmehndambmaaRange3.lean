import Derived.Test.YtolcmehndambmaaRange2
import Derived.StillTailTactics
set_option linter.unusedVariables false
set_option linter.unusedSimpArgs false
namespace Go.Proofs.Ytolcmehndambmaa
open Go.RowKit

theorem pel_ext {xs ys : List PI} (h : xs.length = ys.length) (he : ∀ k, k < xs.length → pel xs k = pel ys k) : xs = ys := by
  apply List.ext_getElem? ; intro k
  by_cases hk : k < xs.length
  · rw [pel_get hk, pel_get (by omega), he k hk]
  · rw [List.getElem?_eq_none (by omega), List.getElem?_eq_none (by omega)]
theorem RdP.get {w : World} {A : Option Addr} {xs : List PI} (h : RdP w A xs) {k : Nat} (hk : k < xs.length) :
    ∃ b off, A = some ⟨b, off, none⟩ ∧ w.cell? ⟨b, off + k * 2, none⟩ = some (.int .i64 (pel xs k).1) ∧ w.cell? ⟨b, off + k * 2 + 1, none⟩ = some (.int .i64 (pel xs k).2) := h k hk
end Go.Proofs.Ytolcmehndambmaa
