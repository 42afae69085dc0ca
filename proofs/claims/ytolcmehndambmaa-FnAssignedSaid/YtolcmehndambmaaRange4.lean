import Derived.Test.YtolcmehndambmaaRange3
import Derived.Test.YtolcmehndambmaaSz
set_option linter.unusedVariables false
set_option linter.unusedSimpArgs false
namespace Go.Proofs.Ytolcmehndambmaa
open Go.RowKit

/-- Ranges of the call's own. -/
def OP (w : World) (lo hi : Nat) (v : Value) (xs : List PI) : Prop := Own w lo hi 34 2 v xs.length (ints (pfl xs))
theorem OP.eqv {w w' : World} {lo hi : Nat} {v : Value} {xs : List PI} (h : OP w lo hi v xs) (hq : Eqv lo hi w w') : OP w' lo hi v xs := Own.eqv h hq
theorem OP.shp {w : World} {lo hi : Nat} {v : Value} {xs : List PI} (h : OP w lo hi v xs) : ∃ A c, v = .slice A xs.length c ∧ xs.length ≤ c ∧ c ≤ 9223372036854775807 ∧ RdP w A xs := by
  obtain ⟨A, c, rfl, h1, h2, h3⟩ := Own.shape h
  refine ⟨A, c, rfl, h1, h2, fun k hk => ?_⟩
  rcases h3 with ⟨_, h0⟩ | ⟨g, rfl, _, _, hc, _⟩
  · omega
  · have hg := pfl_get hk
    refine ⟨g, 0, rfl, ?_, ?_⟩
    · simpa using hc (k * 2) (.int .i64 (pel xs k).1) (by unfold ints; rw [List.getElem?_map, hg.1]; rfl)
    · simpa using hc (k * 2 + 1) (.int .i64 (pel xs k).2) (by unfold ints; rw [List.getElem?_map, hg.2]; rfl)
theorem OP.rd {w : World} {lo hi c : Nat} {A : Option Addr} {xs : List PI} (h : OP w lo hi (.slice A xs.length c) xs) : RdP w A xs := by
  obtain ⟨A', c', e, _, _, hr⟩ := h.shp; cases e; exact hr
end Go.Proofs.Ytolcmehndambmaa
