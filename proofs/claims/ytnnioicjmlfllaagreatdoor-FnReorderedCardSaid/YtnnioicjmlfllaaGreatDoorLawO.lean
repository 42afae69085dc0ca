import Derived.Test.YtnnioicjmlfllaaGreatDoorLawI
set_option linter.unusedVariables false
set_option linter.unusedSimpArgs false
namespace Go.Proofs.YtnnioicjmlfllaaGreatDoor
open Go.RowKit

/-- Numbers of the call's own, in the laws' walks. -/
def OI (w : World) (lo hi : Nat) (v : Value) (xs : List Int) : Prop := OwnI w lo hi 2 v xs
theorem OI.eqv {w w' : World} {lo hi : Nat} {v : Value} {xs : List Int} (h : OI w lo hi v xs) (hq : Eqv lo hi w w') : OI w' lo hi v xs := Own.eqv h hq
theorem OI.shp {w : World} {lo hi : Nat} {v : Value} {xs : List Int} (h : OI w lo hi v xs) : ∃ A c, v = .slice A xs.length c ∧ xs.length ≤ c ∧ c ≤ 9223372036854775807 ∧ RdI w A xs := Own.int h
theorem OI.rd {w : World} {lo hi c : Nat} {A : Option Addr} {xs : List Int} (h : OI w lo hi (.slice A xs.length c) xs) : RdI w A xs := by
  obtain ⟨A', c', e, _, _, hr⟩ := h.shp; cases e; exact hr
/-- A tuple of numbers and a bool. -/
def RetIB (w : World) (r : List Int × Bool) (en : Ending) (w' : World) : Prop := ∃ v, en = .returned (.tuple #[v, .bool r.2]) ∧ OI w' w.heap.size w'.heap.size v r.1 ∧ Below w.heap.size w w'



end Go.Proofs.YtnnioicjmlfllaaGreatDoor
