import Derived.Test.YtmpdaafkphpnoaaDoorLawI
set_option linter.unusedVariables false
set_option linter.unusedSimpArgs false
namespace Go.Proofs.YtmpdaafkphpnoaaDoor
open Go.RowKit

/-- Numbers of the call's own, in the laws' walks. -/
def OI (w : World) (lo hi : Nat) (v : Value) (xs : List Int) : Prop := OwnI w lo hi 2 v xs
theorem OI.eqv {w w' : World} {lo hi : Nat} {v : Value} {xs : List Int} (h : OI w lo hi v xs) (hq : Eqv lo hi w w') : OI w' lo hi v xs := Own.eqv h hq
theorem OI.shp {w : World} {lo hi : Nat} {v : Value} {xs : List Int} (h : OI w lo hi v xs) : ∃ A c, v = .slice A xs.length c ∧ xs.length ≤ c ∧ c ≤ 9223372036854775807 ∧ RdI w A xs := Own.int h
theorem OI.rd {w : World} {lo hi c : Nat} {A : Option Addr} {xs : List Int} (h : OI w lo hi (.slice A xs.length c) xs) : RdI w A xs := by
  obtain ⟨A', c', e, _, _, hr⟩ := h.shp; cases e; exact hr
/-- A tuple of numbers and a bool. -/
def RetIB (w : World) (r : List Int × Bool) (en : Ending) (w' : World) : Prop := ∃ v, en = .returned (.tuple #[v, .bool r.2]) ∧ OI w' w.heap.size w'.heap.size v r.1 ∧ Below w.heap.size w w'

theorem l_toInt64SO (w : World) (A : Option Addr) (c : Nat) (xs : List Int) (hl : xs.length ≤ 35184372088832) (hR : RdI w A xs) :
    Calls Tryd.prog 41 #[.slice A xs.length c] w fun e w' => ∃ v, e = .returned v ∧ OI w' w.heap.size w'.heap.size v xs ∧ Below w.heap.size w w' := l_toInt64S w A c xs hl hR

theorem l_eqInt64SO (w : World) (lo hi lo' hi' : Nat) (v v' : Value) (xs ys : List Int) (hl : xs.length ≤ 9223372036854775807) (hl' : ys.length ≤ 9223372036854775807) (h : OI w lo hi v xs) (h' : OI w lo' hi' v' ys) :
    Calls Tryd.prog 50 #[v, v'] w fun e w' => e = .returned (.bool (decide (xs = ys))) ∧ Below w.heap.size w w' := by
  obtain ⟨A, c, rfl, _, _, hr⟩ := h.shp
  obtain ⟨A', c', rfl, _, _, hr'⟩ := h'.shp
  exact l_eqInt64S w A A' c c' xs ys hl hl' hr hr'

end Go.Proofs.YtmpdaafkphpnoaaDoor
