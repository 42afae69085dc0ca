import Derived.Test.YtmpdaafkphpnoaaGreatLawI
set_option linter.unusedVariables false
set_option linter.unusedSimpArgs false
namespace Go.Proofs.YtmpdaafkphpnoaaGreat
open Go.RowKit

/-- Numbers of the call's own, in the laws' walks. -/
def OI (w : World) (lo hi : Nat) (v : Value) (xs : List Int) : Prop := OwnI w lo hi 2 v xs
theorem OI.eqv {w w' : World} {lo hi : Nat} {v : Value} {xs : List Int} (h : OI w lo hi v xs) (hq : Eqv lo hi w w') : OI w' lo hi v xs := Own.eqv h hq
theorem OI.shp {w : World} {lo hi : Nat} {v : Value} {xs : List Int} (h : OI w lo hi v xs) : ∃ A c, v = .slice A xs.length c ∧ xs.length ≤ c ∧ c ≤ 9223372036854775807 ∧ RdI w A xs := Own.int h
theorem OI.rd {w : World} {lo hi c : Nat} {A : Option Addr} {xs : List Int} (h : OI w lo hi (.slice A xs.length c) xs) : RdI w A xs := by
  obtain ⟨A', c', e, _, _, hr⟩ := h.shp; cases e; exact hr
/-- A tuple of numbers and a bool. -/
def RetIB (w : World) (r : List Int × Bool) (en : Ending) (w' : World) : Prop := ∃ v, en = .returned (.tuple #[v, .bool r.2]) ∧ OI w' w.heap.size w'.heap.size v r.1 ∧ Below w.heap.size w w'

theorem l_toInt64SO (w : World) (A : Option Addr) (c : Nat) (xs : List Int) (hl : xs.length ≤ 35184372088832) (hR : RdI w A xs) :
    Calls Tryz.prog 128 #[.slice A xs.length c] w fun e w' => ∃ v, e = .returned v ∧ OI w' w.heap.size w'.heap.size v xs ∧ Below w.heap.size w w' := l_toInt64S w A c xs hl hR
theorem l_markInt64SO (w : World) (lo hi : Nat) (v : Value) (xs : List Int) (m : Int) (h0 : 0 ≤ m) (h1 : m + xs.length ≤ 9223372036854775807) (hO : OI w lo hi v xs) :
    Calls Tryz.prog 88 #[v, .int .i64 m] w fun e w' => e = .returned (.int .i64 (m + xs.length)) ∧ OI w' lo hi v (marks m xs.length) ∧ Chg lo hi w w' := l_markInt64S w lo hi v xs m h0 h1 hO
theorem l_eqInt64SO (w : World) (lo hi lo' hi' : Nat) (v v' : Value) (xs ys : List Int) (hl : xs.length ≤ 9223372036854775807) (hl' : ys.length ≤ 9223372036854775807) (h : OI w lo hi v xs) (h' : OI w lo' hi' v' ys) :
    Calls Tryz.prog 87 #[v, v'] w fun e w' => e = .returned (.bool (decide (xs = ys))) ∧ Below w.heap.size w w' := by
  obtain ⟨A, c, rfl, _, _, hr⟩ := h.shp
  obtain ⟨A', c', rfl, _, _, hr'⟩ := h'.shp
  exact l_eqInt64S w A A' c c' xs ys hl hl' hr hr'
theorem l_heldInt64SM (w : World) (lo hi : Nat) (v : Value) (n : Nat) (hn : n ≤ 4611686018427387904) (h : OI w lo hi v (marks 1 n)) :
    Calls Tryz.prog 89 #[v, .int .i64 1] w fun e w' => e = .returned (.int .i64 (1 + n)) ∧ Below w.heap.size w w' := by
  obtain ⟨A, c, rfl, _, _, hr⟩ := h.shp
  have := l_heldInt64S w A c (marks 1 n) 1 (by omega) (by rw [marks_length]; omega) hr
  have e : held (marks 1 n) 1 = 1 + n := by have := held_marks 1 n 0; simpa using this
  rwa [e] at this
end Go.Proofs.YtmpdaafkphpnoaaGreat
