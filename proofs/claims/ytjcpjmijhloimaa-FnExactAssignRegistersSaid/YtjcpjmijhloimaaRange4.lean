import Derived.Test.YtjcpjmijhloimaaRange3
import Derived.Test.YtjcpjmijhloimaaSz
set_option linter.unusedVariables false
set_option linter.unusedSimpArgs false
namespace Go.Proofs.Ytjcpjmijhloimaa
open Go.RowKit

/-- Ranges of the call's own. -/
def OP (w : World) (lo hi : Nat) (v : Value) (xs : List PI) : Prop := Own w lo hi 118 2 v xs.length (ints (pfl xs))
theorem OP.eqv {w w' : World} {lo hi : Nat} {v : Value} {xs : List PI} (h : OP w lo hi v xs) (hq : Eqv lo hi w w') : OP w' lo hi v xs := Own.eqv h hq
theorem OP.shp {w : World} {lo hi : Nat} {v : Value} {xs : List PI} (h : OP w lo hi v xs) : ∃ A c, v = .slice A xs.length c ∧ xs.length ≤ c ∧ c ≤ 9223372036854775807 ∧ RdP w A xs := by
  obtain ⟨A, c, rfl, h1, h2, h3⟩ := Own.shape h
  refine ⟨A, c, rfl, h1, h2, fun k hk => ?_⟩
  rcases h3 with ⟨_, h0⟩ | ⟨g, rfl, _, _, hc, _⟩
  · omega
  · have hg := pfl_get hk
    refine ⟨g, 0, rfl, ?_, ?_⟩
    · simpa using hc (k * 2) (.int .i64 (pel xs k).1) (by unfold ints; rw [List.getElem?_map, hg.1]; rfl)
    · simpa using hc (k * 2 + 1) (.int .i64 (pel xs k).2) (by unfold ints; rw [List.getElem?_map, hg.2]; rfl)
theorem OP.rd {w : World} {lo hi c : Nat} {A : Option Addr} {xs : List PI} (h : OP w lo hi (.slice A xs.length c) xs) : RdP w A xs := by
  obtain ⟨A', c', e, _, _, hr⟩ := h.shp; cases e; exact hr
theorem l_szRangeSO (w : World) (A : Option Addr) (c : Nat) (xs : List PI) (left : Int) (hl : xs.length ≤ 9223372036854775807) (h0 : 0 ≤ left) (h1 : left ≤ 1048576) (hR : RdP w A xs) :
    Calls Try.prog 37 #[.slice A xs.length c, .int .i64 left] w fun e w' => e = .returned (.int .i64 (szR left xs.length)) ∧ Below w.heap.size w w' := by
  refine (l_szRangeS w A xs.length c left hl h0 h1).mono ?_
  rintro e w' ⟨rfl, rfl⟩
  exact ⟨ret_i (by unfold szR; split <;> split <;> omega), Below.refl _ _⟩
theorem l_toRangeSO (w : World) (A : Option Addr) (c : Nat) (xs : List PI) (hl : xs.length ≤ 1048576) (hR : RdP w A xs) :
    Calls Try.prog 39 #[.slice A xs.length c] w fun e w' => ∃ v, e = .returned v ∧ OP w' w.heap.size w'.heap.size v xs ∧ Below w.heap.size w w' := l_toRangeS w A c xs hl hR
theorem l_eqRangeSO (w : World) (lo hi lo' hi' : Nat) (v v' : Value) (xs ys : List PI) (hl : xs.length ≤ 1048576) (hl' : ys.length ≤ 1048576) (h : OP w lo hi v xs) (h' : OP w lo' hi' v' ys) :
    Calls Try.prog 41 #[v, v'] w fun e w' => e = .returned (.bool (decide (xs = ys))) ∧ Below w.heap.size w w' := by
  obtain ⟨A, c, rfl, _, _, hr⟩ := h.shp
  obtain ⟨A', c', rfl, _, _, hr'⟩ := h'.shp
  exact l_eqRangeS w A A' c c' xs ys (by omega) (by omega) hr hr'
end Go.Proofs.Ytjcpjmijhloimaa
