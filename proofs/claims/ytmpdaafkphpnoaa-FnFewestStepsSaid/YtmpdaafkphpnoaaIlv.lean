import Derived.Test.YtmpdaafkphpnoaaShuf6
import Derived.Test.YtmpdaafkphpnoaaCalm
import Derived.Test.YtmpdaafkphpnoaaClone
import Derived.Test.YtmpdaafkphpnoaaOwnA
import Derived.Deep.RegionHeld3
set_option linter.unusedVariables false
set_option linter.unusedSimpArgs false
namespace Go.Proofs.Ytmpdaafkphpnoaa
open Go.RowKit

/-! ### Interleaved lanes -/
def ilE (a b : List Int) (i : Nat) : Int := if i % 2 = 0 then el a (i / 2) else el b (i / 2)
def ilv (a b : List Int) : List Int := (List.range (2 * a.length)).map (ilE a b)
theorem ilv_length (a b : List Int) : (ilv a b).length = 2 * a.length := by simp [ilv]
theorem ilv_el (a b : List Int) {i : Nat} (h : i < 2 * a.length) : el (ilv a b) i = ilE a b i := el_range _ h
theorem el_takeJ {xs : List Int} {n k : Nat} (h : k < n) : el (xs.take n) k = el xs k := by
  unfold el; rw [List.getD_eq_getElem?_getD, List.getD_eq_getElem?_getD, List.getElem?_take_of_lt h]
theorem el_dropJ (xs : List Int) (n k : Nat) : el (xs.drop n) k = el xs (n + k) := by
  unfold el; rw [List.getD_eq_getElem?_getD, List.getD_eq_getElem?_getD, List.getElem?_drop]
theorem RdI.takeJ {w : World} {A : Option Addr} {xs : List Int} (h : RdI w A xs) (n : Nat) : RdI w A (xs.take n) := fun k hk => by
  have hk' : k < n ∧ k < xs.length := by rw [List.length_take] at hk; omega
  obtain ⟨b, off, e, hc⟩ := h k hk'.2
  refine ⟨b, off, e, ?_⟩
  show _ = some (Value.int .i64 (el _ k))
  rw [el_takeJ hk'.1]; exact hc
theorem RdI.dropJ {w : World} {b off : Nat} {xs : List Int} (h : RdI w (some ⟨b, off, none⟩) xs) (n : Nat) : RdI w (some ⟨b, off + n, none⟩) (xs.drop n) := fun k hk => by
  have hk' : n + k < xs.length := by rw [List.length_drop] at hk; omega
  obtain ⟨b', off', e, hc⟩ := h (n + k) hk'
  cases e
  refine ⟨b, off + n, rfl, ?_⟩
  show _ = some (Value.int .i64 (el _ k))
  rw [el_dropJ, Nat.add_assoc]; exact hc
theorem g_CloneM (W : World) (A : Option Addr) (c n : Nat) (xs : List Int) (hl : xs.length = n) (hn : n ≤ 1048576) (hr : RdI W A xs) :
    Calls Try.prog 56 #[.slice A n c] W fun e w' => ∃ A' c', e = .returned (.slice A' n c') ∧ OI w' W.heap.size w'.heap.size (.slice A' n c') xs ∧ Below W.heap.size W w' := by
  subst hl
  refine (g_Clone W A c xs (by omega) hr).mono fun e w' hq => ?_
  obtain ⟨v, rfl, ho, hb⟩ := hq
  obtain ⟨A', c', rfl, _, _, _⟩ := Own.int ho
  exact ⟨A', c', rfl, ho, hb⟩
theorem two_rdJ (w : World) (A2 : Option Addr) (c2 : Nat) (xs : List Int) (A3 : Option Addr) (c3 : Nat) (ys : List Int) (hx : xs.length ≤ c2) (hy : ys.length ≤ c3) (h2 : RdI w A2 xs) (h3 : RdI w A3 ys) :
    RdR (w.alloc (.cells #[.slice A2 xs.length c2, .slice A3 ys.length c3] 27)) (some ⟨w.heap.size, 0, none⟩) [xs, ys] :=
  rdR_two (by simp) (by simp) hx hy (h2.below (ballocw w _)) (h3.below (ballocw w _))
end Go.Proofs.Ytmpdaafkphpnoaa
