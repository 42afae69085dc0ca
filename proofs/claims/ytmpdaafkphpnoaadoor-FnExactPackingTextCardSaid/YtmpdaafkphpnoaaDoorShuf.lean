import Derived.Test.YtmpdaafkphpnoaaDoorWord
import Derived.Test.YtmpdaafkphpnoaaDoorLawI
set_option linter.unusedVariables false
set_option linter.unusedSimpArgs false
namespace Go.Proofs.YtmpdaafkphpnoaaDoor
open Go.RowKit

def shufB (xs : List Int) : Bool := lanesB xs.length && xs.all (fun x => inB x 0 ((xs.length : Int) - 1))
theorem shufB_len {xs : List Int} (h : shufB xs = true) : xs.length ≤ 16 := by
  simp only [shufB, Bool.and_eq_true] at h; have := lanesB_or h.1; omega
theorem shufB_el {xs : List Int} (h : shufB xs = true) {k : Nat} (hk : k < xs.length) : 0 ≤ el xs k ∧ el xs k < xs.length := by
  simp only [shufB, Bool.and_eq_true, List.all_eq_true] at h; have := inB_iff.1 (h.2 _ (el_mem hk)); omega



theorem set_range {n k : Nat} (h : Nat → Int) (hk : k < n) : ((List.range k).map h ++ List.replicate (n - k) 0).set k (h k) = (List.range (k + 1)).map h ++ List.replicate (n - (k + 1)) 0 := by
  obtain ⟨m, hm⟩ : ∃ m, n - k = m + 1 := ⟨n - k - 1, by omega⟩
  rw [hm, show n - (k + 1) = m from by omega, List.range_succ, List.replicate_succ, List.set_append_right _ _ (by simp)]
  simp
/-- A function value that answers with the numbers h. -/
def FvI (P : Program) (w : World) (g : Nat) (lb : Array Value) (n : Nat) (h : Nat → Int) : Prop :=
  ∀ W, Below w.heap.size w W → ∀ k, k < n → Calls P g (#[.int .i64 (k : Nat)] ++ lb) W fun e w' => e = .returned (.int .i64 (h k)) ∧ Below W.heap.size W w'
def pick (xs is : List Int) : List Int := is.map fun i => el xs i.toNat
theorem pick_range (xs is : List Int) : (List.range is.length).map (fun k => el xs (el is k).toNat) = pick xs is := by
  apply List.ext_getElem? ; intro k
  by_cases hk : k < is.length
  · simp [pick, hk, el_get hk]
    have := el_get hk; rw [List.getElem?_eq_getElem hk] at this; rw [Option.some.inj this]
  · simp [pick, hk]
def InB (xs is : List Int) : Prop := ∀ k, k < is.length → 0 ≤ el is k ∧ el is k < xs.length
theorem pick_snoc {xs is : List Int} {k : Nat} (hk : k < is.length) : pick xs (is.take (k + 1)) = pick xs (is.take k) ++ [el xs (el is k).toNat] := by
  rw [el_take hk]; simp [pick]
end Go.Proofs.YtmpdaafkphpnoaaDoor
