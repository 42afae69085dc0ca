import Derived.Test.YtmpdaafkphpnoaaCat2
import Derived.Test.YtmpdaafkphpnoaaShuf2
set_option linter.unusedVariables false
set_option linter.unusedSimpArgs false
namespace Go.Proofs.Ytmpdaafkphpnoaa
open Go.RowKit

theorem rdR_two {W : World} {B : Nat} {A A' : Option Addr} {c c' : Nat} {xs ys : List Int} (h0 : W.cell? ⟨B, 0, none⟩ = some (.slice A xs.length c)) (h1 : W.cell? ⟨B, 1, none⟩ = some (.slice A' ys.length c')) (hc : xs.length ≤ c) (hc' : ys.length ≤ c')
    (hA : RdI W A xs) (hA' : RdI W A' ys) : RdR W (some ⟨B, 0, none⟩) [xs, ys] := by
  refine ⟨fun k => if k = 0 then .slice A xs.length c else .slice A' ys.length c', fun k hk => ?_, fun k hk => ?_⟩
  · rcases (show k = 0 ∨ k = 1 by simp at hk; omega) with rfl | rfl
    · exact ⟨B, 0, rfl, by simpa using h0⟩
    · exact ⟨B, 0, rfl, by simpa using h1⟩
  · rcases (show k = 0 ∨ k = 1 by simp at hk; omega) with rfl | rfl
    · exact ⟨A, c, rfl, hc, hA⟩
    · exact ⟨A', c', rfl, hc', hA'⟩
def pickB (b : Int) (ps xs ys : List Int) : Bool := vecB b xs && (vecB b ys && decide (xs.length = ys.length)) && decide (ps.length = xs.length) && ps.all (fun i => inB i 0 (2 * (xs.length : Int) - 1))
def m_PickLanes (b : Int) (ps xs ys : List Int) : List Int × Bool := if pickB b ps xs ys then (pick (xs ++ ys) ps, true) else ([], false)
theorem m_PickLanes_len (b : Int) (ps xs ys : List Int) (h : ps.length ≤ 1048576) : (m_PickLanes b ps xs ys).1.length ≤ 1048576 := by
  unfold m_PickLanes; split
  · simpa [pick] using h
  · simp
theorem vecs_two (b : Int) (xs ys : List Int) : vecsB b [xs, ys] = (vecB b xs && (vecB b ys && decide (xs.length = ys.length))) := by
  have : rw_ [xs, ys] 0 = xs := rfl
  simp only [vecsB, List.all_cons, List.all_nil, Bool.and_true, this, decide_true]
  congr 2; rw [Bool.eq_iff_iff]; simp; omega
theorem pick_inB {ps xs ys : List Int} (hl : xs.length = ys.length) (h : (ps.all fun i => inB i 0 (2 * (xs.length : Int) - 1)) = true) : InB (xs ++ ys) ps := by
  intro k hk
  rw [List.all_eq_true] at h
  have := inB_iff.1 (h _ (el_mem hk))
  simp only [List.length_append]; omega

theorem two_rd (w : World) (A2 : Option Addr) (c2 : Nat) (xs : List Int) (A3 : Option Addr) (c3 : Nat) (ys : List Int) (hx : xs.length ≤ c2) (hy : ys.length ≤ c3) (h2 : RdI w A2 xs) (h3 : RdI w A3 ys) :
    RdR (w.alloc (.cells #[.slice A2 xs.length c2, .slice A3 ys.length c3] 27)) (some ⟨w.heap.size, 0, none⟩) [xs, ys] :=
  rdR_two (by simp) (by simp) hx hy (h2.below (ballocw w _)) (h3.below (ballocw w _))
abbrev WP (w : World) (A2 : Option Addr) (n2 c2 : Nat) : World := w.alloc (.cells #[.slice A2 n2 c2] 27)
abbrev WP2 (W : World) (A2 : Option Addr) (n2 c2 : Nat) (A3 : Option Addr) (n3 c3 : Nat) : World := W.alloc (.cells #[.slice A2 n2 c2, .slice A3 n3 c3] 27)
abbrev AnsB (b : Bool) (Q : World → Prop) : Ending → World → Prop := fun e w' => e = .returned (.bool b) ∧ Q w'
end Go.Proofs.Ytmpdaafkphpnoaa
