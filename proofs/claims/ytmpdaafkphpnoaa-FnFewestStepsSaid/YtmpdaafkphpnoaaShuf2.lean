import Derived.Test.YtmpdaafkphpnoaaShuf
import Derived.Test.YtmpdaafkphpnoaaLawO
set_option linter.unusedVariables false
set_option linter.unusedSimpArgs false
namespace Go.Proofs.Ytmpdaafkphpnoaa
open Go.RowKit

def m_ThenShuffle (xs ys : List Int) : List Int × Bool := if shufB xs && shufB ys && decide (xs.length = ys.length) then (pick xs ys, true) else ([], false)
theorem m_ThenShuffle_len (xs ys : List Int) (h : ys.length ≤ 1048576) : (m_ThenShuffle xs ys).1.length ≤ 1048576 := by
  unfold m_ThenShuffle; split
  · simpa [pick] using h
  · simp
def m_ShuffleLanes (b : Int) (xs ys : List Int) : List Int × Bool := if shufB xs && vecB b ys && decide (xs.length = ys.length) then (pick ys xs, true) else ([], false)
theorem m_ShuffleLanes_len (b : Int) (xs ys : List Int) (h : xs.length ≤ 1048576) : (m_ShuffleLanes b xs ys).1.length ≤ 1048576 := by
  unfold m_ShuffleLanes; split
  · simpa [pick] using h
  · simp
theorem inB_shuf {xs ys : List Int} (h : shufB ys = true) (e : ((xs.length : Int) != (ys.length : Int)) = false) : InB xs ys := by
  intro k hk; have := shufB_el h hk; simp at e; omega
theorem inB_shuf' {xs ys : List Int} (h : shufB ys = true) (e : ((ys.length : Int) != (xs.length : Int)) = false) : InB xs ys := by
  intro k hk; have := shufB_el h hk; simp at e; omega
theorem len_ne {a b : Nat} : ((a : Int) != (b : Int)) = !decide (a = b) := by rw [Bool.eq_iff_iff]; simp; omega

theorem i_ThenShuffle (w : World) (A : Option Addr) (c : Nat) (xs : List Int) (A' : Option Addr) (c' : Nat) (ys : List Int) (hl : xs.length ≤ 1048576) (hA : RdI w A xs) (hl' : ys.length ≤ 1048576) (hA' : RdI w A' ys) :
    Calls Try.prog 8 #[.slice A xs.length c, .slice A' ys.length c'] w (RetIB w (m_ThenShuffle xs ys)) := by
  have c0 := fun (W : World) (hW : Below w.heap.size w W) => i_IsShuffle W A c xs (by omega) (hA.below hW)
  have c1 := fun (W : World) (hW : Below w.heap.size w W) => i_IsShuffle W A' c' ys (by omega) (hA'.below hW)
  have cl := fun (W : World) (hW : Below w.heap.size w W) (hin : InB xs ys) => i_picked W A A' c c' xs ys hin (by omega) (by omega) (hA.below hW) (hA'.below hW)
  cases h0 : shufB xs with
  | false =>
    have HM := hid (show m_ThenShuffle xs ys = ([], false) from by simp [m_ThenShuffle, h0])
    simp only [h0] at c0
    clear h0
    clear cl
    go_enter Try.func8, Try.ntmps8
    go_wp2_with fail
    refine (c0 _ (Below.refl _ _)).mono ?_
    rintro e w1 ⟨rfl, hb1⟩
    have hx1 := bthen (Below.refl _ _) hb1
    go_wp2_with fail
    go_ret2
    exact ⟨_, by rw [HM.out]; rfl, by rw [HM.out]; exact Own.nil _ _ _ _ _, hx1⟩
  | true =>
    cases h1 : shufB ys with
    | false =>
      have HM := hid (show m_ThenShuffle xs ys = ([], false) from by simp [m_ThenShuffle, h0, h1])
      simp only [h0] at c0
      simp only [h1] at c1
      clear h0 h1
      clear cl
      go_enter Try.func8, Try.ntmps8
      go_wp2_with fail
      refine (c0 _ (Below.refl _ _)).mono ?_
      rintro e w1 ⟨rfl, hb1⟩
      have hx1 := bthen (Below.refl _ _) hb1
      go_wp2_with fail
      refine (c1 _ (hx1)).mono ?_
      rintro e w2 ⟨rfl, hb2⟩
      have hx2 := bthen (hx1) hb2
      go_wp2_with fail
      go_ret2
      exact ⟨_, by rw [HM.out]; rfl, by rw [HM.out]; exact Own.nil _ _ _ _ _, hx2⟩
    | true =>
      cases h2 : ((xs.length : Int) != (ys.length : Int)) with
      | true =>
        have HM := hid (show m_ThenShuffle xs ys = ([], false) from by have q2 := h2; simp at q2; simp [m_ThenShuffle, h0, h1, q2] <;> omega)
        simp only [h0] at c0
        simp only [h1] at c1
        clear h0 h1
        clear cl
        go_enter Try.func8, Try.ntmps8
        go_wp2_with fail
        refine (c0 _ (Below.refl _ _)).mono ?_
        rintro e w1 ⟨rfl, hb1⟩
        have hx1 := bthen (Below.refl _ _) hb1
        go_wp2_with fail
        refine (c1 _ (hx1)).mono ?_
        rintro e w2 ⟨rfl, hb2⟩
        have hx2 := bthen (hx1) hb2
        go_wp2_with fail
        go_ret2
        exact ⟨_, by rw [HM.out]; rfl, by rw [HM.out]; exact Own.nil _ _ _ _ _, hx2⟩
      | false =>
        have HM := hid (show m_ThenShuffle xs ys = (pick xs ys, true) from by have q2 := h2; simp at q2; simp [m_ThenShuffle, h0, h1, q2] <;> omega)
        simp only [h0] at c0
        simp only [h1] at c1
        have hin := inB_shuf h1 h2
        replace cl := fun W hW => cl W hW hin
        clear h0 h1
        go_enter Try.func8, Try.ntmps8
        go_wp2_with fail
        refine (c0 _ (Below.refl _ _)).mono ?_
        rintro e w1 ⟨rfl, hb1⟩
        have hx1 := bthen (Below.refl _ _) hb1
        go_wp2_with fail
        refine (c1 _ (hx1)).mono ?_
        rintro e w2 ⟨rfl, hb2⟩
        have hx2 := bthen (hx1) hb2
        go_wp2_with fail
        refine (cl _ (hx2)).mono ?_
        rintro e wl ⟨v, rfl, hol, hbl⟩
        go_wp2_with fail
        go_ret2
        exact ⟨_, by rw [HM.out]; rfl, by rw [HM.out]; exact hol.wide (hx2).size (Nat.le_refl _), bthen (hx2) hbl⟩

end Go.Proofs.Ytmpdaafkphpnoaa
