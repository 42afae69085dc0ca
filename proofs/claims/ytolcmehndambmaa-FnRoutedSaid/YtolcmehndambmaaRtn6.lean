import Derived.Test.YtolcmehndambmaaRtn3
import Derived.Test.YtolcmehndambmaaRwsB
import Derived.StillTailTactics
import Derived.BigRegion
set_option linter.unusedVariables false
set_option linter.unusedSimpArgs false
namespace Go.Proofs.Ytolcmehndambmaa
open Go.RowKit

/-! ### The reference's routing: plain lists -/
def p1 (o : List Int) : List Int := o.map (· + 1)
theorem p1_length (o : List Int) : (p1 o).length = o.length := by simp [p1]
theorem p1_el {o : List Int} {k : Nat} (h : k < o.length) : el (p1 o) k = el o k + 1 := by
  have h1 := el_get (xs := p1 o) (k := k) (by rw [p1_length]; exact h)
  unfold p1 at h1
  rw [List.getElem?_map, el_get h] at h1
  have h2 : el o k + 1 = el (o.map (· + 1)) k := by simpa using h1
  exact h2.symm
theorem p1_set (o : List Int) (a : Nat) (x : Int) : (p1 o).set a (x + 1) = p1 (o.set a x) := by simp [p1, List.map_set]
theorem p1_rep (n : Nat) : p1 (List.replicate n (-1)) = List.replicate n 0 := by simp [p1]
def zf (T : List Int) (k : Nat) : List Int := T.take k ++ List.replicate (T.length - k) 0
theorem zf_length (T : List Int) {k : Nat} (h : k ≤ T.length) : (zf T k).length = T.length := by simp [zf]; omega
theorem zf_el (T : List Int) {k j : Nat} (hk : k ≤ T.length) (hj : j < T.length) : el (zf T k) j = if j < k then el T j else 0 := by
  have h1 := el_get (xs := zf T k) (k := j) (by rw [zf_length T hk]; exact hj)
  unfold zf at h1
  split
  · next h =>
    rw [List.getElem?_append_left (by simp; omega), List.getElem?_take_of_lt h, el_get hj] at h1
    exact (Option.some.inj h1).symm
  · next h =>
    rw [List.getElem?_append_right (by simp; omega)] at h1
    have : j - (T.take k).length < T.length - k := by simp; omega
    rw [List.getElem?_replicate, if_pos this] at h1
    exact (Option.some.inj h1).symm
theorem zf_zero (T : List Int) : zf T 0 = List.replicate T.length 0 := by simp [zf]
theorem zf_all (T : List Int) : zf T T.length = T := by simp [zf]
theorem zf_set (T : List Int) {k : Nat} (h : k < T.length) : (zf T k).set k (el T k) = zf T (k + 1) := by
  apply el_ext
  · rw [List.length_set, zf_length T (by omega), zf_length T (by omega)]
  · intro j hj
    rw [List.length_set, zf_length T (by omega)] at hj
    rw [el_set _ (by rw [zf_length T (by omega)]; exact h), zf_el T (by omega) hj, zf_el T (by omega) hj]
    by_cases e : j = k
    · subst e; rw [if_pos rfl, if_pos (by omega)]
    · rw [if_neg e]
      by_cases e2 : j < k
      · rw [if_pos e2, if_pos (by omega)]
      · rw [if_neg e2, if_neg (by omega)]
theorem zf_same (T : List Int) {k : Nat} (h : k < T.length) (h0 : el T k = 0) : zf T (k + 1) = zf T k := by
  apply el_ext
  · rw [zf_length T (by omega), zf_length T (by omega)]
  · intro j hj
    rw [zf_length T (by omega)] at hj
    rw [zf_el T (by omega) hj, zf_el T (by omega) hj]
    by_cases e : j = k
    · subst e; rw [if_pos (by omega), if_neg (by omega), h0]
    · by_cases e2 : j < k
      · rw [if_pos e2, if_pos (by omega)]
      · rw [if_neg e2, if_neg (by omega)]
def oneT (g c : List Int) (h : Nat) (s : Int) : Nat → List Int
  | 0 => List.replicate h 0
  | e + 1 => if el c e = s then (oneT g c h s e).set (e % h) (el g e % (h : Int)) else oneT g c h s e
theorem oneT_length (g c : List Int) (h : Nat) (s : Int) (e : Nat) : (oneT g c h s e).length = h := by
  induction e with
  | zero => simp [oneT]
  | succ e ih => simp only [oneT]; split
                 · rw [List.length_set, ih]
                 · exact ih
theorem mod_h {h e : Nat} (he : e < 2 * h) : e % h = if e < h then e else e - h := by
  split
  · next q => exact Nat.mod_eq_of_lt q
  · next q => rw [show e = e - h + h from by omega, Nat.add_mod_right, Nat.mod_eq_of_lt (by omega)]; omega
theorem oneT_el {g c : List Int} {h : Nat} {s : Int} : ∀ e, e ≤ 2 * h → ∀ k, k < h → el (oneT g c h s e) k =
    if k + h < e ∧ el c (k + h) = s then el g (k + h) % (h : Int) else if k < e ∧ el c k = s then el g k % (h : Int) else 0 := by
  intro e
  induction e with
  | zero =>
    intro _ k hk
    rw [if_neg (by omega), if_neg (by omega)]
    unfold oneT el; rw [List.getD_eq_getElem?_getD]; simp [hk]
  | succ e ih =>
    intro he k hk
    have hm := mod_h (h := h) (e := e) (by omega)
    have ihk := ih (by omega) k hk
    simp only [oneT]
    have hlt : e % h < h := Nat.mod_lt _ (by omega)
    by_cases hc : el c e = s
    · rw [if_pos hc, el_set _ (by rw [oneT_length]; exact hlt), ihk]
      clear ih ihk
      rw [hm]
      by_cases q : e < h
      · grind
      · grind
    · rw [if_neg hc, ihk]
      clear ih ihk
      grind
theorem oneT_all {g c : List Int} {h : Nat} (hc : Sds g h c) (s : Int) (hs : s = 0 ∨ s = 1) : oneT g c h s (2 * h) = sbN g c h s := by
  apply el_ext
  · rw [oneT_length, sbN_length]
  · intro k hk
    rw [oneT_length] at hk
    rw [oneT_el _ (Nat.le_refl _) k hk, sbN_el _ _ _ _ hk]
    have hp := hc.pai k (by omega)
    rw [ot_cases (by omega), if_pos hk] at hp
    have hb := hc.bit k (by omega)
    unfold sbEl
    by_cases q : el c k = s
    · rw [if_neg (by omega), if_pos ⟨by omega, q⟩, if_pos q]
    · rw [if_pos ⟨by omega, by omega⟩, if_neg q]
theorem ot_int2 {h n : Nat} (hn : n = 2 * h) (x : Nat) : ((x : Int) + (h : Int)) % (n : Int) = (ot h x : Nat) := by
  subst hn
  unfold ot
  rw [Int.natCast_emod, Int.natCast_add]
theorem goN_take {g c : List Int} {n h k : Nat} (hp : Prm g n) (hn : n = 2 * h) (hk : k < h) : el ((goN g c).take h) k = el c (iN g k) := by
  rw [el_takeI hk]; unfold goN; rw [el_range _ (by rw [hp.len]; omega)]
end Go.Proofs.Ytolcmehndambmaa
