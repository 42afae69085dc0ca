import Derived.Test.YtmpdaafkphpnoaaSrc6
import Derived.Test.YtmpdaafkphpnoaaShuf2
import Derived.Test.YtmpdaafkphpnoaaShuf3b
import Derived.Test.YtmpdaafkphpnoaaShuf6
set_option linter.unusedVariables false
set_option linter.unusedSimpArgs false
namespace Go.Proofs.Ytmpdaafkphpnoaa
open Go.RowKit

/-! ### What holds of shuffles: plain lists -/
theorem vecB_of {b : Int} {xs : List Int} {n : Nat} (hl : xs.length = n) (hn : lanesB n = true) (hb : bitsB b = true) (h : xs.all (wordB b) = true) : vecB b xs = true := by unfold vecB; rw [hl, hn, hb, h]; rfl
theorem pick_length (xs is : List Int) : (pick xs is).length = is.length := by simp [pick]
theorem pick_el {xs is : List Int} {k : Nat} (h : k < is.length) : el (pick xs is) k = el xs (el is k).toNat := by
  have := el_get (xs := pick xs is) (k := k) (by rw [pick_length]; exact h)
  unfold pick at this
  rw [List.getElem?_map, el_get h] at this
  exact (Option.some.inj this).symm
theorem pick_vec {b : Int} {f a : List Int} (hf : shufB f = true) (ha : vecB b a = true) (hl : f.length = a.length) : vecB b (pick a f) = true := by
  simp only [vecB, Bool.and_eq_true, List.all_eq_true] at ha ⊢
  rw [pick_length, hl]
  refine ⟨ha.1, fun x hx => ?_⟩
  obtain ⟨k, hk, rfl⟩ := List.getElem_of_mem hx
  have e := el_get hk; rw [List.getElem?_eq_getElem hk] at e; rw [Option.some.inj e]
  rw [pick_length] at hk
  rw [pick_el hk]
  have := shufB_el hf hk
  exact ha.2 _ (el_mem (by omega))
theorem pick_shuf {f s : List Int} (hf : shufB f = true) (hs : shufB s = true) (hl : s.length = f.length) : shufB (pick f s) = true := by
  have hf' := hf
  simp only [shufB, Bool.and_eq_true, List.all_eq_true] at hf' ⊢
  rw [pick_length, hl]
  refine ⟨hf'.1, fun x hx => ?_⟩
  obtain ⟨k, hk, rfl⟩ := List.getElem_of_mem hx
  have e := el_get hk; rw [List.getElem?_eq_getElem hk] at e; rw [Option.some.inj e]
  rw [pick_length] at hk
  rw [pick_el hk]
  have := shufB_el hs hk
  exact hf'.2 _ (el_mem (by omega))
theorem pick_pick {a f s : List Int} (hs : shufB s = true) (hl : s.length = f.length) : pick (pick a f) s = pick a (pick f s) := by
  apply el_ext
  · simp [pick_length]
  intro k hk
  rw [pick_length] at hk
  have := shufB_el hs hk
  rw [pick_el (xs := a) (is := pick f s) (by rw [pick_length]; exact hk), pick_el (xs := f) (is := s) hk, pick_el (xs := pick a f) (is := s) hk, pick_el (xs := a) (is := f) (by omega)]
theorem ord_inv {o : List Int} {n : Nat} (h : OrdP o n) : OrdP (inv o) n := by
  refine ⟨by rw [inv_length]; exact h.1, fun j hj => ?_⟩
  have hb := all_below h.1 h.2 hj
  obtain ⟨i, hi⟩ : ∃ i : Nat, el o j = i := ⟨(el o j).toNat, by omega⟩
  have : el (inv o) i = j := by
    unfold inv
    rw [el_range (fun k : Nat => fst o (k : Int)) (by rw [h.1]; omega)]
    rcases fst_cases o (i : Int) with ⟨_, hn⟩ | ⟨k, hk, hf, he, _⟩
    · exact absurd (hi ▸ el_mem (by rw [h.1]; exact hj)) hn
    · rw [hf]; congr 1; exact el_inj h.1 h.2 (by have := h.1; omega) hj (by rw [he]; omega) (by rw [he, hi])
  rw [← this]
  exact el_mem (by rw [inv_length, h.1]; omega)
theorem pick_back {a o : List Int} {n : Nat} (h : OrdP o n) (hl : a.length = n) : pick (pick a o) (inv o) = a := by
  apply el_ext
  · rw [pick_length, inv_length, h.1, hl]
  intro k hk
  rw [pick_length, inv_length, h.1] at hk
  have hk' : k < (inv o).length := by rw [inv_length, h.1]; exact hk
  rw [pick_el hk']
  have he : el (inv o) k = fst o (k : Int) := by unfold inv; exact el_range (fun k : Nat => fst o (k : Int)) (by rw [h.1]; exact hk)
  rcases fst_cases o (k : Int) with ⟨_, hn⟩ | ⟨j, hj, hf, hj2, _⟩
  · exact absurd (h.2 k hk) hn
  · rw [he, hf, Int.toNat_natCast, pick_el hj, hj2, Int.toNat_natCast]
theorem ord_orderB {o : List Int} {n : Nat} (h : OrdP o n) (hn : lanesB n = true) : orderB o = true := by
  unfold orderB; rw [h.shuf hn, Bool.true_and, ordB_iff, h.1]; exact h.2
/-- The list that picks lanes of both. -/
def bothL (f : List Int) (n : Nat) (k : Nat) : List Int := (List.range k).map fun i : Nat => el f i + (n : Int) * ((i : Int) % 2)
theorem bothL_length (f : List Int) (n k : Nat) : (bothL f n k).length = k := by simp [bothL]
theorem bothL_snoc (f : List Int) (n k : Nat) : bothL f n (k + 1) = bothL f n k ++ [el f k + (n : Int) * ((k : Int) % 2)] := by unfold bothL; rw [List.range_succ, List.map_append]; rfl
theorem bothL_el {f : List Int} {n k i : Nat} (h : i < k) : el (bothL f n k) i = el f i + (n : Int) * ((i : Int) % 2) := el_range (fun i : Nat => el f i + (n : Int) * ((i : Int) % 2)) h
theorem both_pick {b : Int} {f a u : List Int} {n : Nat} (hf : shufB f = true) (hfl : f.length = n) (ha : vecB b a = true) (hal : a.length = n) (hu : vecB b u = true) (hul : u.length = n) :
    m_PickLanes b (bothL f n n) a u = (pick (a ++ u) (bothL f n n), true) := by
  unfold m_PickLanes pickB
  rw [ha, hu, bothL_length, hal, hul]
  have : (bothL f n n).all (fun i => inB i 0 (2 * (n : Int) - 1)) = true := by
    rw [List.all_eq_true]
    intro x hx
    obtain ⟨k, hk, rfl⟩ := List.getElem_of_mem hx
    have e := el_get hk; rw [List.getElem?_eq_getElem hk] at e; rw [Option.some.inj e, inB_iff]
    rw [bothL_length] at hk
    rw [bothL_el hk]
    have := shufB_el hf (k := k) (by omega)
    rcases (show (k : Int) % 2 = 0 ∨ (k : Int) % 2 = 1 by omega) with h | h <;> rw [h] <;> omega
  rw [this]
  simp
theorem el_app_l {a u : List Int} {k : Nat} (h : k < a.length) : el (a ++ u) k = el a k := by
  unfold el; rw [List.getD_eq_getElem?_getD, List.getD_eq_getElem?_getD, List.getElem?_append_left h]
theorem el_app_r {a u : List Int} {k : Nat} (h : a.length ≤ k) : el (a ++ u) k = el u (k - a.length) := by
  unfold el; rw [List.getD_eq_getElem?_getD, List.getD_eq_getElem?_getD, List.getElem?_append_right h]
theorem both_el {f a u : List Int} {n i : Nat} (hf : shufB f = true) (hfl : f.length = n) (hal : a.length = n) (hi : i < n) :
    el (pick (a ++ u) (bothL f n n)) i = if (i : Int) % 2 = 0 then el a (el f i).toNat else el u (el f i).toNat := by
  rw [pick_el (by rw [bothL_length]; exact hi), bothL_el hi]
  have := shufB_el hf (k := i) (by omega)
  rcases (show (i : Int) % 2 = 0 ∨ (i : Int) % 2 = 1 by omega) with h | h
  · rw [h, if_pos rfl, el_app_l (by omega)]; congr 1; omega
  · rw [h, if_neg (by omega), el_app_r (by omega)]; congr 1; omega
end Go.Proofs.Ytmpdaafkphpnoaa
