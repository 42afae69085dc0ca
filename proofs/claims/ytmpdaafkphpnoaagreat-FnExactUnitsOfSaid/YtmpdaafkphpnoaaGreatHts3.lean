import Derived.Test.YtmpdaafkphpnoaaGreatHts2
set_option linter.unusedVariables false
set_option linter.unusedSimpArgs false
namespace Go.Proofs.YtmpdaafkphpnoaaGreat
open Go.RowKit

theorem own_cell {w : World} {lo hi g n c : Nat} {e : TypeId} {xs : List Int} (h : Own w lo hi e 1 (.slice (some ⟨g, 0, none⟩) n c) n (ints xs)) {k : Nat} (hk : k < xs.length) :
    w.cell? ⟨g, k, none⟩ = some (.int .i64 (el xs k)) ∧ w.frozen? ⟨g, k, none⟩ = false := by
  obtain ⟨A, c', e', _, _, hs⟩ := Own.shape h
  cases e'
  rcases hs with ⟨h0, _⟩ | ⟨g', hg, h1, _, hc, hf⟩
  · cases h0
  · cases hg
    exact ⟨hc k _ (ints_get hk), hf k⟩
theorem own_put {w : World} {lo hi g n c : Nat} {e : TypeId} {xs : List Int} (h : Own w lo hi e 1 (.slice (some ⟨g, 0, none⟩) n c) n (ints xs)) (k : Nat) (x : Int) :
    Own (w.setCell ⟨g, k, none⟩ (.int .i64 x)) lo hi e 1 (.slice (some ⟨g, 0, none⟩) n c) n (ints (xs.set k x)) := by
  have := Own.set h k (.int .i64 x)
  rwa [ints_set] at this
theorem own_drew {w : World} {lo hi n : Nat} {e : TypeId} {v : Value} {cs : List Value} (h : Own w lo hi e 1 v n cs) : Own w.drew lo hi e 1 v n cs := h.eqv fun _ _ _ => rfl
theorem bdrew {B : Nat} {w W : World} (h : Below B w W) : Below B w W.drew := ⟨h.os, h.tape, h.output, h.size, h.block⟩
theorem htN_step {ts : List TaskV} {j : Nat} (h : j < ts.length) : htN ts (ts.length - j) = ndN ((htN ts (ts.length - (j + 1))).set j (el (htN ts (ts.length - (j + 1))) j + (tel ts j).lat)) j (tel ts j).needs (tel ts j).needs.length := by
  rw [show ts.length - j = ts.length - (j + 1) + 1 from by omega]
  simp only [htN]
  rw [show ts.length - (ts.length - (j + 1) + 1) = j from by omega]

end Go.Proofs.YtmpdaafkphpnoaaGreat
