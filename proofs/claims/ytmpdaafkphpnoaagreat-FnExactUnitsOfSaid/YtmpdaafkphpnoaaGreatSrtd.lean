import Derived.Sort.OwnSortedInts
import Derived.Test.YtmpdaafkphpnoaaGreatSeq
import Derived.Test.YtmpdaafkphpnoaaGreatSrt
set_option linter.unusedVariables false
set_option linter.unusedSimpArgs false
namespace Go.Proofs.YtmpdaafkphpnoaaGreat
open Go.RowKit

/-! ### slices.Sorted(slices.Values(xs)) -/
def sortI (xs : List Int) : List Int := xs.mergeSort fun x y => decide (x ≤ y)
theorem sortI_length (xs : List Int) : (sortI xs).length = xs.length := by unfold sortI; simp
theorem g_Sorted (w : World) (Bs cap : Nat) (A : Option Addr) (xs : List Int) (hl : xs.length ≤ 1048576) (h1 : 1 ≤ xs.length) (hBs : Bs < w.heap.size)
    (hc : w.cell? ⟨Bs, 0, none⟩ = some (.slice A xs.length cap)) (hb : ∀ b off, A = some ⟨b, off, none⟩ → b < w.heap.size) (hR : RdI w A xs) :
    Calls Tryz.prog 189 #[.func (.func 214) #[] #[.pointer (some ⟨Bs, 0, none⟩)]] w (RetI w 2 (sortI xs)) := by
  have C1 := hid (g_collect w Bs cap A xs hl h1 hBs hc hb hR)
  clear hc hb hR
  go_enter Tryz.func189, Tryz.ntmps189
  go_wp2_with fail
  refine C1.out.mono ?_
  rintro e w1 ⟨v, rfl, ho, hb⟩
  clear C1
  unfold OwnI Own at ho
  obtain ⟨hrow, _⟩ := ho
  rcases hrow.2 with ⟨rfl, hz⟩ | ⟨gb, cap', cur, rfl, hbase, hgb, r1, r2, r3, r4⟩
  · omega
  · have r4' : cur.toList.take xs.length = xs.map (Value.int .i64) := by simpa [ints] using r4
    have CS := hid (Tryz.slices_Sort_int gb 0 cap' xs w1 (holds_of_blockI hgb r4') (Array.getElem?_eq_some_iff.1 hgb).1 (by omega))
    have HG := hid hgb
    have HB := hid hb
    have HR := hid (And.intro r3 r4')
    clear hrow hgb r4 r4' hb
    go_wp2_with fail
    refine CS.out.mono ?_
    rintro e w2 ⟨rfl, nn, os, hw⟩
    have HO : Hid (w2.ownsRow w.heap.size 2 1 (.slice (some ⟨gb, 0, none⟩) xs.length cap') xs.length ((sortI xs).map (Value.int .i64))) := hid (by
      rw [hw]
      have := ownsRow_sortedI (n := nn) (os := os) (ts := sortI xs) (sortI_length xs) hbase HG.out r1 r2 HR.out.1
      exact this)
    have HB2 := hid (show Below w.heap.size w w2 by rw [hw]; exact HB.out.grown (grownBy_sortedI _) HB.out.size (fun j hj => by cases hj; exact hbase))
    clear hw CS
    go_wp2_with fail
    go_ret
    refine ⟨_, rfl, ?_, HB2.out⟩
    unfold OwnI
    rw [sortI_length]
    exact Own.of (by unfold ints; exact HO.out)
end Go.Proofs.YtmpdaafkphpnoaaGreat
