import Derived.Test.YtmpdaafkphpnoaaGreatCat
set_option linter.unusedVariables false
set_option linter.unusedSimpArgs false
namespace Go.Proofs.YtmpdaafkphpnoaaGreat
open Go.RowKit

set_option maxRecDepth 100000 in
theorem g_Clone (w : World) (A : Option Addr) (c : Nat) (xs : List Int) (hl : xs.length ≤ 1048576) (hR : RdI w A xs) :
    Calls Tryz.prog 48 #[.slice A xs.length c] w (RetI w 2 xs) := by
  cases A with
  | none =>
    have hx : xs = [] := by
      cases xs with
      | nil => rfl
      | cons y ys => obtain ⟨b, off, e, _⟩ := hR.get (k := 0) (by simp); cases e
    subst hx
    have he : ∀ w : World, (binOp .eql 28 (.slice none 0 c) (.slice none 0 0)).run Tryz.prog w = .ok (.bool true) w := fun _ => rfl
    clear hR
    go_enter Tryz.func48, Tryz.ntmps48
    go_wp2
    go_ret
    exact ⟨_, rfl, Own.nil _ _ _ _ _, Below.refl _ _⟩
  | some a =>
    have hown := Own.of (World.ownsRow_lit (base := w.heap.size) (e := 2) (size := 1) w #[] 0 (Nat.le_refl _) (by simp [maxLen]) rfl)
    have hb1 := ballocw w (.cells #[] 2)
    have hr1 := hR.below hb1
    have HO := hid hown
    have HR := hid hr1
    have he : ∀ w : World, (binOp .eql 28 (.slice (some a) xs.length c) (.slice none 0 0)).run Tryz.prog w = .ok (.bool false) w := fun _ => rfl
    clear hown hr1 hR
    go_enter Tryz.func48, Tryz.ntmps48
    go_wp2_with (at_builtin; refine wp_appendS w.heap.size rfl _ _ 28 2 (.int .i64 0) 8 rfl Tryz.underlying28 infoInt rfl (.slice (some ⟨w.heap.size, 0, none⟩) 0 0) 0 _ (some a) c xs rfl rfl HO.out HR.out hb1.size (by omega) (by omega) ?_; intro v1 w1 hown1 hbel1)
    go_ret
    refine ⟨_, rfl, ?_, (hb1.mono (Nat.le_refl _)).trans hbel1⟩
    simpa [OwnI] using hown1
end Go.Proofs.YtmpdaafkphpnoaaGreat
