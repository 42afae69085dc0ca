import Derived.Test.YtolcmehndambmaaRtn3
set_option linter.unusedVariables false
set_option linter.unusedSimpArgs false
namespace Go.Proofs.Ytolcmehndambmaa
open Go.RowKit

theorem OR.row1 {V : World} {x : Int} {k1 k2 : Nat} (h1 : k1 = V.heap.size) (h2 : k2 = V.heap.size + 1) :
    OR ((V.alloc (.cells #[.int .i64 x] 2)).alloc (.cells #[.slice (some ⟨k1, 0, none⟩) 1 1] 29)) V.heap.size (V.heap.size + 2) (.slice (some ⟨k2, 0, none⟩) 1 1) [[x]] := by
  subst h1 h2
  have ho := Own.of (World.ownsRow_lit (base := V.heap.size) (e := 2) (size := 1) V #[.int .i64 x] 1 (Nat.le_refl _) (by simp [maxLen]) rfl)
  have h1 := OR.one (lo := V.heap.size) (xs := [x]) (n := 1) (c := 1) (w := V.alloc (.cells #[.int .i64 x] 2)) rfl ho (by simp)
  have e : (V.alloc (.cells #[.int .i64 x] 2)).heap.size = V.heap.size + 1 := by simp
  rw [e] at h1
  exact h1
set_option maxRecDepth 100000 in
theorem i_route0 (w : World) (A : Option Addr) (c n : Nat) (g : List Int) (hn : n = 2) (hgl : g.length = n) (hR : RdI w A g) :
    Calls Try.prog 69 #[.slice A n c] w (RetRO w (rtN 0 g)) := by
  have hb1 := ballocw w (.cells #[.slice A n c] 29)
  obtain ⟨b, off, rfl, hc⟩ := (hR.below hb1).get (k := 0) (by omega)
  have HE : Hid (rtN 0 g = [[el g 0]]) := hid rfl
  have he : ((n : Int) == 2) = true := by simp [hn]
  have h0 : (0 : Int) < (n : Int) := by omega
  have hn2 : n ≤ 2 := by omega
  rw [Nat.add_zero] at hc
  clear hR hgl hn
  generalize el g 0 = x at *
  go_enter Try.func69, Try.ntmps69
  go_wp2
  go_ret
  rw [HE.out]
  exact ⟨_, rfl, OR.wide (OR.row1 (by simp) (by simp)) (by simp) (by simp), balloc (balloc hb1 _) _⟩
end Go.Proofs.Ytolcmehndambmaa
