import Derived.Test.YtnnioicjmlfllaaGreatDoorCut3
set_option linter.unusedVariables false
set_option linter.unusedSimpArgs false
namespace Go.Proofs.YtnnioicjmlfllaaGreatDoor
open Go.RowKit

/-- A world's shape stays with all that leaves its old blocks. -/
theorem shaped_below {w W : World} (h : w.ShapedOpen Tryz.prog) (hb : Below w.heap.size w W) : W.ShapedOpen Tryz.prog := h.keptBut (hb.frame fun _ => False) (fun _ z => z.elim)
theorem below_drewN (w : World) (n : Nat) : Below w.heap.size w (w.drewN n) := ⟨rfl, rfl, rfl, Nat.le_refl _, fun _ _ => rfl⟩
theorem g_Cut (w : World) (s : ByteArray) (m : UInt8) (h : w.ShapedOpen Tryz.prog) (hs : s.size ≤ 1048576) :
    Calls Tryz.prog 95 #[.string s, .string { data := #[m] }] w fun e w' => e = .returned (.tuple #[.string (bstr (Lib.cut s.data.toList [m]).1), .string (bstr (Lib.cut s.data.toList [m]).2.1), .bool (Lib.cut s.data.toList [m]).2.2]) ∧ Below w.heap.size w w' := by
  refine (Tryz.strings_Cut_shaped s { data := #[m] } w h (by omega)).mono ?_
  rintro e w' ⟨he, n, rfl⟩
  exact ⟨he, below_drewN w n⟩
end Go.Proofs.YtnnioicjmlfllaaGreatDoor
