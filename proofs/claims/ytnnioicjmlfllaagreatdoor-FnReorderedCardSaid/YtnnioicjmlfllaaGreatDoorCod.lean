import Derived.Test.YtnnioicjmlfllaaGreatDoorTxt2
import Derived.Test.YtnnioicjmlfllaaGreatDoorStm2
import Derived.Deep.RegionHeld3
import Derived.Deep.AppendLies
set_option linter.unusedVariables false
set_option linter.unusedSimpArgs false
namespace Go.Proofs.YtnnioicjmlfllaaGreatDoor
open Go.RowKit

/-! ### The text of statements -/
/-- The library's table of spaces. -/
def Asc (w : World) : Prop := Lib.TabIs Tryz.prog w "strings.asciiSpace" .u8 Lib.asciiSpaceTab
theorem Asc.below {w W : World} (h : Asc w) (hb : Below w.heap.size w W) : Asc W := by
  unfold Asc Lib.TabIs World.var? at *
  cases hg : Tryz.prog.globalNamed "strings.asciiSpace" with
  | none => rw [hg] at h; cases h
  | some g =>
    rw [hg] at h
    simp only [Option.bind_some] at h ⊢
    cases hh : w.heap[g]? with
    | none => rw [hh] at h; cases h
    | some o => rw [hb.block g (Array.getElem?_eq_some_iff.1 hh).1]; exact h
def opL : List (List UInt8) := [[97, 100, 100], [115, 117, 98], [109, 117, 108], [97, 110, 100], [111, 114], [120, 111, 114], [109, 105, 110, 117], [109, 97, 120, 117], [109, 105, 110, 115], [109, 97, 120, 115], [97, 100, 100, 117], [97, 100, 100, 115], [115, 117, 98, 117], [115, 117, 98, 115], [97, 118, 103], [115, 104, 108], [115, 104, 114, 117], [115, 104, 114, 115]]
def opS : List UInt8 := Lib.join opL [32]
def opTx (k : Nat) : List UInt8 := opL.getD k []
theorem opTx_len (k : Nat) : (opTx k).length ≤ 4 := by
  by_cases h : k < 18
  · have : ∀ k : Fin 18, (opTx k.1).length ≤ 4 := by decide
    exact this ⟨k, h⟩
  · unfold opTx; rw [List.getD_eq_getElem?_getD, List.getElem?_eq_none (by simp [opL]; omega)]; simp
/-- The eighteen words stand at g. -/
def Ops (w : World) (g : Nat) : Prop := ∀ k, k < 18 → w.cell? ⟨g, k, none⟩ = some (.string (bstr (opTx k)))
theorem Ops.below {w W : World} {g : Nat} (h : Ops w g) (hb : Below w.heap.size w W) : Ops W g := fun k hk => bcell hb (h k hk)
theorem ops_alloc (w : World) : Ops (w.alloc (.cells (opL.map fun l => Value.string ⟨l.toArray⟩).toArray 9)) w.heap.size := fun k hk => by
  rw [cell_of_row _ _ _ _ _ _ (heap_alloc_new w _)]
  have : ∀ k : Fin 18, opL[k.1]? = some (opTx k.1) := by decide
  have := this ⟨k, hk⟩
  simp only [List.getElem?_toArray, List.getElem?_map]
  rw [this]; rfl
theorem fields_ops : Lib.fields opS = opL := by kernel_rfl
theorem i_opTexts (w : World) (ha : Asc w) :
    Calls Tryz.prog 92 #[] w fun e w' => ∃ g, e = .returned (.slice (some ⟨g, 0, none⟩) 18 18) ∧ Ops w' g ∧ Below w.heap.size w w' ∧ w.heap.size ≤ g := by
  have C := Tryz.strings_Fields_laid (bstr opS) w (by rw [bstr_size]; decide) (by
    rw [bstr_toList]
    have : opS.all (fun b => decide (b.toNat < 128)) = true := by decide
    intro j b hb
    have := List.all_eq_true.1 this b (List.mem_of_getElem? hb)
    simpa using this) ha
  rw [bstr_toList, fields_ops] at C
  have C' := hid C
  clear C ha
  go_enter Tryz.func92, Tryz.ntmps92
  go_wp2_with fail
  refine C'.out.mono ?_
  rintro e w1 ⟨rfl, rfl⟩
  have H := hid (ops_alloc w)
  have HB := hid (ballocw w (.cells (opL.map fun l => Value.string ⟨l.toArray⟩).toArray 9))
  generalize w.alloc (.cells (opL.map fun l => Value.string ⟨l.toArray⟩).toArray 9) = W at *
  go_wp2_with fail
  go_ret
  exact ⟨w.heap.size, rfl, H.out, HB.out, Nat.le_refl _⟩

theorem g_Join0 (w : World) (A : Option Addr) (c : Nat) (s : ByteArray) :
    Calls Tryz.prog 93 #[.slice A 0 c, .string s] w fun e w' => e = .returned (.string (bstr [])) ∧ w = w' := by
  go_enter Tryz.func93, Tryz.ntmps93
  go_wp2_with fail
  go_ret
  exact ⟨rfl, rfl⟩
end Go.Proofs.YtnnioicjmlfllaaGreatDoor
