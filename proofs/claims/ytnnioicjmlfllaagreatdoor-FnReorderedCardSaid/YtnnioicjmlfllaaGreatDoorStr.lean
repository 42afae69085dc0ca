import Derived.Test.YtnnioicjmlfllaaGreatDoorShl
import Derived.Test.YtnnioicjmlfllaaGreatDoorLawO
import Derived.Test.YtnnioicjmlfllaaGreatDoorCalm
import Derived.Test.YtnnioicjmlfllaaGreatDoorFn
import Derived.Test.YtnnioicjmlfllaaGreatDoorWord
import Derived.Lib.ItoaNum
set_option linter.unusedVariables false
set_option linter.unusedSimpArgs false
namespace Go.Proofs.YtnnioicjmlfllaaGreatDoor
open Go.RowKit

/-! ### Texts of numbers -/
/-- The library's table of powers. -/
def Pow (w : World) : Prop := Lib.TabIs Tryz.prog w "internal/strconv.uint64pow10" .u64 Lib.pow10Tab
theorem Pow.below {w W : World} (h : Pow w) (hb : Below w.heap.size w W) : Pow W := by
  unfold Pow Lib.TabIs World.var? at *
  cases hg : Tryz.prog.globalNamed "internal/strconv.uint64pow10" with
  | none => rw [hg] at h; cases h
  | some g =>
    rw [hg] at h
    simp only [Option.bind_some] at h ⊢
    cases hh : w.heap[g]? with
    | none => rw [hh] at h; cases h
    | some o => rw [hb.block g (Array.getElem?_eq_some_iff.1 hh).1]; exact h
theorem below_grow (w : World) (k : Nat) (os : Array Obj) : Below w.heap.size w (Sort.grow (w.drewN k) os) := by
  refine ⟨rfl, rfl, rfl, by simp [Sort.grow], fun j hj => ?_⟩
  exact (Sort.heap_grow_old _ _ (by simpa using hj)).trans rfl
/-- A text. -/
def bstr (l : List UInt8) : ByteArray := ⟨l.toArray⟩
theorem bstr_toList (l : List UInt8) : (bstr l).data.toList = l := by simp [bstr]
theorem bstr_append (a b : List UInt8) : bstr a ++ bstr b = bstr (a ++ b) := by
  simp [bstr, ByteArray.ext_iff]
theorem bstr_size (l : List UInt8) : (bstr l).size = l.length := by simp [bstr, ByteArray.size]
theorem decDigits_len : ∀ (d u : Nat), u < 10 ^ (d + 1) → (Lib.decDigits u).length ≤ d + 1 := by
  intro d
  induction d with
  | zero => intro u hu; rw [Lib.decDigits, dif_pos (by simpa using hu)]; simp
  | succ d ih =>
    intro u hu
    by_cases h : u < 10
    · rw [Lib.decDigits, dif_pos h]; simp
    · rw [Lib.decDigits, dif_neg h, List.length_append]
      have := ih (u / 10) (by rw [Nat.pow_succ] at hu; omega)
      simp; omega
theorem itoa_len {n : Int} (h0 : -1000000000 ≤ n) (h1 : n ≤ 1000000000) : (Lib.itoa n).length ≤ 11 := by
  unfold Lib.itoa
  split
  · have := decDigits_len 9 n.natAbs (by simp; omega)
    simp; omega
  · have := decDigits_len 9 n.toNat (by simp; omega)
    omega
theorem i_Decimal (w : World) (n : Int) (h0 : -9223372036854775808 ≤ n) (h1 : n ≤ 9223372036854775807) (hp : Pow w) :
    Calls Tryz.prog 91 #[.int .i64 n] w fun e w' => e = .returned (.string (bstr (Lib.itoa n))) ∧ Below w.heap.size w w' := by
  have C := hid (Tryz.strconv_FormatInt_10 n h0 h1 w hp)
  clear hp
  unfold bstr
  generalize Lib.itoa n = l at *
  go_enter Tryz.func91, Tryz.ntmps91
  go_wp2_with fail
  refine C.out.mono ?_
  rintro e w1 ⟨rfl, k, os, hw⟩
  have HB := hid (show Below w.heap.size w w1 by rw [hw]; exact below_grow w k os)
  clear hw C
  go_wp2_with fail
  go_ret
  exact ⟨rfl, HB.out⟩
end Go.Proofs.YtnnioicjmlfllaaGreatDoor
