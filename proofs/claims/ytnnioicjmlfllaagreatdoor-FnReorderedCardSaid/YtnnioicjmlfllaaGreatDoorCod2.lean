import Derived.Test.YtnnioicjmlfllaaGreatDoorCod
set_option linter.unusedVariables false
set_option linter.unusedSimpArgs false
namespace Go.Proofs.YtnnioicjmlfllaaGreatDoor
open Go.RowKit

def stmT (x : SmV) : List UInt8 := Lib.itoa x.d ++ [61] ++ Lib.itoa x.a ++ [32] ++ opTx x.o.toNat ++ [32] ++ Lib.itoa x.b
def codeT (xs : List SmV) : List UInt8 := Lib.join (xs.map stmT) [59]
theorem itoa_small {n : Int} (h0 : 0 ≤ n) (h1 : n ≤ 31) : (Lib.itoa n).length ≤ 11 := itoa_len (by omega) (by omega)
theorem stmT_len {x : SmV} (h : stmB x = true) : (stmT x).length ≤ 40 := by
  unfold stmB at h
  simp only [Bool.and_eq_true, inB_iff] at h
  have h1 := itoa_small h.2.1.1 h.2.1.2
  have h2 := itoa_small h.2.2.1.1 h.2.2.1.2
  have h3 := itoa_small h.2.2.2.1 h.2.2.2.2
  have h4 := opTx_len x.o.toNat
  unfold stmT
  simp only [List.length_append, List.length_singleton]; omega
theorem codeB_row {xs : List SmV} (h : codeB xs = true) {k : Nat} (hk : k < xs.length) : stmB (sel xs k) = true := by
  simp only [codeB, Bool.and_eq_true, List.all_eq_true] at h; exact h.2 _ (sel_mem hk)
theorem code_take_len {xs : List SmV} (h : codeB xs = true) (k : Nat) : (Lib.join ((xs.take k).map stmT) [59]).length ≤ 656 := by
  have hj := join_len (l := (xs.take k).map stmT) (m := 40) [59] (by
      intro x hx
      obtain ⟨a, ha, rfl⟩ := List.mem_map.1 hx
      simp only [codeB, Bool.and_eq_true, List.all_eq_true] at h
      exact stmT_len (h.2 _ (List.mem_of_mem_take ha)))
  have hl := codeB_len h
  rw [List.length_map, List.length_take, List.length_singleton] at hj
  omega
theorem maps_take_succ {α : Type} (f : SmV → α) {xs : List SmV} {k : Nat} (h : k < xs.length) : (xs.take (k + 1)).map f = (xs.take k).map f ++ [f (sel xs k)] := by rw [sel_take h]; simp
abbrev catS (bd ba bt bb : ByteArray) : ByteArray := bd ++ { data := #[61] } ++ ba ++ { data := #[32] } ++ bt ++ { data := #[32] } ++ bb
theorem catS_stm (x : SmV) : catS (bstr (Lib.itoa x.d)) (bstr (Lib.itoa x.a)) (bstr (opTx x.o.toNat)) (bstr (Lib.itoa x.b)) = bstr (stmT x) := by
  unfold catS stmT
  rw [← bstr_append, ← bstr_append, ← bstr_append, ← bstr_append, ← bstr_append, ← bstr_append]; rfl
theorem one_size (x : UInt8) : ({ data := #[x] } : ByteArray).size = 1 := rfl
structure CatOk (bo bd ba bt bb : ByteArray) : Prop where
  f1 : ¬ 9223372036854775807 < bd.size + 1
  f2 : ¬ 9223372036854775807 < bd.size + 1 + ba.size
  f3 : ¬ 9223372036854775807 < bd.size + 1 + ba.size + 1
  f4 : ¬ 9223372036854775807 < bd.size + 1 + ba.size + 1 + bt.size
  f5 : ¬ 9223372036854775807 < bd.size + 1 + ba.size + 1 + bt.size + 1
  f6 : ¬ 9223372036854775807 < bd.size + 1 + ba.size + 1 + bt.size + 1 + bb.size
  f7 : ¬ 9223372036854775807 < bo.size + (bd.size + 1 + ba.size + 1 + bt.size + 1 + bb.size)
  f8 : ¬ 9223372036854775807 < bo.size + 1 + (bd.size + 1 + ba.size + 1 + bt.size + 1 + bb.size)
theorem catOk {bo bd ba bt bb : ByteArray} (h0 : bo.size ≤ 700) (h1 : bd.size ≤ 11) (h2 : ba.size ≤ 11) (h3 : bt.size ≤ 4) (h4 : bb.size ≤ 11) : CatOk bo bd ba bt bb := by
  constructor <;> omega
abbrev Cl4 (w : World) (b p : Nat) (o d a s : Int) : Prop := w.cell? ⟨b, p, none⟩ = some (.int .i64 o) ∧ w.cell? ⟨b, p + 1, none⟩ = some (.int .i64 d) ∧ w.cell? ⟨b, p + 2, none⟩ = some (.int .i64 a) ∧ w.cell? ⟨b, p + 3, none⟩ = some (.int .i64 s)
theorem cl4 {w W : World} {b p : Nat} {o d a s : Int} (hb : Below w.heap.size w W) (h : Cl4 w b p o d a s) : Cl4 W b p o d a s := ⟨bcell hb h.1, bcell hb h.2.1, bcell hb h.2.2.1, bcell hb h.2.2.2⟩
theorem step_num {k m : Nat} (h : k < m) (hm : m ≤ 16) : Value.int .i64 (wrap64 ((k : Int) + 1)) = .int .i64 ((k + 1 : Nat) : Int) := by rw [wrap64_in (by omega) (by omega)]; rfl
theorem wpAnyH_mono {P : Program} {ops : Array Oper} {Q : Exit → Act → World → Prop} {md : Region.Mode} {S S' : World → Prop} (h : ∀ w, S' w → S w) :
    ∀ (fuel : Nat) (listed : Array Bool) (a : Act) (w : World), wpAnyH P md ops Q S' fuel listed a w → wpAnyH P md ops Q S fuel listed a w
  | 0, _, _, _, x => x
  | fuel + 1, _, _, _, x => ⟨x.1, fun i hi => wpOp_mono (fun a' w' y => ⟨h _ y.1, wpAnyH_mono h fuel _ a' w' y.2⟩) (x.2 i hi)⟩

end Go.Proofs.YtnnioicjmlfllaaGreatDoor
