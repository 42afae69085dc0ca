import Derived.Test.YtnnioicjmlfllaaGreatDoorRws
import Derived.Test.YtnnioicjmlfllaaGreatDoorMach
set_option linter.unusedVariables false
set_option linter.unusedSimpArgs false
namespace Go.Proofs.YtnnioicjmlfllaaGreatDoor
open Go.RowKit

/-! ### Tasks: a port, a latency, and what is needed -/
structure TaskV where
  port : Int
  lat : Int
  needs : List Int
deriving DecidableEq
instance : Inhabited TaskV := ⟨⟨0, 0, []⟩⟩
def tel (ts : List TaskV) (k : Nat) : TaskV := ts.getD k default
theorem tel_get {ts : List TaskV} {k : Nat} (h : k < ts.length) : ts[k]? = some (tel ts k) := by
  unfold tel; rw [List.getD_eq_getElem?_getD, List.getElem?_eq_getElem h]; simp
theorem tel_mem {ts : List TaskV} {k : Nat} (h : k < ts.length) : tel ts k ∈ ts := List.mem_of_getElem? (tel_get h)
theorem tel_drop {ts : List TaskV} {k : Nat} (h : k < ts.length) : ts.drop k = tel ts k :: ts.drop (k + 1) := by
  rw [List.drop_eq_getElem_cons h]; congr 1; have := tel_get h; rw [List.getElem?_eq_getElem h] at this; exact Option.some.inj this
theorem tel_ext {xs ys : List TaskV} (h : xs.length = ys.length) (he : ∀ k, k < xs.length → tel xs k = tel ys k) : xs = ys := by
  apply List.ext_getElem? ; intro k
  by_cases hk : k < xs.length
  · rw [tel_get hk, tel_get (by omega), he k hk]
  · rw [List.getElem?_eq_none (by omega), List.getElem?_eq_none (by omega)]
abbrev tv (p l : Int) (A : Option Addr) (n c : Nat) : Value := .agg #[.int .i64 p, .int .i64 l, .slice A n c]
/-- The slice at A reads as the tasks ts. -/
def RdT (w : World) (A : Option Addr) (ts : List TaskV) : Prop :=
  ∀ k, k < ts.length → ∃ b off A' c', A = some ⟨b, off, none⟩ ∧ w.cell? ⟨b, off + k * 3, none⟩ = some (.int .i64 (tel ts k).port) ∧ w.cell? ⟨b, off + k * 3 + 1, none⟩ = some (.int .i64 (tel ts k).lat) ∧
    w.cell? ⟨b, off + k * 3 + 2, none⟩ = some (.slice A' (tel ts k).needs.length c') ∧ (tel ts k).needs.length ≤ c' ∧ RdI w A' (tel ts k).needs
theorem RdT.below {w W : World} {A : Option Addr} {ts : List TaskV} (h : RdT w A ts) (hb : Below w.heap.size w W) : RdT W A ts := fun k hk => by
  obtain ⟨b, off, A', c', e, h0, h1, h2, h3, h4⟩ := h k hk
  exact ⟨b, off, A', c', e, bcell hb h0, bcell hb h1, bcell hb h2, h3, h4.below hb⟩
theorem RdT.get {w : World} {A : Option Addr} {ts : List TaskV} (h : RdT w A ts) {k : Nat} (hk : k < ts.length) :
    ∃ b off A' c', A = some ⟨b, off, none⟩ ∧ w.cell? ⟨b, off + k * 3, none⟩ = some (.int .i64 (tel ts k).port) ∧ w.cell? ⟨b, off + k * 3 + 1, none⟩ = some (.int .i64 (tel ts k).lat) ∧
    w.cell? ⟨b, off + k * 3 + 2, none⟩ = some (.slice A' (tel ts k).needs.length c') ∧ (tel ts k).needs.length ≤ c' ∧ RdI w A' (tel ts k).needs := h k hk

theorem blk3 (w : World) (a b c : Obj) : (((w.alloc a).alloc b).alloc c).heap[w.heap.size + 1 + 1]? = some c := by
  have e : ((w.alloc a).alloc b).heap.size = w.heap.size + 1 + 1 := by simp
  rw [← e, heap_alloc_new]
end Go.Proofs.YtnnioicjmlfllaaGreatDoor
