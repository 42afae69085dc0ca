import Derived.Test.YtnnioicjmlfllaaGreatDoorMach
import Derived.Test.YtnnioicjmlfllaaGreatDoorLawO
import Derived.Test.YtnnioicjmlfllaaGreatDoorCalm
import Derived.Test.YtnnioicjmlfllaaGreatDoorSz
import Derived.Test.YtnnioicjmlfllaaGreatDoorRange
set_option linter.unusedVariables false
set_option linter.unusedSimpArgs false
namespace Go.Proofs.YtnnioicjmlfllaaGreatDoor
open Go.RowKit

/-! ### Statements: an operation and three cells -/
structure SmV where
  o : Int
  d : Int
  a : Int
  b : Int
deriving DecidableEq
instance : Inhabited SmV := ⟨⟨0, 0, 0, 0⟩⟩
def sel (xs : List SmV) (k : Nat) : SmV := xs.getD k default
theorem sel_get {xs : List SmV} {k : Nat} (h : k < xs.length) : xs[k]? = some (sel xs k) := by
  unfold sel; rw [List.getD_eq_getElem?_getD, List.getElem?_eq_getElem h]; simp
theorem sel_mem {xs : List SmV} {k : Nat} (h : k < xs.length) : sel xs k ∈ xs := List.mem_of_getElem? (sel_get h)
theorem sel_drop {xs : List SmV} {k : Nat} (h : k < xs.length) : xs.drop k = sel xs k :: xs.drop (k + 1) := by
  rw [List.drop_eq_getElem_cons h]; congr 1; have := sel_get h; rw [List.getElem?_eq_getElem h] at this; exact Option.some.inj this
theorem sel_take {xs : List SmV} {k : Nat} (h : k < xs.length) : xs.take (k + 1) = xs.take k ++ [sel xs k] := by
  rw [List.take_add_one, sel_get h]; rfl
theorem sel_ext {xs ys : List SmV} (h : xs.length = ys.length) (he : ∀ k, k < xs.length → sel xs k = sel ys k) : xs = ys := by
  apply List.ext_getElem? ; intro k
  by_cases hk : k < xs.length
  · rw [sel_get hk, sel_get (by omega), he k hk]
  · rw [List.getElem?_eq_none (by omega), List.getElem?_eq_none (by omega)]
abbrev sv (x : SmV) : Value := .agg #[.int .i64 x.o, .int .i64 x.d, .int .i64 x.a, .int .i64 x.b]
abbrev scs (x : SmV) : Array Value := #[.int .i64 x.o, .int .i64 x.d, .int .i64 x.a, .int .i64 x.b]
/-- The statement at off in block b. -/
structure SAt (w : World) (b off : Nat) (x : SmV) : Prop where
  o : w.cell? ⟨b, off, none⟩ = some (.int .i64 x.o)
  d : w.cell? ⟨b, off + 1, none⟩ = some (.int .i64 x.d)
  a : w.cell? ⟨b, off + 2, none⟩ = some (.int .i64 x.a)
  b : w.cell? ⟨b, off + 3, none⟩ = some (.int .i64 x.b)
theorem SAt.below {w W : World} {b off : Nat} {x : SmV} (h : SAt w b off x) (hb : Below w.heap.size w W) : SAt W b off x := ⟨bcell hb h.o, bcell hb h.d, bcell hb h.a, bcell hb h.b⟩
/-- The slice at A reads as the statements xs. -/
def RdC (w : World) (A : Option Addr) (xs : List SmV) : Prop := ∀ k, k < xs.length → ∃ b off, A = some ⟨b, off, none⟩ ∧ SAt w b (off + k * 4) (sel xs k)
theorem RdC.below {w W : World} {A : Option Addr} {xs : List SmV} (h : RdC w A xs) (hb : Below w.heap.size w W) : RdC W A xs := fun k hk => by
  obtain ⟨b, off, e, h0⟩ := h k hk
  exact ⟨b, off, e, h0.below hb⟩
theorem RdC.get {w : World} {A : Option Addr} {xs : List SmV} (h : RdC w A xs) {k : Nat} (hk : k < xs.length) : ∃ b off, A = some ⟨b, off, none⟩ ∧ SAt w b (off + k * 4) (sel xs k) := h k hk
/-- .. with its block and offset told once. -/
theorem RdC.at {w : World} {A : Option Addr} {xs : List SmV} (h : RdC w A xs) (hn : 0 < xs.length) : ∃ b off, A = some ⟨b, off, none⟩ ∧ ∀ k, k < xs.length → SAt w b (off + k * 4) (sel xs k) := by
  obtain ⟨b, off, rfl, _⟩ := h 0 hn
  refine ⟨b, off, rfl, fun k hk => ?_⟩
  obtain ⟨b', off', e, h1⟩ := h k hk
  cases e; exact h1
def eqS (x y : SmV) : Bool := x.o == y.o && (x.d == y.d && (x.a == y.a && x.b == y.b))
theorem eqS_eq (x y : SmV) : eqS x y = decide (x = y) := by
  obtain ⟨o, d, a, b⟩ := x; obtain ⟨o', d', a', b'⟩ := y
  unfold eqS; rw [Bool.eq_iff_iff]; simp


def sfl (xs : List SmV) : List Int := xs.flatMap fun p => [p.o, p.d, p.a, p.b]
theorem sfl_length (xs : List SmV) : (sfl xs).length = xs.length * 4 := by induction xs with | nil => rfl | cons a t ih => simp [sfl, List.flatMap_cons] at ih ⊢; omega
theorem sfl_append (xs ys : List SmV) : sfl (xs ++ ys) = sfl xs ++ sfl ys := by simp [sfl]
theorem sfl_get {xs : List SmV} {k : Nat} (h : k < xs.length) : (sfl xs)[k * 4]? = some (sel xs k).o ∧ (sfl xs)[k * 4 + 1]? = some (sel xs k).d ∧ (sfl xs)[k * 4 + 2]? = some (sel xs k).a ∧ (sfl xs)[k * 4 + 3]? = some (sel xs k).b := by
  have e : xs = xs.take k ++ (sel xs k :: xs.drop (k + 1)) := by rw [← sel_drop h, List.take_append_drop]
  have hl : (sfl (xs.take k)).length = k * 4 := by rw [sfl_length]; simp; omega
  have e2 : sfl xs = sfl (xs.take k) ++ ((sel xs k).o :: (sel xs k).d :: (sel xs k).a :: (sel xs k).b :: sfl (xs.drop (k + 1))) := by
    conv => lhs; rw [e]
    rw [sfl_append]; simp [sfl]
  rw [e2, List.getElem?_append_right (by omega), List.getElem?_append_right (by omega), List.getElem?_append_right (by omega), List.getElem?_append_right (by omega), hl]
  simp
theorem scopy_step {xs : List SmV} {k : Nat} (h : k < xs.length) :
    ((((sfl (xs.take k) ++ List.replicate ((xs.length - k) * 4) 0).set (k * 4) (sel xs k).o).set (k * 4 + 1) (sel xs k).d).set (k * 4 + 2) (sel xs k).a).set (k * 4 + 3) (sel xs k).b = sfl (xs.take (k + 1)) ++ List.replicate ((xs.length - (k + 1)) * 4) 0 := by
  have hl : (sfl (xs.take k)).length = k * 4 := by rw [sfl_length]; simp; omega
  obtain ⟨m, hm⟩ : ∃ m, xs.length - k = m + 1 := ⟨xs.length - k - 1, by omega⟩
  rw [sel_take h, sfl_append, hm, show xs.length - (k + 1) = m from by omega, show (m + 1) * 4 = m * 4 + 1 + 1 + 1 + 1 from by omega, List.replicate_succ, List.replicate_succ, List.replicate_succ, List.replicate_succ,
    List.set_append_right _ _ (by omega), List.set_append_right _ _ (by omega), List.set_append_right _ _ (by omega), List.set_append_right _ _ (by omega), hl]
  simp [sfl]
theorem toList_made4 (z : Value) (n : Nat) : (madeCells #[z, z, z, z] n).toList = List.replicate n z := by
  apply List.ext_getElem?
  intro k
  by_cases hk : k < n
  · rcases (show k % 4 = 0 ∨ k % 4 = 1 ∨ k % 4 = 2 ∨ k % 4 = 3 by omega) with h | h | h | h <;> simp [madeCells, hk, h]
  · simp [madeCells, hk]
theorem makeStmt (n : Nat) (hn : n ≤ 1048576) (W : World) : (Instr.makeSlice 24 (.int .i64 (n : Int)) (.int .i64 (n : Int))).run Tryz.prog W = .ok (.slice (some ⟨W.heap.size, 0, none⟩) n n) (W.alloc (.cells (madeCells #[.int .i64 0, .int .i64 0, .int .i64 0, .int .i64 0] (n * 4)) 45)) := by
  have hi : (Tryz.prog.info? 45).map (fun i => (i.zero, i.size, i.bytes)) = some (some (.agg #[.int .i64 0, .int .i64 0, .int .i64 0, .int .i64 0]), 4, 32) := by kernel_rfl
  obtain ⟨i, hi, hzz⟩ := Option.map_eq_some_iff.1 hi
  simp only [Prod.mk.injEq] at hzz
  obtain ⟨hz, hs, hb⟩ := hzz
  have := run_make (P := Tryz.prog) W 24 45 i _ Tryz.underlying24 hi hz .i64 .i64 (n : Int) (n : Int) (by omega) (by omega) (by rw [hb]; omega) (by omega)
  rw [hs] at this
  simpa [Value.cells] using this
theorem own_made4 (w : World) (e : TypeId) (n : Nat) (hn : n ≤ 1048576) :
    Own (w.alloc (.cells (madeCells #[.int .i64 0, .int .i64 0, .int .i64 0, .int .i64 0] (n * 4)) e)) w.heap.size (w.heap.size + 1) e 4 (.slice (some ⟨w.heap.size, 0, none⟩) n n) n (ints (List.replicate (n * 4) 0)) := by
  refine ⟨?_, by simp [Value.ownBlock]⟩
  have := World.ownsRow_lit (base := w.heap.size) (e := e) (size := 4) w (madeCells #[.int .i64 0, .int .i64 0, .int .i64 0, .int .i64 0] (n * 4)) n (Nat.le_refl _) (by simp [maxLen]; omega) (by simp [size_madeCells])
  rwa [toList_made4, ints_replicate] at this
/-- Statements of the call's own. -/
def OC (w : World) (lo hi : Nat) (v : Value) (xs : List SmV) : Prop := Own w lo hi 45 4 v xs.length (ints (sfl xs))
theorem OC.eqv {w w' : World} {lo hi : Nat} {v : Value} {xs : List SmV} (h : OC w lo hi v xs) (hq : Eqv lo hi w w') : OC w' lo hi v xs := Own.eqv h hq
theorem OC.shp {w : World} {lo hi : Nat} {v : Value} {xs : List SmV} (h : OC w lo hi v xs) : ∃ A c, v = .slice A xs.length c ∧ xs.length ≤ c ∧ c ≤ 9223372036854775807 ∧ RdC w A xs := by
  obtain ⟨A, c, rfl, h1, h2, h3⟩ := Own.shape h
  refine ⟨A, c, rfl, h1, h2, fun k hk => ?_⟩
  rcases h3 with ⟨_, h0⟩ | ⟨g, rfl, _, _, hc, _⟩
  · omega
  · have hg := sfl_get hk
    have q : ∀ (j : Nat) (z : Int), (sfl xs)[j]? = some z → w.cell? ⟨g, 0 + j, none⟩ = some (.int .i64 z) := fun j z hz => by
      simpa using hc j (.int .i64 z) (by unfold ints; rw [List.getElem?_map, hz]; rfl)
    exact ⟨g, 0, rfl, q _ _ hg.1, q _ _ hg.2.1, q _ _ hg.2.2.1, q _ _ hg.2.2.2⟩
theorem OC.rd {w : World} {lo hi c : Nat} {A : Option Addr} {xs : List SmV} (h : OC w lo hi (.slice A xs.length c) xs) : RdC w A xs := by
  obtain ⟨A', c', e, _, _, hr⟩ := h.shp; cases e; exact hr

end Go.Proofs.YtnnioicjmlfllaaGreatDoor
