import Derived.Test.YtnnioicjmlfllaaGreatDoorProg
import Derived.WalkKit
import Derived.Deep.LoopGhost
import Derived.Deep.QuietTactic
import Derived.BigQuiet
import Derived.KernelRfl
import Derived.Shelf.Abstract
import Derived.Deep.OwnRows
import Derived.Deep.AppendLies
set_option linter.unusedVariables false
set_option linter.unusedSimpArgs false
namespace Go.Proofs.YtnnioicjmlfllaaGreatDoor
open Go.RowKit

theorem hid {p : Prop} (h : p) : Hid p := h
theorem ret_i {a b : Int} (h : a = b) : Ending.returned (.int .i64 a) = .returned (.int .i64 b) := by rw [h]
theorem ret_b {a b : Bool} (h : a = b) : Ending.returned (.bool a) = .returned (.bool b) := by rw [h]

/-! ### Worlds -/
theorem bdrewN {B : Nat} {w W : World} (h : Below B w W) (n : Nat) : Below B w (W.drewN n) := ⟨h.os, h.tape, h.output, h.size, h.block⟩
theorem bthen {w W W' : World} (h : Below w.heap.size w W) (k : Below W.heap.size W W') : Below w.heap.size w W' := h.trans (k.mono h.size)
theorem bthen' {B : Nat} {w W W' : World} (h : Below B w W) (k : Below W.heap.size W W') (hB : B ≤ W.heap.size) : Below B w W' := h.trans (k.mono hB)
theorem ballocw (w : World) (o : Obj) : Below w.heap.size w (w.alloc o) := (Below.refl _ _).alloc (Nat.le_refl _) _
theorem balloc {w W : World} (h : Below w.heap.size w W) (o : Obj) : Below w.heap.size w (W.alloc o) := h.alloc h.size o
theorem bset {w W : World} (h : Below w.heap.size w W) {p : Addr} (hp : w.heap.size ≤ p.block) (u : Value) : Below w.heap.size w (W.setCell p u) := h.setCell hp u
theorem bcell {w W : World} (h : Below w.heap.size w W) {a : Addr} {v : Value} (hc : w.cell? a = some v) : W.cell? a = some v := (h.cell (World.block_lt_of_cell? w _ hc)).trans hc

/-- The blocks from lo to hi are as they were. -/
def Eqv (lo hi : Nat) (w w' : World) : Prop := ∀ k, lo ≤ k → k < hi → w'.heap[k]? = w.heap[k]?
theorem Eqv.refl (lo hi : Nat) (w : World) : Eqv lo hi w w := fun _ _ _ => rfl
theorem Eqv.trans {lo hi : Nat} {a b c : World} (h : Eqv lo hi a b) (k : Eqv lo hi b c) : Eqv lo hi a c := fun i h1 h2 => (k i h1 h2).trans (h i h1 h2)
theorem Eqv.of {B lo hi : Nat} {w w' : World} (h : Below B w w') (hh : hi ≤ B) : Eqv lo hi w w' := fun k _ h2 => h.block k (by omega)
/-- Nothing that was there has turned but the blocks from lo to hi. -/
structure Chg (lo hi : Nat) (w w' : World) : Prop where
  os : w'.os = w.os
  tape : w'.tape = w.tape
  output : w'.output = w.output
  size : w.heap.size ≤ w'.heap.size
  block : ∀ k, k < w.heap.size → (k < lo ∨ hi ≤ k) → w'.heap[k]? = w.heap[k]?
theorem Chg.refl (lo hi : Nat) (w : World) : Chg lo hi w w := ⟨rfl, rfl, rfl, Nat.le_refl _, fun _ _ _ => rfl⟩
theorem Chg.trans {lo hi : Nat} {a b c : World} (h : Chg lo hi a b) (k : Chg lo hi b c) : Chg lo hi a c :=
  ⟨k.os.trans h.os, k.tape.trans h.tape, k.output.trans h.output, Nat.le_trans h.size k.size, fun i h1 h2 => (k.block i (Nat.lt_of_lt_of_le h1 h.size) h2).trans (h.block i h1 h2)⟩
theorem Chg.below {lo hi B : Nat} {w w' : World} (h : Chg lo hi w w') (hB : B ≤ lo) (hw : B ≤ w.heap.size) : Below B w w' := ⟨h.os, h.tape, h.output, h.size, fun k hk => h.block k (by omega) (by omega)⟩
theorem Chg.wide {lo hi lo' hi' : Nat} {w w' : World} (h : Chg lo hi w w') (h1 : lo' ≤ lo) (h2 : hi ≤ hi') : Chg lo' hi' w w' := ⟨h.os, h.tape, h.output, h.size, fun k hk hn => h.block k hk (by omega)⟩
theorem Chg.of {lo hi B : Nat} {w w' : World} (h : Below B w w') (hB : w.heap.size ≤ B) : Chg lo hi w w' := ⟨h.os, h.tape, h.output, h.size, fun k hk _ => h.block k (by omega)⟩
theorem Chg.eqv {lo hi a b : Nat} {w w' : World} (h : Chg lo hi w w') (hd : b ≤ lo ∨ hi ≤ a) (hb : b ≤ w.heap.size) : Eqv a b w w' := fun k h1 h2 => h.block k (by omega) (by omega)

/-! ### Lists of numbers -/
/-- The element at k. -/
def el (xs : List Int) (k : Nat) : Int := xs.getD k 0
theorem el_get {xs : List Int} {k : Nat} (h : k < xs.length) : xs[k]? = some (el xs k) := by
  unfold el; rw [List.getD_eq_getElem?_getD, List.getElem?_eq_getElem h]; simp
theorem el_mem {xs : List Int} {k : Nat} (h : k < xs.length) : el xs k ∈ xs := List.mem_of_getElem? (el_get h)
theorem el_drop {xs : List Int} {k : Nat} (h : k < xs.length) : xs.drop k = el xs k :: xs.drop (k + 1) := by
  rw [List.drop_eq_getElem_cons h]; congr 1; have := el_get h; rw [List.getElem?_eq_getElem h] at this; exact Option.some.inj this
theorem el_take {xs : List Int} {k : Nat} (h : k < xs.length) : xs.take (k + 1) = xs.take k ++ [el xs k] := by
  rw [List.take_add_one, el_get h]; rfl
theorem el_ext {xs ys : List Int} (h : xs.length = ys.length) (he : ∀ k, k < xs.length → el xs k = el ys k) : xs = ys := by
  apply List.ext_getElem? ; intro k
  by_cases hk : k < xs.length
  · rw [el_get hk, el_get (by omega), he k hk]
  · rw [List.getElem?_eq_none (by omega), List.getElem?_eq_none (by omega)]
def ints (xs : List Int) : List Value := xs.map fun x => .int .i64 x
theorem ints_length (xs : List Int) : (ints xs).length = xs.length := by simp [ints]
theorem ints_append (xs ys : List Int) : ints (xs ++ ys) = ints xs ++ ints ys := by simp [ints]
theorem ints_get {xs : List Int} {k : Nat} (h : k < xs.length) : (ints xs)[k]? = some (.int .i64 (el xs k)) := by simp [ints, el_get h]
theorem ints_set (xs : List Int) (k : Nat) (x : Int) : (ints xs).set k (.int .i64 x) = ints (xs.set k x) := by simp [ints, List.map_set]
theorem el_set_same {xs : List Int} {k : Nat} (h : k < xs.length) (x : Int) : el (xs.set k x) k = x := by
  have := el_get (xs := xs.set k x) (k := k) (by simpa using h); rw [List.getElem?_set_self (by simpa using h)] at this; exact (Option.some.inj this).symm
theorem el_set_other {xs : List Int} {k j : Nat} (h : k ≠ j) (x : Int) : el (xs.set k x) j = el xs j := by
  unfold el; rw [List.getD_eq_getElem?_getD, List.getD_eq_getElem?_getD, List.getElem?_set_ne h]

/-! ### What is read -/
/-- A row of n cells at A, one a value. -/
def Rd (w : World) (A : Option Addr) (n : Nat) (f : Nat → Value) : Prop := ∀ k, k < n → ∃ b off, A = some ⟨b, off, none⟩ ∧ w.cell? ⟨b, off + k, none⟩ = some (f k)
theorem Rd.below {w W : World} {A : Option Addr} {n : Nat} {f : Nat → Value} (h : Rd w A n f) (hb : Below w.heap.size w W) : Rd W A n f := fun k hk => by
  obtain ⟨b, off, e, hc⟩ := h k hk
  exact ⟨b, off, e, bcell hb hc⟩
/-- The slice at A reads as xs. -/
def RdI (w : World) (A : Option Addr) (xs : List Int) : Prop := Rd w A xs.length fun k => .int .i64 (el xs k)
theorem RdI.below {w W : World} {A : Option Addr} {xs : List Int} (h : RdI w A xs) (hb : Below w.heap.size w W) : RdI W A xs := Rd.below h hb

theorem RdI.get {w : World} {A : Option Addr} {xs : List Int} (h : RdI w A xs) {k : Nat} (hk : k < xs.length) : ∃ b off, A = some ⟨b, off, none⟩ ∧ w.cell? ⟨b, off + k, none⟩ = some (.int .i64 (el xs k)) := h k hk

/-! ### What the call has made -/
/-- Slice v owns its cells cs, of n elements, in a block from lo to hi. -/
def Own (w : World) (lo hi : Nat) (e : TypeId) (size : Nat) (v : Value) (n : Nat) (cs : List Value) : Prop := w.ownsRow lo e size v n cs ∧ ∀ k, v.ownBlock = some k → k < hi
theorem Own.eqv {w w' : World} {lo hi : Nat} {e : TypeId} {size : Nat} {v : Value} {n : Nat} {cs : List Value} (h : Own w lo hi e size v n cs) (hq : Eqv lo hi w w') : Own w' lo hi e size v n cs := by
  refine ⟨⟨h.1.1, ?_⟩, h.2⟩
  rcases h.1.2 with hn | ⟨g, cap, cur, rfl, hb, hgg, rest⟩
  · exact .inl hn
  · exact .inr ⟨g, cap, cur, rfl, hb, (hq g hb (h.2 g (by simp [Value.ownBlock]))).trans hgg, rest⟩
theorem Own.nil (w : World) (lo hi : Nat) (e : TypeId) (size : Nat) : Own w lo hi e size (.slice none 0 0) 0 [] := ⟨World.ownsRow_nil w lo e size, by simp [Value.ownBlock]⟩
theorem Own.of {w : World} {lo : Nat} {e : TypeId} {size : Nat} {v : Value} {n : Nat} {cs : List Value} (h : w.ownsRow lo e size v n cs) : Own w lo w.heap.size e size v n cs := ⟨h, fun k hk => (h.lt k hk).2⟩
theorem Own.wide {w : World} {lo hi lo' hi' : Nat} {e : TypeId} {size : Nat} {v : Value} {n : Nat} {cs : List Value} (h : Own w lo hi e size v n cs) (h1 : lo' ≤ lo) (h2 : hi ≤ hi') : Own w lo' hi' e size v n cs := by
  refine ⟨⟨h.1.1, ?_⟩, fun k hk => Nat.lt_of_lt_of_le (h.2 k hk) h2⟩
  rcases h.1.2 with hn | ⟨g, cap, cur, rfl, hb, rest⟩
  · exact .inl hn
  · exact .inr ⟨g, cap, cur, rfl, Nat.le_trans h1 hb, rest⟩
/-- Its shape, and its cells. -/
theorem Own.shape {w : World} {lo hi : Nat} {e : TypeId} {size : Nat} {v : Value} {n : Nat} {cs : List Value} (h : Own w lo hi e size v n cs) :
    ∃ A c, v = .slice A n c ∧ n ≤ c ∧ c ≤ 9223372036854775807 ∧ (A = none ∧ n = 0 ∨ ∃ g, A = some ⟨g, 0, none⟩ ∧ lo ≤ g ∧ g < hi ∧ (∀ j u, cs[j]? = some u → w.cell? ⟨g, j, none⟩ = some u) ∧ ∀ j, w.frozen? ⟨g, j, none⟩ = false) := by
  rcases h.1.2 with ⟨rfl, rfl⟩ | ⟨g, cap, cur, rfl, hb, hg, h1, h2, h3, h4⟩
  · exact ⟨none, 0, rfl, Nat.le_refl _, by omega, .inl ⟨rfl, rfl⟩⟩
  · refine ⟨_, cap, rfl, h1, by simpa [maxLen] using h2, .inr ⟨g, rfl, hb, h.2 g (by simp [Value.ownBlock]), fun j u hu => ?_, fun j => h.1.frozenAt j⟩⟩
    have hj : j < n * size := by
      have := (List.getElem?_eq_some_iff.1 hu).1
      rw [h.1.1] at this; exact this
    rw [h.1.cellAt j hj]; exact hu
theorem Own.set {w : World} {lo hi : Nat} {e : TypeId} {size n g c : Nat} {cs : List Value} (h : Own w lo hi e size (.slice (some ⟨g, 0, none⟩) n c) n cs) (j : Nat) (u : Value) :
    Own (w.setCell ⟨g, j, none⟩ u) lo hi e size (.slice (some ⟨g, 0, none⟩) n c) n (cs.set j u) := ⟨(h.1.stored j u).1, h.2⟩
theorem chg_set (w : World) {lo hi g : Nat} (h1 : lo ≤ g) (h2 : g < hi) (j : Nat) (u : Value) : Chg lo hi w (w.setCell ⟨g, j, none⟩ u) :=
  ⟨rfl, rfl, rfl, by simp [World.setCell], fun k _ hn => Below.heap_setCell _ _ _ _ (by show k ≠ g; omega)⟩

/-- A slice of numbers of the call's own. -/
abbrev OwnI (w : World) (lo hi : Nat) (e : TypeId) (v : Value) (xs : List Int) : Prop := Own w lo hi e 1 v xs.length (ints xs)
theorem Own.int {w : World} {lo hi : Nat} {e : TypeId} {v : Value} {xs : List Int} (h : OwnI w lo hi e v xs) : ∃ A c, v = .slice A xs.length c ∧ xs.length ≤ c ∧ c ≤ 9223372036854775807 ∧ RdI w A xs := by
  obtain ⟨A, c, rfl, h1, h2, h3⟩ := h.shape
  refine ⟨A, c, rfl, h1, h2, fun k hk => ?_⟩
  rcases h3 with ⟨_, h0⟩ | ⟨g, rfl, _, _, hc, _⟩
  · omega
  · exact ⟨g, 0, rfl, by simpa using hc k _ (ints_get hk)⟩

/-- A new row, made at its full length. -/
theorem own_made (w : World) (e : TypeId) (z : Value) (n : Nat) (hn : n ≤ 9223372036854775807) :
    Own (w.alloc (.cells (madeCells #[z] n) e)) w.heap.size (w.heap.size + 1) e 1 (.slice (some ⟨w.heap.size, 0, none⟩) n n) n (List.replicate n z) := by
  refine ⟨?_, by simp [Value.ownBlock]⟩
  have := World.ownsRow_lit (base := w.heap.size) (e := e) (size := 1) w (madeCells #[z] n) n (Nat.le_refl _) (by simpa [maxLen] using hn) (by simp [size_madeCells])
  rwa [toList_madeCells_one] at this
theorem ints_replicate (n : Nat) : List.replicate n (Value.int .i64 0) = ints (List.replicate n 0) := by simp [ints]

/-! ### append(v, x) of one element, behind 'at_builtin' -/
theorem wp_append1 {P : Program} {ops : Array Oper} {rest : List Oper} {o : Oper} {a : Act} {Q : Exit → Act → World → Prop} {W : World} (lo : Nat) (hgd : o.guard = none) (s x : Operand) (t e : TypeId) (z : Value) (bytes : Nat)
    (ho : o.op = .call { callee := .builtin .append, args := #[s, x], argTypes := #[t, t] })
    (ht : P.underlying t = some (.slice e)) (hinfo : (P.info? e).map (fun i => (i.zero, i.size, i.bytes)) = some (some z, 1, bytes)) (hz : z.cells.size = 1)
    (v : Value) (n : Nat) (cs : List Value) (y : Value) (hs : a.eval s = v) (hx : a.eval x = .slice (some ⟨W.heap.size, 0, none⟩) 1 1) (h1 : y.oneCell' = true)
    (HO : Own W lo W.heap.size e 1 v n cs) (hlo : lo ≤ W.heap.size) (hl : n + 1 ≤ 9223372036854775807) (hby : (n + 1) * bytes ≤ 140737488355328)
    (h : ∀ v1 w1, Own w1 lo w1.heap.size e 1 v1 (n + 1) (cs ++ [y]) → Below lo W w1 → wpList P ops Q rest (a.put o.dst v1) w1) :
    wpList P ops Q (o :: rest) a (W.alloc (.cells #[y] e)) := by
  obtain ⟨i0, hi, hzz⟩ := Option.map_eq_some_iff.1 hinfo
  simp only [Prod.mk.injEq] at hzz
  obtain ⟨hz0, hz1, hz2⟩ := hzz
  refine wpList_append_own (W.alloc (.cells #[y] e)) hgd s x t ho lo e i0 z 1 bytes ht hi hz0 hz1 hz2 hz (by omega) v n cs hs (HO.1.alloc _) ⟨W.heap.size, 0, none⟩ 1 1 [y] hx rfl
    (World.news_of_block (cs := #[y]) (t := e) (fr := (0, 0)) (heap_alloc_new W _)) (by simpa using h1) (by simp only [maxLen]; omega) hby (by simp; omega) ?_
  intro v1 w1 hown hg _
  refine h v1 w1 (Own.of hown) ?_
  refine ((Below.refl lo W).alloc hlo _).grown hg (by simp; omega) ?_
  intro k hk
  exact (HO.1.lt k hk).1

/-! ### All of the first n -/
def allN (n : Nat) (p : Nat → Bool) : Bool := (List.range n).all p
theorem allN_ints (xs : List Int) (p : Int → Bool) : allN xs.length (fun k => p (el xs k)) = xs.all p := by
  unfold allN
  rw [Bool.eq_iff_iff, List.all_eq_true, List.all_eq_true]
  constructor
  · intro h x hx
    obtain ⟨k, hk, rfl⟩ := List.getElem_of_mem hx
    have := h k (List.mem_range.2 hk)
    have e := el_get hk; rw [List.getElem?_eq_getElem hk] at e; rw [Option.some.inj e]; exact this
  · intro h k hk
    exact h _ (el_mem (List.mem_range.1 hk))
/-- The index of the first one from k on of which p holds. -/
def idxN (p : Nat → Bool) (n : Nat) : Nat → Int
  | 0 => -1
  | d + 1 => if p (n - (d + 1)) then ((n - (d + 1) : Nat) : Int) else idxN p n d
theorem idxN_step {p : Nat → Bool} {n k : Nat} (h : k < n) : idxN p n (n - k) = if p k then (k : Int) else idxN p n (n - (k + 1)) := by
  obtain ⟨d, rfl⟩ : ∃ d, n = k + d + 1 := ⟨n - k - 1, by omega⟩
  rw [show k + d + 1 - k = d + 1 from by omega, show k + d + 1 - (k + 1) = d from by omega]
  simp only [idxN]
  rw [show k + d + 1 - (d + 1) = k from by omega]
theorem idxN_ge (p : Nat → Bool) (n : Nat) : ∀ d, d ≤ n → (decide (0 ≤ idxN p n d) = !((List.range' (n - d) d).all fun k => !p k)) := by
  intro d
  induction d with
  | zero => intro _; simp [idxN]
  | succ d ih =>
    intro hd
    have := ih (by omega)
    rw [List.range'_succ, List.all_cons, show n - (d + 1) + 1 = n - d from by omega]
    simp only [idxN]
    by_cases hp : p (n - (d + 1)) = true
    · simp [hp]
    · simp only [hp, Bool.false_eq_true, if_false, Bool.not_false, Bool.true_and]; exact this
theorem idxN_all (p : Nat → Bool) (n : Nat) : decide (0 ≤ idxN (fun k => !p k) n n) = !allN n p := by
  rw [idxN_ge _ n n (Nat.le_refl _), Nat.sub_self]
  unfold allN
  rw [List.range_eq_range']
  simp

/-- A function value that answers p k at the value f k, in every later world. -/
def Fv (P : Program) (w : World) (g : Nat) (lb : Array Value) (n : Nat) (f : Nat → Value) (p : Nat → Bool) : Prop :=
  ∀ W, Below w.heap.size w W → ∀ k, k < n → Calls P g (#[f k] ++ lb) W fun e w' => e = .returned (.bool (p k)) ∧ Below W.heap.size W w'
abbrev Ent (P : Program) (g : Nat) : Prop := ∀ args w, (callFunc g args).run P w = .ok (.enter g args) w
end Go.Proofs.YtnnioicjmlfllaaGreatDoor
