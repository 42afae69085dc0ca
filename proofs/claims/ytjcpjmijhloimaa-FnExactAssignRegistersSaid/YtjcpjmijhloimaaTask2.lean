import Derived.Test.YtjcpjmijhloimaaTask
import Derived.Test.YtjcpjmijhloimaaRws3
set_option linter.unusedVariables false
set_option linter.unusedSimpArgs false
namespace Go.Proofs.Ytjcpjmijhloimaa
open Go.RowKit

/-- The cells of the first k tasks, what is needed at f; n tasks of zeros. -/
def tcs (ts : List TaskV) (f : Nat → Value) : Nat → List Value
  | 0 => []
  | k + 1 => tcs ts f k ++ [.int .i64 (tel ts k).port, .int .i64 (tel ts k).lat, f k]
def tzs : Nat → List Value
  | 0 => []
  | n + 1 => .int .i64 0 :: .int .i64 0 :: .slice none 0 0 :: tzs n
theorem tcs_length (ts : List TaskV) (f : Nat → Value) (k : Nat) : (tcs ts f k).length = k * 3 := by induction k with | zero => rfl | succ k ih => simp [tcs, ih]; omega
theorem tzs_length (n : Nat) : (tzs n).length = n * 3 := by induction n with | zero => rfl | succ n ih => simp [tzs, ih]; omega
theorem tzs_snoc (n : Nat) : tzs (n + 1) = tzs n ++ [.int .i64 0, .int .i64 0, .slice none 0 0] := by
  induction n with
  | zero => rfl
  | succ n ih =>
    rw [show tzs (n + 1 + 1) = .int .i64 0 :: .int .i64 0 :: .slice none 0 0 :: tzs (n + 1) from rfl]
    conv => lhs; rw [ih]
    rfl
theorem tcs_congr (ts : List TaskV) {f g : Nat → Value} (k : Nat) (h : ∀ i, i < k → f i = g i) : tcs ts f k = tcs ts g k := by
  induction k with
  | zero => rfl
  | succ k ih => simp only [tcs]; rw [ih (fun i hi => h i (by omega)), h k (by omega)]
theorem tcs_get (ts : List TaskV) (f : Nat → Value) {n k : Nat} (h : k < n) :
    (tcs ts f n)[k * 3]? = some (.int .i64 (tel ts k).port) ∧ (tcs ts f n)[k * 3 + 1]? = some (.int .i64 (tel ts k).lat) ∧ (tcs ts f n)[k * 3 + 2]? = some (f k) := by
  induction n with
  | zero => omega
  | succ n ih =>
    have hl := tcs_length ts f n
    simp only [tcs]
    by_cases e : k = n
    · subst e
      rw [List.getElem?_append_right (by omega), List.getElem?_append_right (by omega), List.getElem?_append_right (by omega), hl]
      simp [show k * 3 + 1 - k * 3 = 1 from by omega, show k * 3 + 2 - k * 3 = 2 from by omega]
    · rw [List.getElem?_append_left (by omega), List.getElem?_append_left (by omega), List.getElem?_append_left (by omega)]
      exact ih (by omega)
theorem tcs_step (ts : List TaskV) (f : Nat → Value) (v : Value) {n k : Nat} (hk : k < n) :
    (((tcs ts f k ++ tzs (n - k)).set (k * 3) (.int .i64 (tel ts k).port)).set (k * 3 + 1) (.int .i64 (tel ts k).lat)).set (k * 3 + 2) v = tcs ts (fun i => if i = k then v else f i) (k + 1) ++ tzs (n - (k + 1)) := by
  have hl := tcs_length ts f k
  obtain ⟨m, hm⟩ : ∃ m, n - k = m + 1 := ⟨n - k - 1, by omega⟩
  rw [hm, show n - (k + 1) = m from by omega]
  simp only [tzs, tcs]
  rw [List.set_append_right _ _ (by omega), List.set_append_right _ _ (by omega), List.set_append_right _ _ (by omega), hl, tcs_congr ts k (f := fun i => if i = k then v else f i) (g := f) (fun i hi => by simp; omega)]
  simp [show k * 3 + 1 - k * 3 = 1 from by omega, show k * 3 + 2 - k * 3 = 2 from by omega]
theorem made3 (n : Nat) : (madeCells #[.int .i64 0, .int .i64 0, .slice none 0 0] (n * 3)).toList = tzs n := by
  induction n with
  | zero => simp [madeCells, tzs]
  | succ n ih =>
    rw [tzs_snoc, ← ih]
    unfold madeCells
    rw [show (n + 1) * 3 = n * 3 + 1 + 1 + 1 from by omega]
    simp [Array.range_succ, show (n * 3 + 1) % 3 = 1 from by omega, show (n * 3 + 1 + 1) % 3 = 2 from by omega]
theorem makeTasks (n : Nat) (hn : n ≤ 1048576) (W : World) : (Instr.makeSlice 63 (.int .i64 (n : Int)) (.int .i64 (n : Int))).run Try.prog W = .ok (.slice (some ⟨W.heap.size, 0, none⟩) n n) (W.alloc (.cells (madeCells #[.int .i64 0, .int .i64 0, .slice none 0 0] (n * 3)) 74)) := by
  have hi : (Try.prog.info? 74).map (fun i => (i.zero, i.size, i.bytes)) = some (some (.agg #[.int .i64 0, .int .i64 0, .slice none 0 0]), 3, 40) := by kernel_rfl
  obtain ⟨i, hi, hzz⟩ := Option.map_eq_some_iff.1 hi
  simp only [Prod.mk.injEq] at hzz
  obtain ⟨hz, hs, hb⟩ := hzz
  have := run_make (P := Try.prog) W 63 74 i _ Try.underlying63 hi hz .i64 .i64 (n : Int) (n : Int) (by omega) (by omega) (by rw [hb]; omega) (by omega)
  rw [hs] at this
  simpa [Value.cells] using this
theorem own_made3 (w : World) (e : TypeId) (n : Nat) (hn : n ≤ 1048576) :
    Own (w.alloc (.cells (madeCells #[.int .i64 0, .int .i64 0, .slice none 0 0] (n * 3)) e)) w.heap.size (w.heap.size + 1) e 3 (.slice (some ⟨w.heap.size, 0, none⟩) n n) n (tzs n) := by
  refine ⟨?_, by simp [Value.ownBlock]⟩
  have := World.ownsRow_lit (base := w.heap.size) (e := e) (size := 3) w (madeCells #[.int .i64 0, .int .i64 0, .slice none 0 0] (n * 3)) n (Nat.le_refl _) (by simp [maxLen]; omega) (by simp [size_madeCells])
  rwa [made3] at this
/-- Tasks of the call's own: what is needed in blocks apart. -/
def OTf (w : World) (lo hi : Nat) (v : Value) (ts : List TaskV) (f : Nat → Value) : Prop :=
  Own w lo hi 74 3 v ts.length (tcs ts f ts.length) ∧ (∀ k, k < ts.length → OI w lo hi (f k) (tel ts k).needs) ∧
  (∀ i j a b, i < j → j < ts.length → (f i).ownBlock = some a → (f j).ownBlock = some b → a ≠ b) ∧ (∀ k a b, k < ts.length → v.ownBlock = some a → (f k).ownBlock = some b → a ≠ b)
def OT (w : World) (lo hi : Nat) (v : Value) (ts : List TaskV) : Prop := ∃ f, OTf w lo hi v ts f
theorem OT.eqv {w w' : World} {lo hi : Nat} {v : Value} {ts : List TaskV} (h : OT w lo hi v ts) (hq : Eqv lo hi w w') : OT w' lo hi v ts := by
  obtain ⟨f, h1, h2, h3, h4⟩ := h
  exact ⟨f, h1.eqv hq, fun k hk => (h2 k hk).eqv hq, h3, h4⟩
theorem OT.shp {w : World} {lo hi : Nat} {v : Value} {ts : List TaskV} (h : OT w lo hi v ts) : ∃ A c, v = .slice A ts.length c ∧ ts.length ≤ c ∧ c ≤ 9223372036854775807 ∧ RdT w A ts := by
  obtain ⟨f, h1, h2, _, _⟩ := h
  obtain ⟨A, c, rfl, hc, hc2, hs⟩ := h1.shape
  refine ⟨A, c, rfl, hc, hc2, fun k hk => ?_⟩
  obtain ⟨A', c', e, hl, _, hr⟩ := (h2 k hk).shp
  rcases hs with ⟨_, h0⟩ | ⟨g, rfl, _, _, hcell, _⟩
  · omega
  · obtain ⟨g0, g1, g2⟩ := tcs_get ts f hk
    rw [e] at g2
    exact ⟨g, 0, A', c', rfl, by simpa using hcell _ _ g0, by simpa using hcell _ _ g1, by simpa using hcell _ _ g2, hl, hr⟩
theorem OT.rd {w : World} {lo hi c : Nat} {A : Option Addr} {ts : List TaskV} (h : OT w lo hi (.slice A ts.length c) ts) : RdT w A ts := by
  obtain ⟨A', c', e, _, _, hr⟩ := h.shp; cases e; exact hr
structure SofarT (w : World) (lo : Nat) (ts : List TaskV) (k : Nat) (f : Nat → Value) : Prop where
  outer : Own w lo (lo + 1) 74 3 (.slice (some ⟨lo, 0, none⟩) ts.length ts.length) ts.length (tcs ts f k ++ tzs (ts.length - k))
  size : lo + 1 ≤ w.heap.size
  rows : ∀ j, j < k → OI w (lo + 1) w.heap.size (f j) (tel ts j).needs
  apart : ∀ i j a b, i < j → j < k → (f i).ownBlock = some a → (f j).ownBlock = some b → a < b
theorem SofarT.step {w w1 : World} {lo k : Nat} {ts : List TaskV} {f : Nat → Value} {v : Value} (h : SofarT w lo ts k f) (hk : k < ts.length) (hb : Below w.heap.size w w1) (hv : OI w1 w.heap.size w1.heap.size v (tel ts k).needs) :
    SofarT (((w1.setCell ⟨lo, k * 3, none⟩ (.int .i64 (tel ts k).port)).setCell ⟨lo, k * 3 + 1, none⟩ (.int .i64 (tel ts k).lat)).setCell ⟨lo, k * 3 + 2, none⟩ v) lo ts (k + 1) (fun i => if i = k then v else f i) := by
  have hs := h.size
  have hsz := hb.size
  have hq : Eqv (lo + 1) w1.heap.size w1 (((w1.setCell ⟨lo, k * 3, none⟩ (.int .i64 (tel ts k).port)).setCell ⟨lo, k * 3 + 1, none⟩ (.int .i64 (tel ts k).lat)).setCell ⟨lo, k * 3 + 2, none⟩ v) := fun j h1 h2 => by
    rw [Below.heap_setCell _ _ _ _ (by show j ≠ lo; omega), Below.heap_setCell _ _ _ _ (by show j ≠ lo; omega), Below.heap_setCell _ _ _ _ (by show j ≠ lo; omega)]
  have hz : (((w1.setCell ⟨lo, k * 3, none⟩ (.int .i64 (tel ts k).port)).setCell ⟨lo, k * 3 + 1, none⟩ (.int .i64 (tel ts k).lat)).setCell ⟨lo, k * 3 + 2, none⟩ v).heap.size = w1.heap.size := by simp [World.setCell]
  refine ⟨?_, by rw [hz]; omega, fun j hj => ?_, fun i j a b hij hj ha hb' => ?_⟩
  · have := (((h.outer.eqv (Eqv.of hb hs)).set (k * 3) (.int .i64 (tel ts k).port)).set (k * 3 + 1) (.int .i64 (tel ts k).lat)).set (k * 3 + 2) v
    rwa [tcs_step ts f v hk] at this
  · rw [hz]
    by_cases e : j = k
    · subst e
      rw [if_pos rfl]
      exact OI.eqv (Own.wide hv (by omega) (Nat.le_refl _)) hq
    · rw [if_neg e]
      exact OI.eqv (Own.wide ((h.rows j (by omega)).eqv (Eqv.of hb (Nat.le_refl _))) (Nat.le_refl _) (by omega)) hq
  · by_cases e : j = k
    · subst e
      rw [if_neg (by omega)] at ha
      rw [if_pos rfl] at hb'
      have := (OI.at (h.rows i hij) ha).2
      have := (OI.at hv hb').1
      omega
    · rw [if_neg (by omega)] at ha
      rw [if_neg e] at hb'
      exact h.apart i j a b hij (by omega) ha hb'
theorem SofarT.done {w : World} {lo : Nat} {ts : List TaskV} {f : Nat → Value} (h : SofarT w lo ts ts.length f) : OT w lo w.heap.size (.slice (some ⟨lo, 0, none⟩) ts.length ts.length) ts := by
  have hs := h.size
  have ho := h.outer
  rw [Nat.sub_self, show tzs 0 = [] from rfl, List.append_nil] at ho
  refine ⟨f, ho.wide (Nat.le_refl _) hs, fun k hk => Own.wide (h.rows k hk) (by omega) (Nat.le_refl _), fun i j a b hij hj ha hb => Nat.ne_of_lt (h.apart i j a b hij hj ha hb), fun k a b hk ha hb => ?_⟩
  have := (OI.at (h.rows k hk) hb).1
  simp [Value.ownBlock] at ha
  omega
/-- How many numbers are needed by the first k tasks. -/
def ttot (ts : List TaskV) : Nat → Nat
  | 0 => 0
  | k + 1 => ttot ts k + (tel ts k).needs.length
theorem ttot_mono (ts : List TaskV) {j k : Nat} (h : j ≤ k) : ttot ts j ≤ ttot ts k := by
  induction k with
  | zero => obtain rfl : j = 0 := by omega
            exact Nat.le_refl _
  | succ k ih => by_cases e : j = k + 1
                 · subst e; exact Nat.le_refl _
                 · have := ih (by omega); simp only [ttot]; omega
def tsz (ts : List TaskV) : Nat := ts.length + ttot ts ts.length
theorem tsz_row {ts : List TaskV} {m k : Nat} (h : tsz ts ≤ m) (hk : k < ts.length) : (tel ts k).needs.length ≤ m := by
  have := ttot_mono ts (j := k + 1) (k := ts.length) (by omega); simp only [ttot] at this; unfold tsz at h; omega
theorem tsz_len {ts : List TaskV} {m : Nat} (h : tsz ts ≤ m) : ts.length ≤ m := by unfold tsz at h; omega
def BigT (ts : List TaskV) : Prop := ts.length ≤ 9223372036854775807 ∧ ∀ k, k < ts.length → (tel ts k).needs.length ≤ 9223372036854775807
theorem bigT_of {ts : List TaskV} (h : tsz ts ≤ 1048576) : BigT ts := ⟨by have := tsz_len h; omega, fun k hk => by have := tsz_row h hk; omega⟩
end Go.Proofs.Ytjcpjmijhloimaa
