import Derived.Test.YtjcpjmijhloimaaMach
import Derived.Test.YtjcpjmijhloimaaLawO
set_option linter.unusedVariables false
set_option linter.unusedSimpArgs false
namespace Go.Proofs.Ytjcpjmijhloimaa
open Go.RowKit

/-! ### Lists of pairs of numbers (ranges) -/
abbrev PI := Int × Int
def pel (xs : List PI) (k : Nat) : PI := xs.getD k (0, 0)
theorem pel_get {xs : List PI} {k : Nat} (h : k < xs.length) : xs[k]? = some (pel xs k) := by
  unfold pel; rw [List.getD_eq_getElem?_getD, List.getElem?_eq_getElem h]; simp
theorem pel_mem {xs : List PI} {k : Nat} (h : k < xs.length) : pel xs k ∈ xs := List.mem_of_getElem? (pel_get h)
theorem pel_drop {xs : List PI} {k : Nat} (h : k < xs.length) : xs.drop k = pel xs k :: xs.drop (k + 1) := by
  rw [List.drop_eq_getElem_cons h]; congr 1; have := pel_get h; rw [List.getElem?_eq_getElem h] at this; exact Option.some.inj this
abbrev pv (p : PI) : Value := mv p.1 p.2
/-- The slice at A reads as the pairs xs. -/
def RdP (w : World) (A : Option Addr) (xs : List PI) : Prop :=
  ∀ k, k < xs.length → ∃ b off, A = some ⟨b, off, none⟩ ∧ w.cell? ⟨b, off + k * 2, none⟩ = some (.int .i64 (pel xs k).1) ∧ w.cell? ⟨b, off + k * 2 + 1, none⟩ = some (.int .i64 (pel xs k).2)
theorem RdP.below {w W : World} {A : Option Addr} {xs : List PI} (h : RdP w A xs) (hb : Below w.heap.size w W) : RdP W A xs := fun k hk => by
  obtain ⟨b, off, e, h0, h1⟩ := h k hk
  exact ⟨b, off, e, bcell hb h0, bcell hb h1⟩
theorem l_toRange (w : World) (x y : Int) : Calls Try.prog 99 #[mv x y] w fun e w' => e = .returned (mv x y) ∧ Below w.heap.size w w' := by
  go_enter Try.func99, Try.ntmps99
  go_wp2
  refine bodyPost_ret (results_cell_row rfl _ _ (w.heap.size + 1) 118 #[.int .i64 x, .int .i64 y] (0, 0) _ rfl (blk0 _ _ _ _) Try.underlying118 rfl (by kernel_rfl)) rfl ?_
  exact ⟨rfl, machine3 _ _ _ _⟩
theorem l_szRangeS (w : World) (A : Option Addr) (n c : Nat) (left : Int) (hn : n ≤ 9223372036854775807) (h0 : 0 ≤ left) (h1 : left ≤ 1048576) :
    Calls Try.prog 37 #[.slice A n c, .int .i64 left] w fun e w' => e = .returned (.int .i64 (if left - n < 0 then -1 else left - n)) ∧ w = w' := by
  by_cases h : left - n < 0
  all_goals
    go_enter Try.func37, Try.ntmps37
    go_wp2
    go_ret
    exact ⟨ret_i (by simp [h]), rfl⟩
theorem l_eqRange (w : World) (x y x' y' : Int) : Calls Try.prog 110 #[mv x y, mv x' y'] w fun e w' => e = .returned (.bool (x == x' && y == y')) ∧ Below w.heap.size w w' := by
  by_cases h : x = x'
  · subst h
    by_cases h : y = y'
    · subst h
      go_enter Try.func110, Try.ntmps110
      go_wp2
      go_ret
      exact ⟨ret_b (by simp), balloc (ballocw _ _) _⟩
    · have hn : (y != y') = true := by simpa using h
      go_enter Try.func110, Try.ntmps110
      go_wp2
      go_ret
      exact ⟨ret_b (by simp [h]), balloc (ballocw _ _) _⟩
  · have hn : (x != x') = true := by simpa using h
    go_enter Try.func110, Try.ntmps110
    go_wp2
    go_ret
    exact ⟨ret_b (by simp [h]), balloc (ballocw _ _) _⟩
def pfl (xs : List PI) : List Int := xs.flatMap fun p => [p.1, p.2]
theorem pfl_length (xs : List PI) : (pfl xs).length = xs.length * 2 := by induction xs with | nil => rfl | cons a t ih => simp [pfl, List.flatMap_cons] at ih ⊢; omega
theorem pfl_append (xs ys : List PI) : pfl (xs ++ ys) = pfl xs ++ pfl ys := by simp [pfl]
theorem pel_take {xs : List PI} {k : Nat} (h : k < xs.length) : xs.take (k + 1) = xs.take k ++ [pel xs k] := by
  rw [List.take_add_one, pel_get h]; rfl
theorem pfl_get {xs : List PI} {k : Nat} (h : k < xs.length) : (pfl xs)[k * 2]? = some (pel xs k).1 ∧ (pfl xs)[k * 2 + 1]? = some (pel xs k).2 := by
  have e : xs = xs.take k ++ (pel xs k :: xs.drop (k + 1)) := by rw [← pel_drop h, List.take_append_drop]
  have hl : (pfl (xs.take k)).length = k * 2 := by rw [pfl_length]; simp; omega
  have e2 : pfl xs = pfl (xs.take k) ++ ((pel xs k).1 :: (pel xs k).2 :: pfl (xs.drop (k + 1))) := by
    conv => lhs; rw [e]
    rw [pfl_append]; simp [pfl]
  rw [e2, List.getElem?_append_right (by omega), List.getElem?_append_right (by omega), hl]
  simp
theorem pcopy_step {xs : List PI} {k : Nat} (h : k < xs.length) :
    ((pfl (xs.take k) ++ List.replicate ((xs.length - k) * 2) 0).set (k * 2) (pel xs k).1).set (k * 2 + 1) (pel xs k).2 = pfl (xs.take (k + 1)) ++ List.replicate ((xs.length - (k + 1)) * 2) 0 := by
  have hl : (pfl (xs.take k)).length = k * 2 := by rw [pfl_length]; simp; omega
  obtain ⟨m, hm⟩ : ∃ m, xs.length - k = m + 1 := ⟨xs.length - k - 1, by omega⟩
  rw [pel_take h, pfl_append, hm, show xs.length - (k + 1) = m from by omega, show (m + 1) * 2 = m * 2 + 1 + 1 from by omega, List.replicate_succ, List.replicate_succ,
    List.set_append_right _ _ (by omega), List.set_append_right _ _ (by omega), hl]
  simp [pfl]
theorem toList_made2 (z : Value) (n : Nat) : (madeCells #[z, z] n).toList = List.replicate n z := by
  apply List.ext_getElem?
  intro k
  by_cases hk : k < n
  · rcases (show k % 2 = 0 ∨ k % 2 = 1 by omega) with h | h <;> simp [madeCells, hk, h]
  · simp [madeCells, hk]
theorem makeRange (n : Nat) (hn : n ≤ 1048576) (W : World) : (Instr.makeSlice 58 (.int .i64 (n : Int)) (.int .i64 (n : Int))).run Try.prog W = .ok (.slice (some ⟨W.heap.size, 0, none⟩) n n) (W.alloc (.cells (madeCells #[.int .i64 0, .int .i64 0] (n * 2)) 118)) := by
  have hi : (Try.prog.info? 118).map (fun i => (i.zero, i.size, i.bytes)) = some (some (.agg #[.int .i64 0, .int .i64 0]), 2, 16) := by kernel_rfl
  obtain ⟨i, hi, hzz⟩ := Option.map_eq_some_iff.1 hi
  simp only [Prod.mk.injEq] at hzz
  obtain ⟨hz, hs, hb⟩ := hzz
  have := run_make (P := Try.prog) W 58 118 i _ Try.underlying58 hi hz .i64 .i64 (n : Int) (n : Int) (by omega) (by omega) (by rw [hb]; omega) (by omega)
  rw [hs] at this
  simpa [Value.cells] using this
theorem own_made2 (w : World) (e : TypeId) (n : Nat) (hn : n ≤ 1048576) :
    Own (w.alloc (.cells (madeCells #[.int .i64 0, .int .i64 0] (n * 2)) e)) w.heap.size (w.heap.size + 1) e 2 (.slice (some ⟨w.heap.size, 0, none⟩) n n) n (ints (List.replicate (n * 2) 0)) := by
  refine ⟨?_, by simp [Value.ownBlock]⟩
  have := World.ownsRow_lit (base := w.heap.size) (e := e) (size := 2) w (madeCells #[.int .i64 0, .int .i64 0] (n * 2)) n (Nat.le_refl _) (by simp [maxLen]; omega) (by simp [size_madeCells])
  rwa [toList_made2, ints_replicate] at this
set_option maxRecDepth 100000 in
theorem l_toRangeS (w : World) (A : Option Addr) (c : Nat) (xs : List PI) (hl : xs.length ≤ 1048576) (hR : RdP w A xs) :
    Calls Try.prog 39 #[.slice A xs.length c] w fun e w' => ∃ v, e = .returned v ∧ Own w' w.heap.size w'.heap.size 118 2 v xs.length (ints (pfl xs)) ∧ Below w.heap.size w w' := by
  have hmk := makeRange xs.length hl
  go_enter Try.func39, Try.ntmps39
  go_wp2_with fail
  clear hmk
  go_loopg [4] xs.length (fun gg s wr => ∃ k : Nat, k ≤ xs.length ∧ xs.length - k ≤ gg ∧ s = .int .i64 k ∧ Aside (Below w.heap.size w wr) ∧
    Aside (w.heap.size + 1 ≤ wr.heap.size ∧ Own wr w.heap.size (w.heap.size + 1) 118 2 (.slice (some ⟨w.heap.size, 0, none⟩) xs.length xs.length) xs.length (ints (pfl (xs.take k) ++ List.replicate ((xs.length - k) * 2) 0))))
  case atStart => exact ⟨0, Nat.zero_le _, by omega, rfl, ballocw w _, by unfold Aside; exact ⟨by simp, by simpa [pfl] using own_made2 w 118 xs.length hl⟩⟩
  case round =>
    obtain ⟨k, hk, hg, rfl, BW, OW⟩ := hrel
    by_cases hlt : k < xs.length
    · obtain ⟨b, off, rfl, hc0, hc1⟩ := hR.below BW.out k hlt
      have hto := fun W => l_toRange W (pel xs k).1 (pel xs k).2
      clear hR
      go_wp2_with fail
      refine (hto _).mono ?_
      rintro e w1 ⟨rfl, hb1⟩
      clear hto hc0 hc1
      have OW1 : Own w1 _ _ _ _ _ _ _ := OW.out.2.eqv (Eqv.of hb1 OW.out.1)
      obtain ⟨A', c', e', _, _, hs⟩ := OW1.shape
      obtain ⟨rfl, rfl⟩ : A' = some ⟨w.heap.size, 0, none⟩ ∧ c' = xs.length := by cases e'; exact ⟨rfl, rfl⟩
      rcases hs with ⟨h0, _⟩ | ⟨g, hg', _, _, hcells, hfr⟩
      · cases h0
      obtain rfl : g = w.heap.size := by cases hg'; rfl
      have hll : (pfl (xs.take k) ++ List.replicate ((xs.length - k) * 2) 0).length = xs.length * 2 := by simp [pfl_length]; omega
      have hck := hcells (k * 2) _ (ints_get (by omega))
      have hck1 := hcells (k * 2 + 1) _ (ints_get (by omega))
      have hfk := hfr (k * 2)
      have hfk1 := hfr (k * 2 + 1)
      have hle := Nat.le_trans OW.out.1 hb1.size
      have OW' : Aside (w.heap.size + 1 ≤ ((w1.setCell ⟨w.heap.size, k * 2, none⟩ (.int .i64 (pel xs k).1)).setCell ⟨w.heap.size, k * 2 + 1, none⟩ (.int .i64 (pel xs k).2)).heap.size ∧
          Own ((w1.setCell ⟨w.heap.size, k * 2, none⟩ (.int .i64 (pel xs k).1)).setCell ⟨w.heap.size, k * 2 + 1, none⟩ (.int .i64 (pel xs k).2)) w.heap.size (w.heap.size + 1) 118 2 (.slice (some ⟨w.heap.size, 0, none⟩) xs.length xs.length) xs.length (ints (pfl (xs.take (k + 1)) ++ List.replicate ((xs.length - (k + 1)) * 2) 0))) := by
        have := (OW1.set (k * 2) (.int .i64 (pel xs k).1)).set (k * 2 + 1) (.int .i64 (pel xs k).2); rw [ints_set, ints_set, pcopy_step hlt] at this; exact ⟨by simpa [World.setCell] using hle, this⟩
      have BW' : Aside (Below w.heap.size w ((w1.setCell ⟨w.heap.size, k * 2, none⟩ (.int .i64 (pel xs k).1)).setCell ⟨w.heap.size, k * 2 + 1, none⟩ (.int .i64 (pel xs k).2))) := bset (bset (bthen BW.out hb1) (Nat.le_refl _) _) (Nat.le_refl _) _
      clear hll e' hg' hcells hfr OW1 OW BW hle
      go_wp2_with fail
      go_roundg (xs.length - (k + 1))
      case measure => omega
      case rel => exact ⟨k + 1, by omega, by omega, by go_num, BW', OW'⟩
    · have : k = xs.length := by omega
      subst this
      go_wp2
      go_ret
      refine ⟨_, rfl, ?_, BW.out⟩
      have hlt := OW.out.1
      have := OW.out.2
      simp only [List.take_length, Nat.sub_self, Nat.zero_mul, List.replicate_zero, List.append_nil] at this
      exact Own.wide this (Nat.le_refl _) hlt
end Go.Proofs.Ytjcpjmijhloimaa
