import Derived.Test.YtcknhjeefdbhbaaRws
import Derived.Test.YtcknhjeefdbhbaaMach
set_option linter.unusedVariables false
set_option linter.unusedSimpArgs false
namespace Go.Proofs.Ytcknhjeefdbhbaa
open Go.RowKit

/-! ### Tasks: a port, a latency, and what is needed -/
structure TaskV where
  port : Int
  lat : Int
  needs : List Int
deriving DecidableEq
instance : Inhabited TaskV := ⟨⟨0, 0, []⟩⟩
def tel (ts : List TaskV) (k : Nat) : TaskV := ts.getD k default
theorem tel_get {ts : List TaskV} {k : Nat} (h : k < ts.length) : ts[k]? = some (tel ts k) := by
  unfold tel; rw [List.getD_eq_getElem?_getD, List.getElem?_eq_getElem h]; simp
theorem tel_mem {ts : List TaskV} {k : Nat} (h : k < ts.length) : tel ts k ∈ ts := List.mem_of_getElem? (tel_get h)
theorem tel_drop {ts : List TaskV} {k : Nat} (h : k < ts.length) : ts.drop k = tel ts k :: ts.drop (k + 1) := by
  rw [List.drop_eq_getElem_cons h]; congr 1; have := tel_get h; rw [List.getElem?_eq_getElem h] at this; exact Option.some.inj this
theorem tel_ext {xs ys : List TaskV} (h : xs.length = ys.length) (he : ∀ k, k < xs.length → tel xs k = tel ys k) : xs = ys := by
  apply List.ext_getElem? ; intro k
  by_cases hk : k < xs.length
  · rw [tel_get hk, tel_get (by omega), he k hk]
  · rw [List.getElem?_eq_none (by omega), List.getElem?_eq_none (by omega)]
abbrev tv (p l : Int) (A : Option Addr) (n c : Nat) : Value := .agg #[.int .i64 p, .int .i64 l, .slice A n c]
/-- The slice at A reads as the tasks ts. -/
def RdT (w : World) (A : Option Addr) (ts : List TaskV) : Prop :=
  ∀ k, k < ts.length → ∃ b off A' c', A = some ⟨b, off, none⟩ ∧ w.cell? ⟨b, off + k * 3, none⟩ = some (.int .i64 (tel ts k).port) ∧ w.cell? ⟨b, off + k * 3 + 1, none⟩ = some (.int .i64 (tel ts k).lat) ∧
    w.cell? ⟨b, off + k * 3 + 2, none⟩ = some (.slice A' (tel ts k).needs.length c') ∧ (tel ts k).needs.length ≤ c' ∧ RdI w A' (tel ts k).needs
theorem RdT.below {w W : World} {A : Option Addr} {ts : List TaskV} (h : RdT w A ts) (hb : Below w.heap.size w W) : RdT W A ts := fun k hk => by
  obtain ⟨b, off, A', c', e, h0, h1, h2, h3, h4⟩ := h k hk
  exact ⟨b, off, A', c', e, bcell hb h0, bcell hb h1, bcell hb h2, h3, h4.below hb⟩
theorem RdT.get {w : World} {A : Option Addr} {ts : List TaskV} (h : RdT w A ts) {k : Nat} (hk : k < ts.length) :
    ∃ b off A' c', A = some ⟨b, off, none⟩ ∧ w.cell? ⟨b, off + k * 3, none⟩ = some (.int .i64 (tel ts k).port) ∧ w.cell? ⟨b, off + k * 3 + 1, none⟩ = some (.int .i64 (tel ts k).lat) ∧
    w.cell? ⟨b, off + k * 3 + 2, none⟩ = some (.slice A' (tel ts k).needs.length c') ∧ (tel ts k).needs.length ≤ c' ∧ RdI w A' (tel ts k).needs := h k hk
theorem l_szTask (w : World) (p l : Int) (A : Option Addr) (n c : Nat) (left : Int) (hn : n ≤ 9223372036854775807) (h0 : 0 ≤ left) (h1 : left ≤ 1048576) :
    Calls Try.prog 147 #[tv p l A n c, .int .i64 left] w fun e w' => e = .returned (.int .i64 (szR left n)) ∧ Below w.heap.size w w' := by
  have hb0 := ballocw w (.cells #[.int .i64 p, .int .i64 l, .slice A n c] 162)
  have hs := fun W => l_szInt64S W A n c left hn h0 h1
  have hsz : szR left n = if left < n then -1 else left - n := rfl
  by_cases h : left < n
  · rw [if_pos h] at hsz
    simp only [hsz] at hs ⊢
    have HS := hid hs
    clear hs hsz h
    go_enter Try.func147, Try.ntmps147
    go_wp2_with fail
    refine (HS.out _).mono ?_
    rintro e w' ⟨rfl, rfl⟩
    go_wp2_with fail
    go_ret
    exact ⟨rfl, hb0⟩
  · rw [if_neg h] at hsz
    have hnn : ¬ szR left n < 0 := by omega
    have HS := hid hs
    clear hs hsz h
    generalize szR left n = r at hnn HS ⊢
    go_enter Try.func147, Try.ntmps147
    go_wp2_with fail
    refine (HS.out _).mono ?_
    rintro e w' ⟨rfl, rfl⟩
    go_wp2_with fail
    go_ret
    exact ⟨rfl, hb0⟩
theorem l_eqTask (w : World) (p l p' l' : Int) (A A' : Option Addr) (n c n' c' : Nat) (b : Bool)
    (hq : Hid (∀ W, Below w.heap.size w W → Calls Try.prog 24 #[.slice A n c, .slice A' n' c'] W fun e w' => e = .returned (.bool b) ∧ Below W.heap.size W w')) :
    Calls Try.prog 153 #[tv p l A n c, tv p' l' A' n' c'] w fun e w' => e = .returned (.bool (decide (p = p') && (decide (l = l') && b))) ∧ Below w.heap.size w w' := by
  have hb1 := balloc (ballocw w (.cells #[.int .i64 p, .int .i64 l, .slice A n c] 132)) (.cells #[.int .i64 p', .int .i64 l', .slice A' n' c'] 132)
  by_cases h : p = p'
  · subst h
    by_cases h : l = l'
    · subst h
      cases b
      all_goals
        go_enter Try.func153, Try.ntmps153
        go_wp2_with fail
        refine (hq.out _ hb1).mono ?_
        rintro e w1 ⟨rfl, hb2⟩
        go_wp2_with fail
        go_ret
        exact ⟨ret_b (by simp), bthen hb1 hb2⟩
    · have hn : (l != l') = true := by simpa using h
      clear hq
      go_enter Try.func153, Try.ntmps153
      go_wp2
      go_ret
      exact ⟨ret_b (by simp [h]), hb1⟩
  · have hn : (p != p') = true := by simpa using h
    clear hq
    go_enter Try.func153, Try.ntmps153
    go_wp2
    go_ret
    exact ⟨ret_b (by simp [h]), hb1⟩
theorem blk3 (w : World) (a b c : Obj) : (((w.alloc a).alloc b).alloc c).heap[w.heap.size + 1 + 1]? = some c := by
  have e : ((w.alloc a).alloc b).heap.size = w.heap.size + 1 + 1 := by simp
  rw [← e, heap_alloc_new]
theorem l_toTask (w : World) (p l : Int) (A : Option Addr) (n c : Nat) (xs : List Int)
    (ht : Hid (∀ W, Below w.heap.size w W → Calls Try.prog 22 #[.slice A n c] W fun e w' => ∃ v, e = .returned v ∧ OI w' W.heap.size w'.heap.size v xs ∧ Below W.heap.size W w')) :
    Calls Try.prog 151 #[tv p l A n c] w fun e w' => ∃ v, e = .returned (.agg #[.int .i64 p, .int .i64 l, v]) ∧ OI w' w.heap.size w'.heap.size v xs ∧ Below w.heap.size w w' := by
  go_enter Try.func151, Try.ntmps151
  go_wp2_with fail
  have hb1 := machine3 w (.cells #[.int .i64 p, .int .i64 l, .slice A n c] 162) (.cells #[.int .i64 0, .int .i64 0, .slice none 0 0] 132) (.cells #[.int .i64 p, .int .i64 l, .slice none 0 0] 132)
  have g2 := blk0 w (.cells #[.int .i64 p, .int .i64 l, .slice A n c] 162) (.cells #[.int .i64 0, .int .i64 0, .slice none 0 0] 132) (.cells #[.int .i64 p, .int .i64 l, .slice none 0 0] 132)
  have g3 := blk3 w (.cells #[.int .i64 p, .int .i64 l, .slice A n c] 162) (.cells #[.int .i64 0, .int .i64 0, .slice none 0 0] 132) (.cells #[.int .i64 p, .int .i64 l, .slice none 0 0] 132)
  have hsz : (((w.alloc (.cells #[.int .i64 p, .int .i64 l, .slice A n c] 162)).alloc (.cells #[.int .i64 0, .int .i64 0, .slice none 0 0] 132)).alloc (.cells #[.int .i64 p, .int .i64 l, .slice none 0 0] 132)).heap.size = w.heap.size + 3 := by simp
  refine (ht.out _ hb1).mono ?_
  rintro e w1 ⟨v, rfl, ho, hb2⟩
  have G2 := hid ((hb2.block (w.heap.size + 1) (by omega)).trans g2)
  have G3 := hid ((hb2.block (w.heap.size + 1 + 1) (by omega)).trans g3)
  have BW := hid (bthen hb1 hb2)
  have HO : Hid (OI w1 (w.heap.size + 3) w1.heap.size v xs) := hid (hsz ▸ ho)
  have HZ := hid (Nat.le_trans (Nat.le_of_eq hsz.symm) hb2.size)
  obtain ⟨A1, c1, rfl, _, _, _⟩ := ho.shp
  have f1 : w1.frozen? ⟨w.heap.size + 1 + 1, 2, none⟩ = false := frozen_of_row _ _ _ _ _ G3.out
  have f2 : w1.frozen? ⟨w.heap.size + 1, 0, none⟩ = false := frozen_of_row _ _ _ _ _ G2.out
  have f3 : w1.frozen? ⟨w.heap.size + 1, 1, none⟩ = false := frozen_of_row _ _ _ _ _ G2.out
  have f4 : w1.frozen? ⟨w.heap.size + 1, 2, none⟩ = false := frozen_of_row _ _ _ _ _ G2.out
  have e1 : w1.cell? ⟨w.heap.size + 1 + 1, 0, none⟩ = some (.int .i64 p) := by rw [cell_of_row _ _ _ _ _ _ G3.out]; rfl
  have e2 : w1.cell? ⟨w.heap.size + 1 + 1, 1, none⟩ = some (.int .i64 l) := by rw [cell_of_row _ _ _ _ _ _ G3.out]; rfl
  have e3 : w1.cell? ⟨w.heap.size + 1 + 1, 2, none⟩ = some (.slice none 0 0) := by rw [cell_of_row _ _ _ _ _ _ G3.out]; rfl
  have e4 : w1.cell? ⟨w.heap.size + 1, 0, none⟩ = some (.int .i64 0) := by rw [cell_of_row _ _ _ _ _ _ G2.out]; rfl
  have e5 : w1.cell? ⟨w.heap.size + 1, 1, none⟩ = some (.int .i64 0) := by rw [cell_of_row _ _ _ _ _ _ G2.out]; rfl
  have e6 : w1.cell? ⟨w.heap.size + 1, 2, none⟩ = some (.slice none 0 0) := by rw [cell_of_row _ _ _ _ _ _ G2.out]; rfl
  clear g2 g3 hsz hb1 hb2 ho
  go_wp2_with fail
  have h1 := G2.out
  have h2 : (w1.setCell ⟨w.heap.size + 1 + 1, 2, none⟩ (.slice A1 xs.length c1)).heap[w.heap.size + 1]? = some (.cells #[.int .i64 0, .int .i64 0, .slice none 0 0] 132) :=
    (heap_setCell_other _ _ _ _ (by show w.heap.size + 1 ≠ w.heap.size + 1 + 1; omega)).trans h1
  have h3 := heap_setCell_same _ _ 0 _ _ (.int .i64 p) h2
  have h4 := heap_setCell_same _ _ 1 _ _ (.int .i64 l) h3
  have h5 := heap_setCell_same _ _ 2 _ _ (.slice A1 xs.length c1) h4
  have hq : Eqv (w.heap.size + 3) w1.heap.size w1 ((((w1.setCell ⟨w.heap.size + 1 + 1, 2, none⟩ (.slice A1 xs.length c1)).setCell ⟨w.heap.size + 1, 0, none⟩ (.int .i64 p)).setCell ⟨w.heap.size + 1, 1, none⟩ (.int .i64 l)).setCell ⟨w.heap.size + 1, 2, none⟩ (.slice A1 xs.length c1)) := by
    intro k h1 h2
    rw [heap_setCell_other _ _ _ _ (by show k ≠ w.heap.size + 1; omega), heap_setCell_other _ _ _ _ (by show k ≠ w.heap.size + 1; omega), heap_setCell_other _ _ _ _ (by show k ≠ w.heap.size + 1; omega), heap_setCell_other _ _ _ _ (by show k ≠ w.heap.size + 1 + 1; omega)]
  refine bodyPost_ret (results_cell_row rfl _ _ (w.heap.size + 1) 132 #[.int .i64 p, .int .i64 l, .slice A1 xs.length c1] (0, 0) _ rfl h5 Try.underlying132 rfl (by kernel_rfl)) rfl ?_
  refine ⟨_, rfl, ?_, bset (bset (bset (bset BW.out (by show _ ≤ w.heap.size + 1 + 1; omega) _) (by show _ ≤ w.heap.size + 1; omega) _) (by show _ ≤ w.heap.size + 1; omega) _) (by show _ ≤ w.heap.size + 1; omega) _⟩
  exact Own.wide (OI.eqv HO.out hq) (by omega) (by simp [World.setCell])
end Go.Proofs.Ytcknhjeefdbhbaa
