import Derived.Test.YtmpdaafkphpnoaaDoorPkt
import Derived.Test.YtmpdaafkphpnoaaDoorMach
import Derived.Test.YtmpdaafkphpnoaaDoorLawO
set_option linter.unusedVariables false
set_option linter.unusedSimpArgs false
namespace Go.Proofs.YtmpdaafkphpnoaaDoor
open Go.RowKit

/-! ### The helpers of groups -/
theorem blk3p (w : World) (a b c : Obj) : (((w.alloc a).alloc b).alloc c).heap[w.heap.size + 1 + 1]? = some c := by
  have e : ((w.alloc a).alloc b).heap.size = w.heap.size + 1 + 1 := by simp
  rw [← e, heap_alloc_new]
theorem eqv_inP {lo hi a b : Nat} {w w' : World} (h : Eqv lo hi w w') (h1 : lo ≤ a) (h2 : b ≤ hi) : Eqv a b w w' := fun k hk1 hk2 => h k (by omega) (by omega)
theorem OR.wideP {w : World} {lo hi lo' hi' : Nat} {v : Value} {xss : List (List Int)} (h : OR w lo hi v xss) (h1 : lo' ≤ lo) (h2 : hi ≤ hi') : OR w lo' hi' v xss := by
  obtain ⟨f, a, b, c, d⟩ := h
  exact ⟨f, a.wide h1 h2, fun k hk => Own.wide (b k hk) h1 h2, c, d⟩
theorem bdrewP (W : World) : Below W.heap.size W W.drew := ⟨rfl, rfl, rfl, Nat.le_refl _, fun _ _ => rfl⟩
set_option maxRecDepth 100000 in
theorem l_szPacking (w : World) (A : Option Addr) (c : Nat) (gs : List (List Int)) (left : Int) (hl : BigR gs) (h0 : 0 ≤ left) (h1 : left ≤ 1048576) (hR : RdR w A gs) :
    Calls Tryd.prog 6 #[.agg #[.slice A gs.length c], .int .i64 left] w fun e w' => e = .returned (.int .i64 (szR left (rsz gs))) ∧ Below w.heap.size w w' := by
  have hb0 := ballocw w (.cells #[.slice A gs.length c] 24)
  have C := hid (l_szInt64SSO (w.alloc (.cells #[.slice A gs.length c] 24)) A c gs left hl h0 h1 (hR.below hb0))
  have HB0 := hid hb0
  by_cases h : left < (rsz gs : Nat)
  · have e : szR left (rsz gs) = -1 := by unfold szR; rw [if_pos h]
    rw [e] at C ⊢
    clear h e hb0 hR hl
    go_enter Tryd.func6, Tryd.ntmps6
    go_wp2_with (go_at_call 20; go_loud (refine C.out.mono ?_; rintro e w1 ⟨rfl, hb1⟩))
    go_ret
    exact ⟨rfl, bthen HB0.out hb1⟩
  · have e : szR left (rsz gs) = left - (rsz gs : Nat) := by unfold szR; rw [if_neg h]
    rw [e] at C ⊢
    have hx : ¬ left - (rsz gs : Nat) < 0 := by omega
    clear h e hb0 hR hl
    generalize left - ((rsz gs : Nat) : Int) = x at *
    go_enter Tryd.func6, Tryd.ntmps6
    go_wp2_with (go_at_call 20; go_loud (refine C.out.mono ?_; rintro e w1 ⟨rfl, hb1⟩))
    go_ret
    exact ⟨rfl, bthen HB0.out hb1⟩
set_option maxRecDepth 100000 in
theorem l_eqPacking (w : World) (lo hi lo' hi' : Nat) (v v' : Value) (xs ys : List (List Int)) (hl : rsz xs ≤ 1048576) (hl' : rsz ys ≤ 1048576) (h : OR w lo hi v xs) (h' : OR w lo' hi' v' ys) (hi1 : hi ≤ w.heap.size) (hi2 : hi' ≤ w.heap.size) :
    Calls Tryd.prog 10 #[.agg #[v], .agg #[v']] w fun e w' => e = .returned (.bool (decide (xs = ys))) ∧ Below w.heap.size w w' := by
  have hb0 := ballocw w (.cells #[v] 28)
  have hb1 := bthen hb0 (ballocw (w.alloc (.cells #[v] 28)) (.cells #[v'] 28))
  have C := hid (l_eqInt64SSO ((w.alloc (.cells #[v] 28)).alloc (.cells #[v'] 28)) lo hi lo' hi' v v' xs ys hl hl' (h.eqv (Eqv.of hb1 hi1)) (h'.eqv (Eqv.of hb1 hi2)))
  have HB1 := hid hb1
  clear hb0 hb1 h h' hl hl' hi1 hi2
  generalize decide (xs = ys) = b at *
  cases b with
  | true =>
    go_enter Tryd.func10, Tryd.ntmps10
    go_wp2_with (go_at_call 28; go_loud (refine C.out.mono ?_; rintro e w1 ⟨rfl, hb1⟩))
    go_ret
    exact ⟨rfl, bthen HB1.out hb1⟩
  | false =>
    go_enter Tryd.func10, Tryd.ntmps10
    go_wp2_with (go_at_call 28; go_loud (refine C.out.mono ?_; rintro e w1 ⟨rfl, hb1⟩))
    go_ret
    exact ⟨rfl, bthen HB1.out hb1⟩
set_option maxRecDepth 100000 in
theorem l_toPackingO (w : World) (A : Option Addr) (c : Nat) (gs : List (List Int)) (hl : rsz gs ≤ 1048576) (hR : RdR w A gs) :
    Calls Tryd.prog 8 #[.agg #[.slice A gs.length c]] w fun e w' => ∃ v, e = .returned (.agg #[v]) ∧ OR w' w.heap.size w'.heap.size v gs ∧ Below w.heap.size w w' := by
  have C1 := hid (fun W (hW : Below w.heap.size w W) => l_toInt64SSO W A c gs hl (hR.below hW))
  clear hR hl
  go_enter Tryd.func8, Tryd.ntmps8
  go_wp2_with fail
  have hb0 := machine3 w (.cells #[.slice A gs.length c] 24) (.cells #[.slice none 0 0] 28) (.cells #[.slice none 0 0] 28)
  have g2 := blk0 w (.cells #[.slice A gs.length c] 24) (.cells #[.slice none 0 0] 28) (.cells #[.slice none 0 0] 28)
  have g3 := blk3p w (.cells #[.slice A gs.length c] 24) (.cells #[.slice none 0 0] 28) (.cells #[.slice none 0 0] 28)
  have hsz : (((w.alloc (.cells #[.slice A gs.length c] 24)).alloc (.cells #[.slice none 0 0] 28)).alloc (.cells #[.slice none 0 0] 28)).heap.size = w.heap.size + 3 := by simp
  generalize ((w.alloc (.cells #[.slice A gs.length c] 24)).alloc (.cells #[.slice none 0 0] 28)).alloc (.cells #[.slice none 0 0] 28) = V at *
  refine (C1.out _ hb0).mono ?_
  rintro e w1 ⟨v1, rfl, o1, b1⟩
  obtain ⟨B1, d1, rfl, _, _, _⟩ := o1.shp
  have hz1 := b1.size
  have g2a := (b1.block (w.heap.size + 1) (by omega)).trans g2
  have g3a := (b1.block (w.heap.size + 1 + 1) (by omega)).trans g3
  have hq : Eqv (w.heap.size + 3) w1.heap.size w1 ((w1.setCell ⟨w.heap.size + 1 + 1, 0, none⟩ (.slice B1 gs.length d1)).setCell ⟨w.heap.size + 1, 0, none⟩ (.slice B1 gs.length d1)) := by
    intro k h1 h2
    rw [heap_setCell_other _ _ _ _ (by show k ≠ w.heap.size + 1; omega), heap_setCell_other _ _ _ _ (by show k ≠ w.heap.size + 1 + 1; omega)]
  have O1 := hid (OR.wideP (OR.eqv o1 (eqv_inP hq (by omega) (Nat.le_refl _))) (show w.heap.size ≤ V.heap.size by omega) (Nat.le_refl _))
  have BW := hid (bthen hb0 b1)
  have f1 : w1.frozen? ⟨w.heap.size + 1 + 1, 0, none⟩ = false := frozen_of_row _ _ _ _ _ g3a
  have f2 : w1.frozen? ⟨w.heap.size + 1, 0, none⟩ = false := frozen_of_row _ _ _ _ _ g2a
  have e1 : w1.cell? ⟨w.heap.size + 1 + 1, 0, none⟩ = some (.slice none 0 0) := by rw [cell_of_row _ _ _ _ _ _ g3a]; rfl
  have e2 : w1.cell? ⟨w.heap.size + 1, 0, none⟩ = some (.slice none 0 0) := by rw [cell_of_row _ _ _ _ _ _ g2a]; rfl
  have G2 := hid g2a
  have HZ := hid hz1
  have HZ3 := hid hsz
  clear b1 o1 g2 g3 g2a g3a hb0 hq hz1 hsz C1
  go_wp2_with fail
  have h2 : (w1.setCell ⟨w.heap.size + 1 + 1, 0, none⟩ (.slice B1 gs.length d1)).heap[w.heap.size + 1]? = some (.cells #[.slice none 0 0] 28) :=
    (heap_setCell_other _ _ _ _ (by show w.heap.size + 1 ≠ w.heap.size + 1 + 1; omega)).trans G2.out
  have h3 := heap_setCell_same _ _ 0 _ _ (.slice B1 gs.length d1) h2
  refine bodyPost_ret (results_cell_row rfl _ _ (w.heap.size + 1) 28 #[.slice B1 gs.length d1] (0, 0) _ rfl h3 Tryd.underlying28 rfl (by kernel_rfl)) rfl ?_
  refine ⟨_, rfl, ?_, ?_⟩
  · have := O1.out
    have e : ((w1.setCell ⟨w.heap.size + 1 + 1, 0, none⟩ (.slice B1 gs.length d1)).setCell ⟨w.heap.size + 1, 0, none⟩ (.slice B1 gs.length d1)).heap.size = w1.heap.size := by simp [World.setCell]
    rw [e]; exact this
  · exact bset (bset BW.out (by show _ ≤ w.heap.size + 1 + 1; omega) _) (by show _ ≤ w.heap.size + 1; omega) _
end Go.Proofs.YtmpdaafkphpnoaaDoor
