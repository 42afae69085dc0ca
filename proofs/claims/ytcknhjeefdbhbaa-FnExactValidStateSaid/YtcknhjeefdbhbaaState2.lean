import Derived.Test.YtcknhjeefdbhbaaState
set_option linter.unusedVariables false
set_option linter.unusedSimpArgs false
namespace Go.Proofs.Ytcknhjeefdbhbaa
open Go.RowKit

theorem blk3s (w : World) (a b c : Obj) : (((w.alloc a).alloc b).alloc c).heap[w.heap.size + 1 + 1]? = some c := by
  have e : ((w.alloc a).alloc b).heap.size = w.heap.size + 1 + 1 := by simp
  rw [← e, heap_alloc_new]
set_option maxRecDepth 100000 in
theorem l_toStateO (w : World) (A1 : Option Addr) (c1 : Nat) (A2 : Option Addr) (c2 : Nat) (A3 : Option Addr) (c3 : Nat) (s : StV) (hl : ssz s ≤ 1048576) (hR : RdS w A1 A2 A3 s) :
    Calls Try.prog 18 #[stv A1 s.vec.length c1 A2 s.msk.length c2 A3 s.mem.length c3] w fun e w' => ∃ v, e = .returned v ∧ OS w' w.heap.size w'.heap.size v s ∧ Below w.heap.size w w' := by
  have C1 := hid (fun W (hW : Below w.heap.size w W) => l_toInt64SSO W A1 c1 s.vec (by unfold ssz at hl; omega) (hR.vec.below hW))
  have C2 := hid (fun W (hW : Below w.heap.size w W) => l_toInt64SSO W A2 c2 s.msk (by unfold ssz at hl; omega) (hR.msk.below hW))
  have C3 := hid (fun W (hW : Below w.heap.size w W) => l_toInt64SO W A3 c3 s.mem (by unfold ssz at hl; omega) (hR.mem.below hW))
  clear hR hl
  go_enter Try.func18, Try.ntmps18
  go_wp2_with fail
  have hb0 := machine3 w (.cells #[.slice A1 s.vec.length c1, .slice A2 s.msk.length c2, .slice A3 s.mem.length c3] 27) (.cells #[.slice none 0 0, .slice none 0 0, .slice none 0 0] 32) (.cells #[.slice none 0 0, .slice none 0 0, .slice none 0 0] 32)
  have g1 : (((w.alloc (.cells #[.slice A1 s.vec.length c1, .slice A2 s.msk.length c2, .slice A3 s.mem.length c3] 27)).alloc (.cells #[.slice none 0 0, .slice none 0 0, .slice none 0 0] 32)).alloc (.cells #[.slice none 0 0, .slice none 0 0, .slice none 0 0] 32)).heap[w.heap.size]? = some (.cells #[.slice A1 s.vec.length c1, .slice A2 s.msk.length c2, .slice A3 s.mem.length c3] 27) :=
    (heap_alloc_old _ _ (by simp; omega)).trans ((heap_alloc_old _ _ (by simp)).trans (box_at _ _ _))
  have g2 := blk0 w (.cells #[.slice A1 s.vec.length c1, .slice A2 s.msk.length c2, .slice A3 s.mem.length c3] 27) (.cells #[.slice none 0 0, .slice none 0 0, .slice none 0 0] 32) (.cells #[.slice none 0 0, .slice none 0 0, .slice none 0 0] 32)
  have g3 := blk3s w (.cells #[.slice A1 s.vec.length c1, .slice A2 s.msk.length c2, .slice A3 s.mem.length c3] 27) (.cells #[.slice none 0 0, .slice none 0 0, .slice none 0 0] 32) (.cells #[.slice none 0 0, .slice none 0 0, .slice none 0 0] 32)
  have hsz : (((w.alloc (.cells #[.slice A1 s.vec.length c1, .slice A2 s.msk.length c2, .slice A3 s.mem.length c3] 27)).alloc (.cells #[.slice none 0 0, .slice none 0 0, .slice none 0 0] 32)).alloc (.cells #[.slice none 0 0, .slice none 0 0, .slice none 0 0] 32)).heap.size = w.heap.size + 3 := by simp
  generalize ((w.alloc (.cells #[.slice A1 s.vec.length c1, .slice A2 s.msk.length c2, .slice A3 s.mem.length c3] 27)).alloc (.cells #[.slice none 0 0, .slice none 0 0, .slice none 0 0] 32)).alloc (.cells #[.slice none 0 0, .slice none 0 0, .slice none 0 0] 32) = V at *
  refine (C1.out _ hb0).mono ?_
  rintro e w1 ⟨v1, rfl, o1, b1⟩
  obtain ⟨B1, d1, rfl, _, _, _⟩ := o1.shp
  have hz1 := b1.size
  have g1a := (b1.block w.heap.size (by omega)).trans g1
  have g2a := (b1.block (w.heap.size + 1) (by omega)).trans g2
  have g3a := (b1.block (w.heap.size + 1 + 1) (by omega)).trans g3
  have O1 := hid o1
  have B1' := hid (bset (bthen hb0 b1) (p := ⟨w.heap.size + 1 + 1, 0, none⟩) (by show _ ≤ w.heap.size + 1 + 1; omega) (.slice B1 s.vec.length d1))
  have hu1 : (w1.setCell ⟨w.heap.size + 1 + 1, 0, none⟩ (.slice B1 s.vec.length d1)).heap.size = w1.heap.size := by simp [World.setCell]
  have g1b := (heap_setCell_other w1 ⟨w.heap.size + 1 + 1, 0, none⟩ w.heap.size (.slice B1 s.vec.length d1) (by show w.heap.size ≠ w.heap.size + 1 + 1; omega)).trans g1a
  have g2b := (heap_setCell_other w1 ⟨w.heap.size + 1 + 1, 0, none⟩ (w.heap.size + 1) (.slice B1 s.vec.length d1) (by show w.heap.size + 1 ≠ w.heap.size + 1 + 1; omega)).trans g2a
  have g3b := heap_setCell_same w1 _ 0 _ _ (.slice B1 s.vec.length d1) g3a
  have O1b := hid (OR.eqv o1 (w' := w1.setCell ⟨w.heap.size + 1 + 1, 0, none⟩ (.slice B1 s.vec.length d1)) (fun k h1 h2 => heap_setCell_other _ _ _ _ (by show k ≠ w.heap.size + 1 + 1; omega)))
  have x0 : w1.cell? ⟨w.heap.size + 1 + 1, 0, none⟩ = some (.slice none 0 0) := by rw [cell_of_row _ _ _ _ _ _ g3a]; rfl
  have x1 : w1.frozen? ⟨w.heap.size + 1 + 1, 0, none⟩ = false := frozen_of_row _ _ _ _ _ g3a
  have x2 : (w1.setCell ⟨w.heap.size + 1 + 1, 0, none⟩ (.slice B1 s.vec.length d1)).cell? ⟨w.heap.size, 1, none⟩ = some (.slice A2 s.msk.length c2) := by rw [cell_of_row _ _ _ _ _ _ g1b]; rfl
  clear b1 o1 O1 g1 g2 g3 g1a g2a g3a hb0
  go_wp2_with fail
  clear x0 x1 x2
  generalize w1.setCell ⟨w.heap.size + 1 + 1, 0, none⟩ (.slice B1 s.vec.length d1) = U1 at *
  refine (C2.out _ B1'.out).mono ?_
  rintro e w2 ⟨v2, rfl, o2, b2⟩
  obtain ⟨B2, d2, rfl, _, _, _⟩ := o2.shp
  have hz2 := b2.size
  have g1c := (b2.block w.heap.size (by omega)).trans g1b
  have g2c := (b2.block (w.heap.size + 1) (by omega)).trans g2b
  have g3c := (b2.block (w.heap.size + 1 + 1) (by omega)).trans g3b
  have B2' := hid (bset (bthen B1'.out b2) (p := ⟨w.heap.size + 1 + 1, 1, none⟩) (by show _ ≤ w.heap.size + 1 + 1; omega) (.slice B2 s.msk.length d2))
  have hu2 : (w2.setCell ⟨w.heap.size + 1 + 1, 1, none⟩ (.slice B2 s.msk.length d2)).heap.size = w2.heap.size := by simp [World.setCell]
  have g1d := (heap_setCell_other w2 ⟨w.heap.size + 1 + 1, 1, none⟩ w.heap.size (.slice B2 s.msk.length d2) (by show w.heap.size ≠ w.heap.size + 1 + 1; omega)).trans g1c
  have g2d := (heap_setCell_other w2 ⟨w.heap.size + 1 + 1, 1, none⟩ (w.heap.size + 1) (.slice B2 s.msk.length d2) (by show w.heap.size + 1 ≠ w.heap.size + 1 + 1; omega)).trans g2c
  have g3d := heap_setCell_same w2 _ 1 _ _ (.slice B2 s.msk.length d2) g3c
  have hq2 : Eqv (w.heap.size + 3) w2.heap.size w2 (w2.setCell ⟨w.heap.size + 1 + 1, 1, none⟩ (.slice B2 s.msk.length d2)) := fun k h1 h2 => heap_setCell_other _ _ _ _ (by show k ≠ w.heap.size + 1 + 1; omega)
  have O1c := hid ((O1b.out.eqv (Eqv.of b2 (by omega))).eqv (eqv_in hq2 (by omega) (by omega)))
  have O2c := hid (OR.eqv o2 (eqv_in hq2 (by omega) (by omega)))
  have x0 : w2.cell? ⟨w.heap.size + 1 + 1, 1, none⟩ = some (.slice none 0 0) := by rw [cell_of_row _ _ _ _ _ _ g3c]; rfl
  have x1 : w2.frozen? ⟨w.heap.size + 1 + 1, 1, none⟩ = false := frozen_of_row _ _ _ _ _ g3c
  have x2 : (w2.setCell ⟨w.heap.size + 1 + 1, 1, none⟩ (.slice B2 s.msk.length d2)).cell? ⟨w.heap.size, 2, none⟩ = some (.slice A3 s.mem.length c3) := by rw [cell_of_row _ _ _ _ _ _ g1d]; rfl
  clear b2 o2 O1b g1b g2b g3b g1c g2c g3c hq2 B1'
  go_wp2_with fail
  clear x0 x1 x2
  generalize w2.setCell ⟨w.heap.size + 1 + 1, 1, none⟩ (.slice B2 s.msk.length d2) = U2 at *
  refine (C3.out _ B2'.out).mono ?_
  rintro e w3 ⟨v3, rfl, o3, b3⟩
  obtain ⟨B3, d3, rfl, _, _, _⟩ := o3.shp
  have hz3 := b3.size
  have g2e := (b3.block (w.heap.size + 1) (by omega)).trans g2d
  have g3e := (b3.block (w.heap.size + 1 + 1) (by omega)).trans g3d
  have hq3 : Eqv (w.heap.size + 3) w3.heap.size w3 ((((w3.setCell ⟨w.heap.size + 1 + 1, 2, none⟩ (.slice B3 s.mem.length d3)).setCell ⟨w.heap.size + 1, 0, none⟩ (.slice B1 s.vec.length d1)).setCell ⟨w.heap.size + 1, 1, none⟩ (.slice B2 s.msk.length d2)).setCell ⟨w.heap.size + 1, 2, none⟩ (.slice B3 s.mem.length d3)) := by
    intro k h1 h2
    rw [heap_setCell_other _ _ _ _ (by show k ≠ w.heap.size + 1; omega), heap_setCell_other _ _ _ _ (by show k ≠ w.heap.size + 1; omega), heap_setCell_other _ _ _ _ (by show k ≠ w.heap.size + 1; omega), heap_setCell_other _ _ _ _ (by show k ≠ w.heap.size + 1 + 1; omega)]
  have O1d := hid ((O1c.out.eqv (Eqv.of b3 (by omega))).eqv (eqv_in hq3 (by omega) (by omega)))
  have O2d := hid ((O2c.out.eqv (Eqv.of b3 (by omega))).eqv (eqv_in hq3 (by omega) (by omega)))
  have O3d := hid (OI.eqv o3 (eqv_in hq3 (by omega) (by omega)))
  have BW := hid (bthen B2'.out b3)
  have f1 : w3.frozen? ⟨w.heap.size + 1 + 1, 2, none⟩ = false := frozen_of_row _ _ _ _ _ g3e
  have f2 : w3.frozen? ⟨w.heap.size + 1, 0, none⟩ = false := frozen_of_row _ _ _ _ _ g2e
  have f3 : w3.frozen? ⟨w.heap.size + 1, 1, none⟩ = false := frozen_of_row _ _ _ _ _ g2e
  have f4 : w3.frozen? ⟨w.heap.size + 1, 2, none⟩ = false := frozen_of_row _ _ _ _ _ g2e
  have e1 : w3.cell? ⟨w.heap.size + 1 + 1, 0, none⟩ = some (.slice B1 s.vec.length d1) := by rw [cell_of_row _ _ _ _ _ _ g3e]; rfl
  have e2 : w3.cell? ⟨w.heap.size + 1 + 1, 1, none⟩ = some (.slice B2 s.msk.length d2) := by rw [cell_of_row _ _ _ _ _ _ g3e]; rfl
  have e3 : w3.cell? ⟨w.heap.size + 1 + 1, 2, none⟩ = some (.slice none 0 0) := by rw [cell_of_row _ _ _ _ _ _ g3e]; rfl
  have e4 : w3.cell? ⟨w.heap.size + 1, 0, none⟩ = some (.slice none 0 0) := by rw [cell_of_row _ _ _ _ _ _ g2e]; rfl
  have e5 : w3.cell? ⟨w.heap.size + 1, 1, none⟩ = some (.slice none 0 0) := by rw [cell_of_row _ _ _ _ _ _ g2e]; rfl
  have e6 : w3.cell? ⟨w.heap.size + 1, 2, none⟩ = some (.slice none 0 0) := by rw [cell_of_row _ _ _ _ _ _ g2e]; rfl
  have G2 := hid g2e
  clear b3 o3 O1c O2c g1d g2d g3d g2e g3e hq3 B2'
  have HZ : Hid (w.heap.size + 3 ≤ w1.heap.size ∧ w1.heap.size ≤ w2.heap.size ∧ w2.heap.size ≤ w3.heap.size ∧ V.heap.size = w.heap.size + 3 ∧ U1.heap.size = w1.heap.size ∧ U2.heap.size = w2.heap.size) := hid (by omega)
  clear hz1 hz2 hz3 hsz hu1 hu2
  go_wp2_with fail
  obtain ⟨z1, z2, z3, z4, z5, z6⟩ := HZ.out
  have h2 : (w3.setCell ⟨w.heap.size + 1 + 1, 2, none⟩ (.slice B3 s.mem.length d3)).heap[w.heap.size + 1]? = some (.cells #[.slice none 0 0, .slice none 0 0, .slice none 0 0] 32) :=
    (heap_setCell_other _ _ _ _ (by show w.heap.size + 1 ≠ w.heap.size + 1 + 1; omega)).trans G2.out
  have h3 := heap_setCell_same _ _ 0 _ _ (.slice B1 s.vec.length d1) h2
  have h4 := heap_setCell_same _ _ 1 _ _ (.slice B2 s.msk.length d2) h3
  have h5 := heap_setCell_same _ _ 2 _ _ (.slice B3 s.mem.length d3) h4
  refine bodyPost_ret (results_cell_row rfl _ _ (w.heap.size + 1) 32 #[.slice B1 s.vec.length d1, .slice B2 s.msk.length d2, .slice B3 s.mem.length d3] (0, 0) _ rfl h5 Try.underlying32 rfl (by kernel_rfl)) rfl ?_
  refine ⟨_, rfl, ⟨_, _, _, V.heap.size, w1.heap.size, U1.heap.size, w2.heap.size, U2.heap.size, w3.heap.size, rfl, O1d.out, O2d.out, O3d.out, by simp only [World.setCell, Array.size_modify]; omega, by omega, by omega, by omega⟩, ?_⟩
  exact bset (bset (bset (bset BW.out (by show _ ≤ w.heap.size + 1 + 1; omega) _) (by show _ ≤ w.heap.size + 1; omega) _) (by show _ ≤ w.heap.size + 1; omega) _) (by show _ ≤ w.heap.size + 1; omega) _
def mkS (m : Int) (s : StV) : StV := ⟨mkR m s.vec, mkR (m + rtot s.vec s.vec.length) s.msk, marks (m + rtot s.vec s.vec.length + rtot s.msk s.msk.length) s.mem.length⟩
def stot (s : StV) : Nat := rtot s.vec s.vec.length + rtot s.msk s.msk.length + s.mem.length
theorem stot_le (s : StV) : rtot s.vec s.vec.length ≤ rsz s.vec ∧ rtot s.msk s.msk.length ≤ rsz s.msk := by unfold rsz; omega
theorem l_markStateO (w : World) (lo hi : Nat) (v : Value) (s : StV) (m : Int) (h0 : 0 ≤ m) (h1 : m + ssz s ≤ 9223372036854775807) (hhi : hi ≤ w.heap.size) (hO : OS w lo hi v s) :
    Calls Try.prog 26 #[v, .int .i64 m] w fun e w' => e = .returned (.int .i64 (m + stot s)) ∧ OS w' lo hi v (mkS m s) ∧ Chg lo hi w w' := by
  obtain ⟨v1, v2, v3, a1, b1, a2, b2, a3, b3, rfl, o1, o2, o3, hb, hd1, hd2, hd3⟩ := hO
  obtain ⟨A1, c1, rfl, _, _, _⟩ := o1.shp
  obtain ⟨A2, c2, rfl, _, _, _⟩ := o2.shp
  obtain ⟨A3, c3, rfl, _, _, _⟩ := o3.shp
  have hst := stot_le s
  have hm1 : m + rsz s.vec ≤ 9223372036854775807 := by unfold ssz at h1; omega
  have hm2 : m + rtot s.vec s.vec.length + rsz s.msk ≤ 9223372036854775807 := by unfold ssz at h1; omega
  have hm3 : m + rtot s.vec s.vec.length + rtot s.msk s.msk.length + s.mem.length ≤ 9223372036854775807 := by unfold ssz at h1; omega
  have hb0 := ballocw w (.cells #[.slice A1 s.vec.length c1, .slice A2 s.msk.length c2, .slice A3 s.mem.length c3] 32)
  have hc0 : Chg lo hi w (w.alloc (.cells #[.slice A1 s.vec.length c1, .slice A2 s.msk.length c2, .slice A3 s.mem.length c3] 32)) := Chg.of hb0 (Nat.le_refl _)
  have g0 := box_at w #[.slice A1 s.vec.length c1, .slice A2 s.msk.length c2, .slice A3 s.mem.length c3] 32
  have hz0 : (w.alloc (.cells #[.slice A1 s.vec.length c1, .slice A2 s.msk.length c2, .slice A3 s.mem.length c3] 32)).heap.size = w.heap.size + 1 := by simp
  have q1 := o1.eqv (Eqv.of hb0 (by omega))
  have q2 := o2.eqv (Eqv.of hb0 (by omega))
  have q3 := OI.eqv o3 (Eqv.of hb0 (by omega))
  have C1 := hid (l_markInt64SSO _ a1 b1 _ s.vec m h0 hm1 q1)
  have Q2 := hid q2
  have Q3 := hid q3
  have HC0 := hid hc0
  have G0 := hid g0
  have HE : Hid (m + rtot s.vec s.vec.length + rtot s.msk s.msk.length + s.mem.length = m + stot s) := hid (by unfold stot; omega)
  clear o1 o2 o3 q1 q2 q3 hb0 hc0 g0 h1
  go_enter Try.func26, Try.ntmps26
  go_wp2_with fail
  generalize w.alloc (.cells #[.slice A1 s.vec.length c1, .slice A2 s.msk.length c2, .slice A3 s.mem.length c3] 32) = V at *
  refine C1.out.mono ?_
  rintro e w1 ⟨rfl, r1, k1⟩
  have hz1 := k1.size
  have g1 := (k1.block w.heap.size (by omega) (by omega)).trans G0.out
  have p2 := Q2.out.eqv (k1.eqv (by omega) (by omega))
  have p3 := OI.eqv Q3.out (k1.eqv (by omega) (by omega))
  have C2 := hid (l_markInt64SSO _ a2 b2 _ s.msk (m + rtot s.vec s.vec.length) (by omega) hm2 p2)
  have d1 : w1.cell? ⟨w.heap.size, 1, none⟩ = some (.slice A2 s.msk.length c2) := by rw [cell_of_row _ _ _ _ _ _ g1]; rfl
  have P3 := hid p3
  have R1 := hid r1
  have K1 := hid (HC0.out.trans (k1.wide (lo' := lo) (hi' := hi) (by omega) (by omega)))
  have G1 := hid g1
  clear p2 p3 r1 k1 g1 C1 Q2 Q3 HC0 G0
  go_wp2_with fail
  refine C2.out.mono ?_
  rintro e w2 ⟨rfl, r2, k2⟩
  have hz2 := k2.size
  have g2 := (k2.block w.heap.size (by omega) (by omega)).trans G1.out
  have p3 := OI.eqv P3.out (k2.eqv (by omega) (by omega))
  have R1' := hid (R1.out.eqv (k2.eqv (by omega) (by omega)))
  have C3 := hid (l_markInt64SO _ a3 b3 _ s.mem (m + rtot s.vec s.vec.length + rtot s.msk s.msk.length) (by omega) hm3 p3)
  have d2 : w2.cell? ⟨w.heap.size, 2, none⟩ = some (.slice A3 s.mem.length c3) := by rw [cell_of_row _ _ _ _ _ _ g2]; rfl
  have R2 := hid r2
  have K2 := hid (K1.out.trans (k2.wide (lo' := lo) (hi' := hi) (by omega) (by omega)))
  clear p3 r2 k2 g2 d1 C2 P3 R1 K1 G1
  go_wp2_with fail
  refine C3.out.mono ?_
  rintro e w3 ⟨rfl, r3, k3⟩
  have hz3 := k3.size
  have R1'' := hid (R1'.out.eqv (k3.eqv (by omega) (by omega)))
  have R2' := hid (R2.out.eqv (k3.eqv (by omega) (by omega)))
  have R3 := hid r3
  have K3 := hid (K2.out.trans (k3.wide (lo' := lo) (hi' := hi) (by omega) (by omega)))
  clear r3 k3 C3 R1' R2 K2 d2
  go_wp2_with fail
  go_ret
  refine ⟨ret_i HE.out, ⟨_, _, _, a1, b1, a2, b2, a3, b3, rfl, ?_, ?_, ?_, hb, hd1, hd2, hd3⟩, K3.out⟩
  · exact R1''.out
  · exact R2'.out
  · exact R3.out
theorem l_heldStateM (w : World) (lo hi : Nat) (v : Value) (s : StV) (hn : ssz s ≤ 4611686018427387904) (hO : OS w lo hi v (mkS 1 s)) :
    Calls Try.prog 27 #[v, .int .i64 1] w fun e w' => e = .returned (.int .i64 (1 + stot s)) ∧ Below w.heap.size w w' := by
  obtain ⟨A1, c1, A2, c2, A3, c3, rfl, hr⟩ := hO.shp
  have hst := stot_le s
  have hm1 : (1 : Int) + rsz s.vec ≤ 9223372036854775807 := by unfold ssz at hn; omega
  have hm2 : (1 : Int) + rtot s.vec s.vec.length + rsz s.msk ≤ 9223372036854775807 := by unfold ssz at hn; omega
  have hm3 : (1 : Int) + rtot s.vec s.vec.length + rtot s.msk s.msk.length + s.mem.length ≤ 9223372036854775807 := by unfold ssz at hn; omega
  have hl1 : (mkS 1 s).vec.length = s.vec.length := mkR_length _ _
  have hl2 : (mkS 1 s).msk.length = s.msk.length := mkR_length _ _
  have hl3 : (mkS 1 s).mem.length = s.mem.length := marks_length _ _
  have h3 : RdI w A3 (marks (1 + rtot s.vec s.vec.length + rtot s.msk s.msk.length) s.mem.length) := hr.mem
  rw [hl1, hl2, hl3]
  have hb0 := ballocw w (.cells #[.slice A1 s.vec.length c1, .slice A2 s.msk.length c2, .slice A3 s.mem.length c3] 32)
  have g0 := box_at w #[.slice A1 s.vec.length c1, .slice A2 s.msk.length c2, .slice A3 s.mem.length c3] 32
  have D1 : Hid ((w.alloc (.cells #[.slice A1 s.vec.length c1, .slice A2 s.msk.length c2, .slice A3 s.mem.length c3] 32)).cell? ⟨w.heap.size, 1, none⟩ = some (.slice A2 s.msk.length c2)) := hid (by rw [cell_of_row _ _ _ _ _ _ g0]; rfl)
  have D2 : Hid ((w.alloc (.cells #[.slice A1 s.vec.length c1, .slice A2 s.msk.length c2, .slice A3 s.mem.length c3] 32)).cell? ⟨w.heap.size, 2, none⟩ = some (.slice A3 s.mem.length c3)) := hid (by rw [cell_of_row _ _ _ _ _ _ g0]; rfl)
  have C1 := hid (fun W (hW : Below w.heap.size w W) => l_heldInt64SSR W A1 c1 s.vec 1 (by omega) hm1 (hr.vec.below hW))
  have C2 := hid (fun W (hW : Below w.heap.size w W) => l_heldInt64SSR W A2 c2 s.msk (1 + rtot s.vec s.vec.length) (by omega) hm2 (hr.msk.below hW))
  have C3 := hid (fun W (hW : Below w.heap.size w W) => by
    have h := l_heldInt64S W A3 c3 (marks (1 + rtot s.vec s.vec.length + rtot s.msk s.msk.length) s.mem.length) (1 + rtot s.vec s.vec.length + rtot s.msk s.msk.length) (by omega) (by rw [marks_length]; exact hm3) (h3.below hW)
    have hm := held_marks (1 + rtot s.vec s.vec.length) s.mem.length (rtot s.msk s.msk.length)
    rw [hm, marks_length] at h
    exact h)
  have HB0 := hid hb0
  have HE : Hid ((1 : Int) + rtot s.vec s.vec.length + rtot s.msk s.msk.length + s.mem.length = 1 + stot s) := hid (by unfold stot; omega)
  clear hr h3 hst hm1 hm2 hm3 hl1 hl2 hl3 g0 hb0 hO hn
  generalize rtot s.vec s.vec.length = t1 at *
  generalize rtot s.msk s.msk.length = t2 at *
  have hp1 : ¬ ((1 : Int) + t1 < 0) := by omega
  have hp2 : ¬ ((1 : Int) + t1 + t2 < 0) := by omega
  have hp3 : ¬ ((1 : Int) + t1 + t2 + s.mem.length < 0) := by omega
  go_enter Try.func27, Try.ntmps27
  go_wp2_with fail
  refine (C1.out _ HB0.out).mono ?_
  rintro e w1 ⟨rfl, hb1⟩
  have d1 := bcell hb1 D1.out
  have D2' := hid (bcell hb1 D2.out)
  have HB1 := hid (bthen HB0.out hb1)
  clear hb1
  go_wp2_with fail
  refine (C2.out _ HB1.out).mono ?_
  rintro e w2 ⟨rfl, hb2⟩
  have d2 := bcell hb2 D2'.out
  have HB2 := hid (bthen HB1.out hb2)
  clear hb2 d1
  go_wp2_with fail
  refine (C3.out _ HB2.out).mono ?_
  rintro e w3 ⟨rfl, hb3⟩
  go_wp2_with fail
  go_ret
  exact ⟨ret_i HE.out, bthen HB2.out hb3⟩
end Go.Proofs.Ytcknhjeefdbhbaa
