import Derived.Test.YtolcmehndambmaaState
set_option linter.unusedVariables false
set_option linter.unusedSimpArgs false
namespace Go.Proofs.Ytolcmehndambmaa
open Go.RowKit

theorem blk3s (w : World) (a b c : Obj) : (((w.alloc a).alloc b).alloc c).heap[w.heap.size + 1 + 1]? = some c := by
  have e : ((w.alloc a).alloc b).heap.size = w.heap.size + 1 + 1 := by simp
  rw [← e, heap_alloc_new]
def mkS (m : Int) (s : StV) : StV := ⟨mkR m s.vec, mkR (m + rtot s.vec s.vec.length) s.msk, marks (m + rtot s.vec s.vec.length + rtot s.msk s.msk.length) s.mem.length⟩
def stot (s : StV) : Nat := rtot s.vec s.vec.length + rtot s.msk s.msk.length + s.mem.length
theorem stot_le (s : StV) : rtot s.vec s.vec.length ≤ rsz s.vec ∧ rtot s.msk s.msk.length ≤ rsz s.msk := by unfold rsz; omega
theorem l_markStateO (w : World) (lo hi : Nat) (v : Value) (s : StV) (m : Int) (h0 : 0 ≤ m) (h1 : m + ssz s ≤ 9223372036854775807) (hhi : hi ≤ w.heap.size) (hO : OS w lo hi v s) :
    Calls Try.prog 48 #[v, .int .i64 m] w fun e w' => e = .returned (.int .i64 (m + stot s)) ∧ OS w' lo hi v (mkS m s) ∧ Chg lo hi w w' := by
  obtain ⟨v1, v2, v3, a1, b1, a2, b2, a3, b3, rfl, o1, o2, o3, hb, hd1, hd2, hd3⟩ := hO
  obtain ⟨A1, c1, rfl, _, _, _⟩ := o1.shp
  obtain ⟨A2, c2, rfl, _, _, _⟩ := o2.shp
  obtain ⟨A3, c3, rfl, _, _, _⟩ := o3.shp
  have hst := stot_le s
  have hm1 : m + rsz s.vec ≤ 9223372036854775807 := by unfold ssz at h1; omega
  have hm2 : m + rtot s.vec s.vec.length + rsz s.msk ≤ 9223372036854775807 := by unfold ssz at h1; omega
  have hm3 : m + rtot s.vec s.vec.length + rtot s.msk s.msk.length + s.mem.length ≤ 9223372036854775807 := by unfold ssz at h1; omega
  have hb0 := ballocw w (.cells #[.slice A1 s.vec.length c1, .slice A2 s.msk.length c2, .slice A3 s.mem.length c3] 62)
  have hc0 : Chg lo hi w (w.alloc (.cells #[.slice A1 s.vec.length c1, .slice A2 s.msk.length c2, .slice A3 s.mem.length c3] 62)) := Chg.of hb0 (Nat.le_refl _)
  have g0 := box_at w #[.slice A1 s.vec.length c1, .slice A2 s.msk.length c2, .slice A3 s.mem.length c3] 62
  have hz0 : (w.alloc (.cells #[.slice A1 s.vec.length c1, .slice A2 s.msk.length c2, .slice A3 s.mem.length c3] 62)).heap.size = w.heap.size + 1 := by simp
  have q1 := o1.eqv (Eqv.of hb0 (by omega))
  have q2 := o2.eqv (Eqv.of hb0 (by omega))
  have q3 := OI.eqv o3 (Eqv.of hb0 (by omega))
  have C1 := hid (l_markInt64SSO _ a1 b1 _ s.vec m h0 hm1 q1)
  have Q2 := hid q2
  have Q3 := hid q3
  have HC0 := hid hc0
  have G0 := hid g0
  have HE : Hid (m + rtot s.vec s.vec.length + rtot s.msk s.msk.length + s.mem.length = m + stot s) := hid (by unfold stot; omega)
  clear o1 o2 o3 q1 q2 q3 hb0 hc0 g0 h1
  go_enter Try.func48, Try.ntmps48
  go_wp2_with fail
  generalize w.alloc (.cells #[.slice A1 s.vec.length c1, .slice A2 s.msk.length c2, .slice A3 s.mem.length c3] 62) = V at *
  refine C1.out.mono ?_
  rintro e w1 ⟨rfl, r1, k1⟩
  have hz1 := k1.size
  have g1 := (k1.block w.heap.size (by omega) (by omega)).trans G0.out
  have p2 := Q2.out.eqv (k1.eqv (by omega) (by omega))
  have p3 := OI.eqv Q3.out (k1.eqv (by omega) (by omega))
  have C2 := hid (l_markInt64SSO _ a2 b2 _ s.msk (m + rtot s.vec s.vec.length) (by omega) hm2 p2)
  have d1 : w1.cell? ⟨w.heap.size, 1, none⟩ = some (.slice A2 s.msk.length c2) := by rw [cell_of_row _ _ _ _ _ _ g1]; rfl
  have P3 := hid p3
  have R1 := hid r1
  have K1 := hid (HC0.out.trans (k1.wide (lo' := lo) (hi' := hi) (by omega) (by omega)))
  have G1 := hid g1
  clear p2 p3 r1 k1 g1 C1 Q2 Q3 HC0 G0
  go_wp2_with fail
  refine C2.out.mono ?_
  rintro e w2 ⟨rfl, r2, k2⟩
  have hz2 := k2.size
  have g2 := (k2.block w.heap.size (by omega) (by omega)).trans G1.out
  have p3 := OI.eqv P3.out (k2.eqv (by omega) (by omega))
  have R1' := hid (R1.out.eqv (k2.eqv (by omega) (by omega)))
  have C3 := hid (l_markInt64SO _ a3 b3 _ s.mem (m + rtot s.vec s.vec.length + rtot s.msk s.msk.length) (by omega) hm3 p3)
  have d2 : w2.cell? ⟨w.heap.size, 2, none⟩ = some (.slice A3 s.mem.length c3) := by rw [cell_of_row _ _ _ _ _ _ g2]; rfl
  have R2 := hid r2
  have K2 := hid (K1.out.trans (k2.wide (lo' := lo) (hi' := hi) (by omega) (by omega)))
  clear p3 r2 k2 g2 d1 C2 P3 R1 K1 G1
  go_wp2_with fail
  refine C3.out.mono ?_
  rintro e w3 ⟨rfl, r3, k3⟩
  have hz3 := k3.size
  have R1'' := hid (R1'.out.eqv (k3.eqv (by omega) (by omega)))
  have R2' := hid (R2.out.eqv (k3.eqv (by omega) (by omega)))
  have R3 := hid r3
  have K3 := hid (K2.out.trans (k3.wide (lo' := lo) (hi' := hi) (by omega) (by omega)))
  clear r3 k3 C3 R1' R2 K2 d2
  go_wp2_with fail
  go_ret
  refine ⟨ret_i HE.out, ⟨_, _, _, a1, b1, a2, b2, a3, b3, rfl, ?_, ?_, ?_, hb, hd1, hd2, hd3⟩, K3.out⟩
  · exact R1''.out
  · exact R2'.out
  · exact R3.out
theorem l_heldStateM (w : World) (lo hi : Nat) (v : Value) (s : StV) (hn : ssz s ≤ 4611686018427387904) (hO : OS w lo hi v (mkS 1 s)) :
    Calls Try.prog 49 #[v, .int .i64 1] w fun e w' => e = .returned (.int .i64 (1 + stot s)) ∧ Below w.heap.size w w' := by
  obtain ⟨A1, c1, A2, c2, A3, c3, rfl, hr⟩ := hO.shp
  have hst := stot_le s
  have hm1 : (1 : Int) + rsz s.vec ≤ 9223372036854775807 := by unfold ssz at hn; omega
  have hm2 : (1 : Int) + rtot s.vec s.vec.length + rsz s.msk ≤ 9223372036854775807 := by unfold ssz at hn; omega
  have hm3 : (1 : Int) + rtot s.vec s.vec.length + rtot s.msk s.msk.length + s.mem.length ≤ 9223372036854775807 := by unfold ssz at hn; omega
  have hl1 : (mkS 1 s).vec.length = s.vec.length := mkR_length _ _
  have hl2 : (mkS 1 s).msk.length = s.msk.length := mkR_length _ _
  have hl3 : (mkS 1 s).mem.length = s.mem.length := marks_length _ _
  have h3 : RdI w A3 (marks (1 + rtot s.vec s.vec.length + rtot s.msk s.msk.length) s.mem.length) := hr.mem
  rw [hl1, hl2, hl3]
  have hb0 := ballocw w (.cells #[.slice A1 s.vec.length c1, .slice A2 s.msk.length c2, .slice A3 s.mem.length c3] 62)
  have g0 := box_at w #[.slice A1 s.vec.length c1, .slice A2 s.msk.length c2, .slice A3 s.mem.length c3] 62
  have D1 : Hid ((w.alloc (.cells #[.slice A1 s.vec.length c1, .slice A2 s.msk.length c2, .slice A3 s.mem.length c3] 62)).cell? ⟨w.heap.size, 1, none⟩ = some (.slice A2 s.msk.length c2)) := hid (by rw [cell_of_row _ _ _ _ _ _ g0]; rfl)
  have D2 : Hid ((w.alloc (.cells #[.slice A1 s.vec.length c1, .slice A2 s.msk.length c2, .slice A3 s.mem.length c3] 62)).cell? ⟨w.heap.size, 2, none⟩ = some (.slice A3 s.mem.length c3)) := hid (by rw [cell_of_row _ _ _ _ _ _ g0]; rfl)
  have C1 := hid (fun W (hW : Below w.heap.size w W) => l_heldInt64SSR W A1 c1 s.vec 1 (by omega) hm1 (hr.vec.below hW))
  have C2 := hid (fun W (hW : Below w.heap.size w W) => l_heldInt64SSR W A2 c2 s.msk (1 + rtot s.vec s.vec.length) (by omega) hm2 (hr.msk.below hW))
  have C3 := hid (fun W (hW : Below w.heap.size w W) => by
    have h := l_heldInt64S W A3 c3 (marks (1 + rtot s.vec s.vec.length + rtot s.msk s.msk.length) s.mem.length) (1 + rtot s.vec s.vec.length + rtot s.msk s.msk.length) (by omega) (by rw [marks_length]; exact hm3) (h3.below hW)
    have hm := held_marks (1 + rtot s.vec s.vec.length) s.mem.length (rtot s.msk s.msk.length)
    rw [hm, marks_length] at h
    exact h)
  have HB0 := hid hb0
  have HE : Hid ((1 : Int) + rtot s.vec s.vec.length + rtot s.msk s.msk.length + s.mem.length = 1 + stot s) := hid (by unfold stot; omega)
  clear hr h3 hst hm1 hm2 hm3 hl1 hl2 hl3 g0 hb0 hO hn
  generalize rtot s.vec s.vec.length = t1 at *
  generalize rtot s.msk s.msk.length = t2 at *
  have hp1 : ¬ ((1 : Int) + t1 < 0) := by omega
  have hp2 : ¬ ((1 : Int) + t1 + t2 < 0) := by omega
  have hp3 : ¬ ((1 : Int) + t1 + t2 + s.mem.length < 0) := by omega
  go_enter Try.func49, Try.ntmps49
  go_wp2_with fail
  refine (C1.out _ HB0.out).mono ?_
  rintro e w1 ⟨rfl, hb1⟩
  have d1 := bcell hb1 D1.out
  have D2' := hid (bcell hb1 D2.out)
  have HB1 := hid (bthen HB0.out hb1)
  clear hb1
  go_wp2_with fail
  refine (C2.out _ HB1.out).mono ?_
  rintro e w2 ⟨rfl, hb2⟩
  have d2 := bcell hb2 D2'.out
  have HB2 := hid (bthen HB1.out hb2)
  clear hb2 d1
  go_wp2_with fail
  refine (C3.out _ HB2.out).mono ?_
  rintro e w3 ⟨rfl, hb3⟩
  go_wp2_with fail
  go_ret
  exact ⟨ret_i HE.out, bthen HB2.out hb3⟩
end Go.Proofs.Ytolcmehndambmaa
