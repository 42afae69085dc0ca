import Derived.Test.YtcknhjeefdbhbaaVal5
import Derived.Deep.RegionHeld3
set_option linter.unusedVariables false
set_option linter.unusedSimpArgs false
namespace Go.Proofs.Ytcknhjeefdbhbaa
open Go.RowKit

/-- The machine's box at D, the state's behind it. -/
def MSc (D E : Nat) (la bi : Int) (v1 v2 v3 : Value) (W : World) : Prop :=
  W.cell? ⟨D, 0, none⟩ = some (.int .i64 la) ∧ W.cell? ⟨D, 1, none⟩ = some (.int .i64 bi) ∧ W.cell? ⟨E, 0, none⟩ = some v1 ∧ W.cell? ⟨E, 1, none⟩ = some v2 ∧ W.cell? ⟨E, 2, none⟩ = some v3
theorem MSc.below {D E : Nat} {la bi : Int} {v1 v2 v3 : Value} {W W' : World} (h : MSc D E la bi v1 v2 v3 W) (hb : Below W.heap.size W W') : MSc D E la bi v1 v2 v3 W' :=
  ⟨bcell hb h.1, bcell hb h.2.1, bcell hb h.2.2.1, bcell hb h.2.2.2.1, bcell hb h.2.2.2.2⟩
theorem MSc.drew {D E : Nat} {la bi : Int} {v1 v2 v3 : Value} {W : World} (h : MSc D E la bi v1 v2 v3 W) : MSc D E la bi v1 v2 v3 W.drew := h
set_option maxRecDepth 100000 in
set_option maxHeartbeats 1000000 in
theorem law_ValidState (w : World) (la bi : Int) (A : Option Addr) (c : Nat) (B : Option Addr) (d : Nat) (E : Option Addr) (f : Nat) (s : StV) (hl : BigS s) (hR : RdS w A B E s) :
    Calls Try.prog 3 #[mv la bi, stv A s.vec.length c B s.msk.length d E s.mem.length f] w fun e w' => e = .returned (.bool true) ∧ Below w.heap.size w w' := by
  have hb0 : Below w.heap.size w ((w.alloc (.cells #[.int .i64 la, .int .i64 bi] 23)).alloc (.cells #[.slice A s.vec.length c, .slice B s.msk.length d, .slice E s.mem.length f] 27)) := balloc (ballocw w _) _
  have hs0 : MSc w.heap.size (w.heap.size + 1) la bi (.slice A s.vec.length c) (.slice B s.msk.length d) (.slice E s.mem.length f) ((w.alloc (.cells #[.int .i64 la, .int .i64 bi] 23)).alloc (.cells #[.slice A s.vec.length c, .slice B s.msk.length d, .slice E s.mem.length f] 27)) := by
    have e : w.heap.size + 1 = (w.alloc (.cells #[.int .i64 la, .int .i64 bi] 23)).heap.size := by simp
    have hb : Below (w.alloc (.cells #[.int .i64 la, .int .i64 bi] 23)).heap.size (w.alloc (.cells #[.int .i64 la, .int .i64 bi] 23)) ((w.alloc (.cells #[.int .i64 la, .int .i64 bi] 23)).alloc (.cells #[.slice A s.vec.length c, .slice B s.msk.length d, .slice E s.mem.length f] 27)) := ballocw _ _
    refine ⟨bcell hb (by simp), bcell hb (by simp), ?_, ?_, ?_⟩
    all_goals (rw [e]; simp)
  generalize hV : (w.alloc (.cells #[.int .i64 la, .int .i64 bi] 23)).alloc (.cells #[.slice A s.vec.length c, .slice B s.msk.length d, .slice E s.mem.length f] 27) = V at *
  have HVV := hid hV
  have CZ := hid (fun W (hW : Below w.heap.size w W) => l_szStateO W A c B d E f s 1048576 hl (by omega) (by omega) (hR.below hW))
  have HR := hid hR
  have HB0 := hid hb0
  have HS0 := hid hs0
  by_cases big : (1048576 : Int) < (ssz s : Int)
  · simp only [szR, if_pos big] at CZ
    have m2 := hs0.2.2.1
    have m3 := hs0.2.2.2.1
    have m4 := hs0.2.2.2.2
    clear hV hs0 hb0 hR HR hl HS0 big
    go_enter Try.func3, Try.ntmps3
    go_wp2_with fail
    rw [HVV.out]
    refine (CZ.out _ HB0.out).mono ?_
    rintro e w1 ⟨rfl, hb1⟩
    go_wp2_with fail
    go_ret
    exact ⟨rfl, bthen HB0.out hb1⟩
  · simp only [szR, if_neg big] at CZ
    have hs1 : ssz s ≤ 1048576 := by omega
    have HSZ := hid hs1
    have hge : ¬ ((1048576 : Int) - (ssz s : Int) < 0) := by omega
    have CM := hid (fun W => l_toMachine W la bi)
    have CT := hid (fun W (hW : Below w.heap.size w W) => l_toStateO W A c B d E f s hs1 (hR.below hW))
    have CS := hid (fun W (o1 o2 o3 : Option Addr) (k1 k2 k3 : Nat) (h : RdS W o1 o2 o3 s) => s_ValidState W la bi o1 k1 o2 k2 o3 k3 s hs1 h)
    have CI := hid (fun W (o1 o2 o3 : Option Addr) (k1 k2 k3 : Nat) (h : RdS W o1 o2 o3 s) => i_ValidState W la bi o1 k1 o2 k2 o3 k3 s hs1 h)
    have CE := hid (fun W lo hi lo' hi' v v' (h : OS W lo hi v s) (h' : OS W lo' hi' v' s) => l_eqStateO W lo hi lo' hi' v v' s s hs1 hs1 h h')
    generalize stateB la bi s = r at *
    have m2 := hs0.2.2.1
    have m3 := hs0.2.2.2.1
    have m4 := hs0.2.2.2.2
    clear hV hs0 hb0 hR HR hl big hs1
    generalize ssz s = zz at *
    go_enter Try.func3, Try.ntmps3
    go_wp2_with fail
    rw [HVV.out]
    refine (CZ.out _ HB0.out).mono ?_
    rintro e w1 ⟨rfl, hb1⟩
    have S1 := hid (HS0.out.below hb1)
    have B1 := hid (bthen HB0.out hb1)
    clear m2 m3 m4 CZ hb1 HVV
    go_wp2_with fail
    have S1d := hid S1.out.drew
    have B1d := hid (bthen B1.out (bdrewL w1))
    go_region_held3 (fun W => W.cell? ⟨w.heap.size, 0, none⟩ = some (.int .i64 la) ∧ W.cell? ⟨w.heap.size, 1, none⟩ = some (.int .i64 bi) ∧ W.cell? ⟨w.heap.size + 1, 0, none⟩ = some (.slice A s.vec.length c) ∧ W.cell? ⟨w.heap.size + 1, 1, none⟩ = some (.slice B s.msk.length d) ∧ W.cell? ⟨w.heap.size + 1, 2, none⟩ = some (.slice E s.mem.length f))
      (first | exact S1d.out | exact S2.out | exact S3.out | exact S4.out)
      (first
        | (go_at_call 17; refine (CM.out _).mono ?_; rintro e w2 ⟨rfl, hb2⟩; have S2 := hid (S1d.out.below hb2); have B2 := hid (bthen B1d.out hb2))
        | (go_at_call 18; refine (CT.out _ B2.out).mono ?_; rintro e w3 ⟨v3, rfl, ho3, hb3⟩; obtain ⟨a1, k1, a2, k2, a3, k3, rfl, hr3⟩ := ho3.shp; have S3 := hid (S2.out.below hb3); have B3 := hid (bthen B2.out hb3); clear ho3)
        | (go_at_call 16; refine (CS.out _ _ _ _ _ _ _ hr3).mono ?_; rintro e w4 ⟨rfl, hb4⟩; have S4 := hid (S3.out.below hb4); have B4 := hid (bthen B3.out hb4)))
    clear S1d B1d S2 B2 S3 B3 S1 B1 hr3 hb2 hb3 hb4
    have m2 := S4.out.2.2.1
    have m3 := S4.out.2.2.2.1
    have m4 := S4.out.2.2.2.2
    go_wp2_with fail
    refine (CT.out _ B4.out).mono ?_
    rintro e w5 ⟨v5, rfl, ho5, hb5⟩
    have S5 := hid (S4.out.below hb5)
    have B5 := hid (bthen B4.out hb5)
    have HO5 := hid ho5
    obtain ⟨x1, k1, x2, k2, x3, k3, rfl, _⟩ := ho5.shp
    clear m2 m3 m4 ho5 hb5 S4 B4
    go_wp2_with fail
    have hbx := ballocw w5 (.cells #[.slice x1 s.vec.length k1, .slice x2 s.msk.length k2, .slice x3 s.mem.length k3] 32)
    have s6 := S5.out.below hbx
    have t6 : MSc w.heap.size w5.heap.size la bi (.slice x1 s.vec.length k1) (.slice x2 s.msk.length k2) (.slice x3 s.mem.length k3) (w5.alloc (.cells #[.slice x1 s.vec.length k1, .slice x2 s.msk.length k2, .slice x3 s.mem.length k3] 32)) :=
      ⟨s6.1, s6.2.1, by simp, by simp, by simp⟩
    have B6 := hid (bthen B5.out hbx)
    have HO6 := hid (HO5.out.eqv (Eqv.of hbx (Nat.le_refl _)))
    generalize hV6 : w5.alloc (.cells #[.slice x1 s.vec.length k1, .slice x2 s.msk.length k2, .slice x3 s.mem.length k3] 32) = V6 at *
    have S6 := hid s6
    have T6d := hid t6.drew
    have B6d := hid (bthen B6.out (bdrewL V6))
    have hsz6 : w5.heap.size ≤ V6.heap.size := by rw [← hV6]; simp
    clear s6 t6 hbx HO5 S5 B5 hV6
    go_region_held3 (fun W => W.cell? ⟨w.heap.size, 0, none⟩ = some (.int .i64 la) ∧ W.cell? ⟨w.heap.size, 1, none⟩ = some (.int .i64 bi) ∧ W.cell? ⟨w5.heap.size, 0, none⟩ = some (.slice x1 s.vec.length k1) ∧ W.cell? ⟨w5.heap.size, 1, none⟩ = some (.slice x2 s.msk.length k2) ∧ W.cell? ⟨w5.heap.size, 2, none⟩ = some (.slice x3 s.mem.length k3))
      (first | exact T6d.out | exact T7.out | exact T8.out)
      (first
        | (go_at_call 17; refine (CM.out _).mono ?_; rintro e w7 ⟨rfl, hb7⟩; have T7 := hid (T6d.out.below hb7); have B7 := hid (bthen (bdrewL V6) hb7))
        | (go_at_call 19; refine (CI.out _ _ _ _ _ _ _ (HO6.out.eqv (Eqv.of B7.out (by omega))).rd).mono ?_; rintro e w8 ⟨rfl, hb8⟩; have T8 := hid (T7.out.below hb8); have B8 := hid (bthen B7.out hb8)))
    have S8 := hid (S6.out.below B8.out)
    have HO8 := hid (HO6.out.eqv (Eqv.of B8.out (by omega)))
    have B8w := hid (bthen B6.out B8.out)
    have hsz8 := B8.out.size
    clear T6d B6d T7 B7 B8 B6 S6 HO6 hb7 hb8
    go_wp2_with fail
    have S8d := hid S8.out.drew
    have T8d := hid T8.out.drew
    have B8d := hid (bthen B8w.out (bdrewL w8))
    go_region_held3 (fun W => (W.cell? ⟨w5.heap.size, 0, none⟩ = some (.slice x1 s.vec.length k1) ∧ W.cell? ⟨w5.heap.size, 1, none⟩ = some (.slice x2 s.msk.length k2) ∧ W.cell? ⟨w5.heap.size, 2, none⟩ = some (.slice x3 s.mem.length k3)) ∧ W.cell? ⟨w.heap.size + 1, 0, none⟩ = some (.slice A s.vec.length c) ∧ W.cell? ⟨w.heap.size + 1, 1, none⟩ = some (.slice B s.msk.length d) ∧ W.cell? ⟨w.heap.size + 1, 2, none⟩ = some (.slice E s.mem.length f))
      (first | exact ⟨T8d.out.2.2, S8d.out.2.2⟩ | exact ⟨T9.out.2.2, S9.out.2.2⟩ | exact ⟨T10.out.2.2, S10.out.2.2⟩)
      (first
        | (go_at_call 18; refine (CT.out _ B8d.out).mono ?_; rintro e w9 ⟨v9, rfl, ho9, hb9⟩; have T9 := hid (T8d.out.below hb9); have S9 := hid (S8d.out.below hb9); have B9 := hid (bthen B8d.out hb9); have HO9 := hid (HO8.out.eqv (Eqv.of (bthen (bdrewL w8) hb9) (by omega))); have HN9 := hid ho9; obtain ⟨a1, k1', a2, k2', a3, k3', rfl, hr3⟩ := ho9.shp; clear ho9)
        | (go_at_call 20; refine (CE.out _ _ _ _ _ _ _ HO9.out HN9.out).mono ?_; rintro e w10 ⟨rfl, hb10⟩; have T10 := hid (T9.out.below hb10); have S10 := hid (S9.out.below hb10); have B10 := hid (bthen B9.out hb10)))
    clear T8d S8d T9 S9 HO9 HN9 T10 S10
    go_wp2_with fail
    go_ret
    exact ⟨rfl, B10.out⟩
end Go.Proofs.Ytcknhjeefdbhbaa
