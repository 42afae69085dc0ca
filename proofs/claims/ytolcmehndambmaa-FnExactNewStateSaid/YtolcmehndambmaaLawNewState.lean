import Derived.Test.YtolcmehndambmaaNst2
import Derived.Test.YtolcmehndambmaaLawO
set_option linter.unusedVariables false
set_option linter.unusedSimpArgs false
namespace Go.Proofs.Ytolcmehndambmaa
open Go.RowKit

theorem chg_cell {lo hi : Nat} {w W : World} (h : Chg lo hi w W) {a : Addr} {v : Value} (hc : w.cell? a = some v) (hn : a.block < lo ∨ hi ≤ a.block) : W.cell? a = some v :=
  (World.cell?_of_block (w := w) (h.block _ (World.block_lt_of_cell? w _ hc) hn)).trans hc
/-- A box that holds a state. -/
structure SBx (W : World) (b : Nat) (v1 v2 v3 : Value) : Prop where
  c0 : W.cell? ⟨b, 0, none⟩ = some v1
  c1 : W.cell? ⟨b, 1, none⟩ = some v2
  c2 : W.cell? ⟨b, 2, none⟩ = some v3
theorem SBx.below {W W' : World} {b : Nat} {v1 v2 v3 : Value} (h : SBx W b v1 v2 v3) (hb : Below W.heap.size W W') : SBx W' b v1 v2 v3 := ⟨bcell hb h.c0, bcell hb h.c1, bcell hb h.c2⟩
theorem SBx.chg {W W' : World} {b lo hi : Nat} {v1 v2 v3 : Value} (h : SBx W b v1 v2 v3) (hb : Chg lo hi W W') (hn : b < lo ∨ hi ≤ b) : SBx W' b v1 v2 v3 := ⟨chg_cell hb h.c0 hn, chg_cell hb h.c1 hn, chg_cell hb h.c2 hn⟩
theorem SBx.made (w : World) (v1 v2 v3 : Value) (t : TypeId) : SBx (w.alloc (.cells #[v1, v2, v3] t)) w.heap.size v1 v2 v3 := ⟨by simp, by simp, by simp⟩
structure MBx (W : World) (b : Nat) (la bi : Int) : Prop where
  m0 : W.cell? ⟨b, 0, none⟩ = some (.int .i64 la)
  m1 : W.cell? ⟨b, 1, none⟩ = some (.int .i64 bi)
theorem MBx.below {W W' : World} {b : Nat} {la bi : Int} (h : MBx W b la bi) (hb : Below W.heap.size W W') : MBx W' b la bi := ⟨bcell hb h.m0, bcell hb h.m1⟩
theorem MBx.chg {W W' : World} {b lo hi : Nat} {la bi : Int} (h : MBx W b la bi) (hb : Chg lo hi W W') (hn : b < lo ∨ hi ≤ b) : MBx W' b la bi := ⟨chg_cell hb h.m0 hn, chg_cell hb h.m1 hn⟩
set_option maxRecDepth 100000 in
set_option maxHeartbeats 2000000 in
theorem law_NewState (w : World) (la0 bi0 : Int) (A1 : Option Addr) (c1 : Nat) (xs1 : List Int) (hl1 : xs1.length ≤ 9223372036854775807) (hR1 : RdI w A1 xs1) :
    Calls Try.prog 9 #[mv la0 bi0, .slice A1 xs1.length c1] w fun e w' => e = .returned (.bool true) ∧ Below w.heap.size w w' := by
  have hb0 := ballocw w (.cells #[.int .i64 la0, .int .i64 bi0] 60)
  by_cases big1 : 1048576 < xs1.length
  · go_enter Try.func9, Try.ntmps9
    go_wp2
    go_ret
    exact ⟨rfl, hb0⟩
  have hs1 : xs1.length ≤ 1048576 := by omega
  clear big1
  have HM := hid (MBx.mk (W := w.alloc (.cells #[.int .i64 la0, .int .i64 bi0] 60)) (b := w.heap.size) (la := la0) (bi := bi0) (by simp) (by simp))
  have HB := hid hb0
  have hzV : (w.alloc (.cells #[.int .i64 la0, .int .i64 bi0] 60)).heap.size = w.heap.size + 1 := by simp
  have hres := m_NewState_len la0 bi0 xs1
  have CM := hid (fun W => l_toMachine W la0 bi0)
  have CT := hid (fun W (hW : Below w.heap.size w W) => l_toInt64SO W A1 c1 xs1 (by omega) (hR1.below hW))
  have CS := hid (fun W A c (h : RdI W A xs1) => s_NewState W la0 bi0 A c xs1 hs1 h)
  have CI := hid (fun W A c (h : RdI W A xs1) => i_NewState W la0 bi0 A c xs1 hs1 h)
  have HRES := hid hres
  clear hb0 hR1 hl1
  generalize m_NewState la0 bi0 xs1 = r at *
  obtain ⟨r, rb⟩ := r
  go_enter Try.func9, Try.ntmps9
  have m0 := HM.out.m0
  have m1 := HM.out.m1
  go_wp2_with fail
  clear m0 m1
  refine (CM.out _).mono ?_
  generalize w.alloc (.cells #[.int .i64 la0, .int .i64 bi0] 60) = V0 at *
  rintro e w1 ⟨rfl, hb1⟩
  have hzhb1 := hb1.size
  replace HM := hid (HM.out.below hb1)
  replace HB := hid (bthen HB.out hb1)
  go_wp2_with fail
  refine (CT.out _ HB.out).mono ?_
  rintro e w2 ⟨v2, rfl, ho2, hb2⟩
  have hzhb2 := hb2.size
  replace HM := hid (HM.out.below hb2)
  replace HB := hid (bthen HB.out hb2)
  obtain ⟨B2, d2, rfl, _, _, hr2⟩ := ho2.shp
  have HR2 := hid hr2
  clear hr2 ho2
  go_wp2_with fail
  refine (CS.out _ _ _ HR2.out).mono ?_
  rintro e w3 ⟨v3, rfl, ho3, hb3⟩
  have hzhb3 := hb3.size
  replace HM := hid (HM.out.below hb3)
  replace HB := hid (bthen HB.out hb3)
  clear HR2
  obtain ⟨p3, x3, q3, y3, s3, z3, rfl, _⟩ := ho3.shp
  have W0 := hid ho3
  have W0B := hid (SBx.made w3 (.slice p3 r.vec.length x3) (.slice q3 r.msk.length y3) (.slice s3 r.mem.length z3) 62)
  have hk3 := ballocw w3 (.cells #[.slice p3 r.vec.length x3, .slice q3 r.msk.length y3, .slice s3 r.mem.length z3] 62)
  have hy3 : (w3.alloc (.cells #[.slice p3 r.vec.length x3, .slice q3 r.msk.length y3, .slice s3 r.mem.length z3] 62)).heap.size = w3.heap.size + 1 := by simp
  clear ho3
  have hzhk3 := hk3.size
  replace HM := hid (HM.out.below hk3)
  replace W0 := hid (W0.out.eqv (Eqv.of hk3 (by omega)))
  replace HB := hid (bthen HB.out hk3)
  go_wp2_with fail
  refine (CT.out _ HB.out).mono ?_
  generalize w3.alloc (.cells #[.slice p3 r.vec.length x3, .slice q3 r.msk.length y3, .slice s3 r.mem.length z3] 62) = V3 at *
  rintro e w4 ⟨v4, rfl, ho4, hb4⟩
  have hzhb4 := hb4.size
  replace HM := hid (HM.out.below hb4)
  replace W0 := hid (W0.out.eqv (Eqv.of hb4 (by omega)))
  replace W0B := hid (W0B.out.below hb4)
  replace HB := hid (bthen HB.out hb4)
  obtain ⟨B4, d4, rfl, _, _, _⟩ := ho4.shp
  have X1 := hid ho4
  clear ho4
  have m0 := HM.out.m0
  have m1 := HM.out.m1
  go_wp2_with fail
  clear m0 m1
  refine (CM.out _).mono ?_
  rintro e w5 ⟨rfl, hb5⟩
  have hzhb5 := hb5.size
  replace HM := hid (HM.out.below hb5)
  replace W0 := hid (W0.out.eqv (Eqv.of hb5 (by omega)))
  replace W0B := hid (W0B.out.below hb5)
  replace X1 := hid (X1.out.eqv (Eqv.of hb5 (by omega)))
  replace HB := hid (bthen HB.out hb5)
  go_wp2_with fail
  refine (CI.out _ _ _ X1.out.rd).mono ?_
  rintro e w6 ⟨v6, rfl, ho6, hb6⟩
  have hzhb6 := hb6.size
  replace HM := hid (HM.out.below hb6)
  replace W0 := hid (W0.out.eqv (Eqv.of hb6 (by omega)))
  replace W0B := hid (W0B.out.below hb6)
  replace X1 := hid (X1.out.eqv (Eqv.of hb6 (by omega)))
  replace HB := hid (bthen HB.out hb6)
  obtain ⟨p6, x6, q6, y6, s6, z6, rfl, _⟩ := ho6.shp
  have G0 := hid ho6
  have G0B := hid (SBx.made w6 (.slice p6 r.vec.length x6) (.slice q6 r.msk.length y6) (.slice s6 r.mem.length z6) 62)
  have hk6 := ballocw w6 (.cells #[.slice p6 r.vec.length x6, .slice q6 r.msk.length y6, .slice s6 r.mem.length z6] 62)
  have hy6 : (w6.alloc (.cells #[.slice p6 r.vec.length x6, .slice q6 r.msk.length y6, .slice s6 r.mem.length z6] 62)).heap.size = w6.heap.size + 1 := by simp
  clear ho6
  have hzhk6 := hk6.size
  replace HM := hid (HM.out.below hk6)
  replace W0 := hid (W0.out.eqv (Eqv.of hk6 (by omega)))
  replace W0B := hid (W0B.out.below hk6)
  replace X1 := hid (X1.out.eqv (Eqv.of hk6 (by omega)))
  replace G0 := hid (G0.out.eqv (Eqv.of hk6 (by omega)))
  replace HB := hid (bthen HB.out hk6)
  have e0 := G0B.out.c0
  have e1 := G0B.out.c1
  have e2 := G0B.out.c2
  have e3 := W0B.out.c0
  have e4 := W0B.out.c1
  have e5 := W0B.out.c2
  go_wp2_with fail
  clear e0 e1 e2 e3 e4 e5
  refine (l_eqStateO _ _ _ _ _ _ _ r r HRES.out HRES.out G0.out W0.out).mono ?_
  generalize w6.alloc (.cells #[.slice p6 r.vec.length x6, .slice q6 r.msk.length y6, .slice s6 r.mem.length z6] 62) = V6 at *
  simp only [decide_true]
  rintro e w7 ⟨rfl, hb7⟩
  have hzhb7 := hb7.size
  replace HM := hid (HM.out.below hb7)
  replace W0 := hid (W0.out.eqv (Eqv.of hb7 (by omega)))
  replace W0B := hid (W0B.out.below hb7)
  replace X1 := hid (X1.out.eqv (Eqv.of hb7 (by omega)))
  replace G0 := hid (G0.out.eqv (Eqv.of hb7 (by omega)))
  replace G0B := hid (G0B.out.below hb7)
  replace HB := hid (bthen HB.out hb7)
  go_wp2_with fail
  refine (CT.out _ HB.out).mono ?_
  rintro e w8 ⟨v8, rfl, ho8, hb8⟩
  have hzhb8 := hb8.size
  replace HM := hid (HM.out.below hb8)
  replace W0 := hid (W0.out.eqv (Eqv.of hb8 (by omega)))
  replace W0B := hid (W0B.out.below hb8)
  replace X1 := hid (X1.out.eqv (Eqv.of hb8 (by omega)))
  replace G0 := hid (G0.out.eqv (Eqv.of hb8 (by omega)))
  replace G0B := hid (G0B.out.below hb8)
  replace HB := hid (bthen HB.out hb8)
  obtain ⟨B8, d8, rfl, _, _, _⟩ := ho8.shp
  have X2 := hid ho8
  clear ho8
  go_wp2_with fail
  refine (l_eqInt64SO _ _ _ _ _ _ _ _ _ (by omega) (by omega) X1.out X2.out).mono ?_
  rintro e w9 ⟨rfl, hb9⟩
  have hzhb9 := hb9.size
  replace HM := hid (HM.out.below hb9)
  replace W0 := hid (W0.out.eqv (Eqv.of hb9 (by omega)))
  replace W0B := hid (W0B.out.below hb9)
  replace X1 := hid (X1.out.eqv (Eqv.of hb9 (by omega)))
  replace G0 := hid (G0.out.eqv (Eqv.of hb9 (by omega)))
  replace G0B := hid (G0B.out.below hb9)
  replace X2 := hid (X2.out.eqv (Eqv.of hb9 (by omega)))
  replace HB := hid (bthen HB.out hb9)
  clear X2
  go_wp2_with fail
  refine (l_markInt64SO _ _ _ _ _ _ (by omega) (by omega) X1.out).mono ?_
  rintro e w10 ⟨rfl, hm10, hc10⟩
  clear X1 hm10
  have hzhc10 := hc10.size
  replace HM := hid (HM.out.chg hc10 (by omega))
  replace W0 := hid (W0.out.eqv (hc10.eqv (by omega) (by omega)))
  replace W0B := hid (W0B.out.chg hc10 (by omega))
  replace G0 := hid (G0.out.eqv (hc10.eqv (by omega) (by omega)))
  replace G0B := hid (G0B.out.chg hc10 (by omega))
  replace HB := hid (HB.out.trans (hc10.below (by omega) (by omega)))
  have e0 := G0B.out.c0
  have e1 := G0B.out.c1
  have e2 := G0B.out.c2
  have e3 := W0B.out.c0
  have e4 := W0B.out.c1
  have e5 := W0B.out.c2
  go_wp2_with fail
  clear e0 e1 e2 e3 e4 e5
  refine (l_eqStateO _ _ _ _ _ _ _ r r HRES.out HRES.out G0.out W0.out).mono ?_
  simp only [decide_true]
  rintro e w11 ⟨rfl, hb11⟩
  have hzhb11 := hb11.size
  replace HM := hid (HM.out.below hb11)
  replace W0 := hid (W0.out.eqv (Eqv.of hb11 (by omega)))
  replace W0B := hid (W0B.out.below hb11)
  replace G0 := hid (G0.out.eqv (Eqv.of hb11 (by omega)))
  replace G0B := hid (G0B.out.below hb11)
  replace HB := hid (bthen HB.out hb11)
  have e0 := G0B.out.c0
  have e1 := G0B.out.c1
  have e2 := G0B.out.c2
  go_wp2_with fail
  clear e0 e1 e2
  refine (l_markStateO _ _ _ _ r 1 (by omega) (by have := HRES.out; omega) (by omega) G0.out).mono ?_
  rintro e w12 ⟨rfl, hm12, hc12⟩
  clear G0
  have hzhc12 := hc12.size
  replace HM := hid (HM.out.chg hc12 (by omega))
  replace W0 := hid (W0.out.eqv (hc12.eqv (by omega) (by omega)))
  replace W0B := hid (W0B.out.chg hc12 (by omega))
  replace G0B := hid (G0B.out.chg hc12 (by omega))
  replace HB := hid (HB.out.trans (hc12.below (by omega) (by omega)))
  have MK := hid hm12
  clear hm12
  have e0 := G0B.out.c0
  have e1 := G0B.out.c1
  have e2 := G0B.out.c2
  go_wp2_with fail
  clear e0 e1 e2
  refine (l_heldStateM _ _ _ _ r (by have := HRES.out; omega) MK.out).mono ?_
  rintro e w13 ⟨rfl, hb13⟩
  have hzhb13 := hb13.size
  replace HM := hid (HM.out.below hb13)
  replace W0 := hid (W0.out.eqv (Eqv.of hb13 (by omega)))
  replace W0B := hid (W0B.out.below hb13)
  replace G0B := hid (G0B.out.below hb13)
  replace MK := hid (MK.out.eqv (Eqv.of hb13 (by omega)))
  replace HB := hid (bthen HB.out hb13)
  have m0 := HM.out.m0
  have m1 := HM.out.m1
  go_wp2_with fail
  clear m0 m1
  refine (CM.out _).mono ?_
  rintro e w14 ⟨rfl, hb14⟩
  have hzhb14 := hb14.size
  replace HM := hid (HM.out.below hb14)
  replace W0 := hid (W0.out.eqv (Eqv.of hb14 (by omega)))
  replace W0B := hid (W0B.out.below hb14)
  replace G0B := hid (G0B.out.below hb14)
  replace MK := hid (MK.out.eqv (Eqv.of hb14 (by omega)))
  replace HB := hid (bthen HB.out hb14)
  go_wp2_with fail
  refine (CT.out _ HB.out).mono ?_
  rintro e w15 ⟨v15, rfl, ho15, hb15⟩
  have hzhb15 := hb15.size
  replace HM := hid (HM.out.below hb15)
  replace W0 := hid (W0.out.eqv (Eqv.of hb15 (by omega)))
  replace W0B := hid (W0B.out.below hb15)
  replace G0B := hid (G0B.out.below hb15)
  replace MK := hid (MK.out.eqv (Eqv.of hb15 (by omega)))
  replace HB := hid (bthen HB.out hb15)
  obtain ⟨B15, d15, rfl, _, _, hr15⟩ := ho15.shp
  have HR15 := hid hr15
  clear hr15 ho15
  go_wp2_with fail
  refine (CI.out _ _ _ HR15.out).mono ?_
  rintro e w16 ⟨v16, rfl, ho16, hb16⟩
  have hzhb16 := hb16.size
  replace HM := hid (HM.out.below hb16)
  replace W0 := hid (W0.out.eqv (Eqv.of hb16 (by omega)))
  replace W0B := hid (W0B.out.below hb16)
  replace G0B := hid (G0B.out.below hb16)
  replace MK := hid (MK.out.eqv (Eqv.of hb16 (by omega)))
  replace HB := hid (bthen HB.out hb16)
  clear HR15
  obtain ⟨p16, x16, q16, y16, s16, z16, rfl, _⟩ := ho16.shp
  have H0 := hid ho16
  have H0B := hid (SBx.made w16 (.slice p16 r.vec.length x16) (.slice q16 r.msk.length y16) (.slice s16 r.mem.length z16) 62)
  have hk16 := ballocw w16 (.cells #[.slice p16 r.vec.length x16, .slice q16 r.msk.length y16, .slice s16 r.mem.length z16] 62)
  have hy16 : (w16.alloc (.cells #[.slice p16 r.vec.length x16, .slice q16 r.msk.length y16, .slice s16 r.mem.length z16] 62)).heap.size = w16.heap.size + 1 := by simp
  clear ho16
  have hzhk16 := hk16.size
  replace HM := hid (HM.out.below hk16)
  replace W0 := hid (W0.out.eqv (Eqv.of hk16 (by omega)))
  replace W0B := hid (W0B.out.below hk16)
  replace G0B := hid (G0B.out.below hk16)
  replace MK := hid (MK.out.eqv (Eqv.of hk16 (by omega)))
  replace H0 := hid (H0.out.eqv (Eqv.of hk16 (by omega)))
  replace HB := hid (bthen HB.out hk16)
  have e0 := H0B.out.c0
  have e1 := H0B.out.c1
  have e2 := H0B.out.c2
  have e3 := W0B.out.c0
  have e4 := W0B.out.c1
  have e5 := W0B.out.c2
  go_wp2_with fail
  clear e0 e1 e2 e3 e4 e5
  refine (l_eqStateO _ _ _ _ _ _ _ r r HRES.out HRES.out H0.out W0.out).mono ?_
  generalize w16.alloc (.cells #[.slice p16 r.vec.length x16, .slice q16 r.msk.length y16, .slice s16 r.mem.length z16] 62) = V16 at *
  simp only [decide_true]
  rintro e w17 ⟨rfl, hb17⟩
  have hzhb17 := hb17.size
  replace HM := hid (HM.out.below hb17)
  replace W0 := hid (W0.out.eqv (Eqv.of hb17 (by omega)))
  replace W0B := hid (W0B.out.below hb17)
  replace G0B := hid (G0B.out.below hb17)
  replace MK := hid (MK.out.eqv (Eqv.of hb17 (by omega)))
  replace H0 := hid (H0.out.eqv (Eqv.of hb17 (by omega)))
  replace H0B := hid (H0B.out.below hb17)
  replace HB := hid (bthen HB.out hb17)
  have e0 := G0B.out.c0
  have e1 := G0B.out.c1
  have e2 := G0B.out.c2
  go_wp2_with fail
  clear e0 e1 e2
  refine (l_heldStateM _ _ _ _ r (by have := HRES.out; omega) MK.out).mono ?_
  rintro e w18 ⟨rfl, hb18⟩
  have hzhb18 := hb18.size
  replace HM := hid (HM.out.below hb18)
  replace W0 := hid (W0.out.eqv (Eqv.of hb18 (by omega)))
  replace W0B := hid (W0B.out.below hb18)
  replace G0B := hid (G0B.out.below hb18)
  replace MK := hid (MK.out.eqv (Eqv.of hb18 (by omega)))
  replace H0 := hid (H0.out.eqv (Eqv.of hb18 (by omega)))
  replace H0B := hid (H0B.out.below hb18)
  replace HB := hid (bthen HB.out hb18)
  go_wp2_with fail
  go_ret
  exact ⟨rfl, HB.out⟩
end Go.Proofs.Ytolcmehndambmaa
