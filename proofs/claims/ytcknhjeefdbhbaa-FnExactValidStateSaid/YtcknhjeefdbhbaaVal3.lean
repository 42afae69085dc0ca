import Derived.Test.YtcknhjeefdbhbaaVal2
set_option linter.unusedVariables false
set_option linter.unusedSimpArgs false
namespace Go.Proofs.Ytcknhjeefdbhbaa
open Go.RowKit

/-- A machine's box and a state's box behind it. -/
structure VC (W : World) (B D : Nat) (la bi : Int) (v1 v2 v3 : Value) : Prop where
  m0 : W.cell? ⟨B, 0, none⟩ = some (.int .i64 la)
  m1 : W.cell? ⟨B, 1, none⟩ = some (.int .i64 bi)
  s0 : W.cell? ⟨D, 0, none⟩ = some v1
  s1 : W.cell? ⟨D, 1, none⟩ = some v2
  s2 : W.cell? ⟨D, 2, none⟩ = some v3
theorem VC.below {W W' : World} {B D : Nat} {la bi : Int} {v1 v2 v3 : Value} (h : VC W B D la bi v1 v2 v3) (hb : Below W.heap.size W W') : VC W' B D la bi v1 v2 v3 :=
  ⟨bcell hb h.m0, bcell hb h.m1, bcell hb h.s0, bcell hb h.s1, bcell hb h.s2⟩
abbrev VB (w : World) (la bi : Int) (v1 v2 v3 : Value) : World := (w.alloc (.cells #[.int .i64 la, .int .i64 bi] 30)).alloc (.cells #[v1, v2, v3] 32)
theorem VC.of (w : World) (la bi : Int) (v1 v2 v3 : Value) : VC (VB w la bi v1 v2 v3) w.heap.size (w.heap.size + 1) la bi v1 v2 v3 := by
  have hb : Below (w.alloc (.cells #[.int .i64 la, .int .i64 bi] 30)).heap.size (w.alloc (.cells #[.int .i64 la, .int .i64 bi] 30)) (VB w la bi v1 v2 v3) := ballocw _ _
  have e : w.heap.size + 1 = (w.alloc (.cells #[.int .i64 la, .int .i64 bi] 30)).heap.size := by simp
  refine ⟨bcell hb (by simp), bcell hb (by simp), ?_, ?_, ?_⟩
  all_goals (rw [e]; simp [VB])
theorem i_VSta (w : World) (la bi : Int) (A1 A2 A3 : Option Addr) (n1 c1 n2 c2 n3 c3 : Nat) (h1 : n1 ≤ 1048576) (h2 : n2 ≤ 1048576) (h3 : n3 ≤ 1048576)  (CM : Hid (∀ W, Below (VB w la bi (.slice A1 n1 c1) (.slice A2 n2 c2) (.slice A3 n3 c3)).heap.size (VB w la bi (.slice A1 n1 c1) (.slice A2 n2 c2) (.slice A3 n3 c3)) W → Calls Try.prog 73 #[mv la bi] W fun e w' => e = .returned (.bool false) ∧ Below W.heap.size W w')) :
    Calls Try.prog 19 #[mv la bi, stv A1 n1 c1 A2 n2 c2 A3 n3 c3] w fun e w' => e = .returned (.bool false) ∧ Below w.heap.size w w' := by
  have hb0 : Below w.heap.size w (VB w la bi (.slice A1 n1 c1) (.slice A2 n2 c2) (.slice A3 n3 c3)) := balloc (ballocw w _) _
  have HB0 := hid hb0
  have hv := VC.of w la bi (.slice A1 n1 c1) (.slice A2 n2 c2) (.slice A3 n3 c3)
  have HV := hid hv
  obtain ⟨m0, m1, s0, s1, s2⟩ := hv
  clear hb0
  go_enter Try.func19, Try.ntmps19
  go_wp2_with fail
  refine (CM.out _ (Below.refl _ _)).mono ?_
  rintro e w1 ⟨rfl, hb1⟩
  have hc1 : Below (VB w la bi (.slice A1 n1 c1) (.slice A2 n2 c2) (.slice A3 n3 c3)).heap.size (VB w la bi (.slice A1 n1 c1) (.slice A2 n2 c2) (.slice A3 n3 c3)) w1 := hb1
  obtain ⟨m0, m1, s0, s1, s2⟩ := HV.out.below hc1
  go_wp2_with fail
  go_ret
  exact ⟨rfl, bthen HB0.out hc1⟩
theorem i_VStb (w : World) (la bi : Int) (A1 A2 A3 : Option Addr) (n1 c1 n2 c2 n3 c3 : Nat) (h1 : n1 ≤ 1048576) (h2 : n2 ≤ 1048576) (h3 : n3 ≤ 1048576) (e1 : ((n1 : Int) == 8) = false) (CM : Hid (∀ W, Below (VB w la bi (.slice A1 n1 c1) (.slice A2 n2 c2) (.slice A3 n3 c3)).heap.size (VB w la bi (.slice A1 n1 c1) (.slice A2 n2 c2) (.slice A3 n3 c3)) W → Calls Try.prog 73 #[mv la bi] W fun e w' => e = .returned (.bool true) ∧ Below W.heap.size W w')) :
    Calls Try.prog 19 #[mv la bi, stv A1 n1 c1 A2 n2 c2 A3 n3 c3] w fun e w' => e = .returned (.bool false) ∧ Below w.heap.size w w' := by
  have hb0 : Below w.heap.size w (VB w la bi (.slice A1 n1 c1) (.slice A2 n2 c2) (.slice A3 n3 c3)) := balloc (ballocw w _) _
  have HB0 := hid hb0
  have hv := VC.of w la bi (.slice A1 n1 c1) (.slice A2 n2 c2) (.slice A3 n3 c3)
  have HV := hid hv
  obtain ⟨m0, m1, s0, s1, s2⟩ := hv
  clear hb0
  go_enter Try.func19, Try.ntmps19
  go_wp2_with fail
  refine (CM.out _ (Below.refl _ _)).mono ?_
  rintro e w1 ⟨rfl, hb1⟩
  have hc1 : Below (VB w la bi (.slice A1 n1 c1) (.slice A2 n2 c2) (.slice A3 n3 c3)).heap.size (VB w la bi (.slice A1 n1 c1) (.slice A2 n2 c2) (.slice A3 n3 c3)) w1 := hb1
  obtain ⟨m0, m1, s0, s1, s2⟩ := HV.out.below hc1
  go_wp2_with fail
  go_ret
  exact ⟨rfl, bthen HB0.out hc1⟩
theorem i_VStc (w : World) (la bi : Int) (A1 A2 A3 : Option Addr) (n1 c1 n2 c2 n3 c3 : Nat) (h1 : n1 ≤ 1048576) (h2 : n2 ≤ 1048576) (h3 : n3 ≤ 1048576) (e1 : ((n1 : Int) == 8) = true) (e2 : ((n2 : Int) == 4) = false) (CM : Hid (∀ W, Below (VB w la bi (.slice A1 n1 c1) (.slice A2 n2 c2) (.slice A3 n3 c3)).heap.size (VB w la bi (.slice A1 n1 c1) (.slice A2 n2 c2) (.slice A3 n3 c3)) W → Calls Try.prog 73 #[mv la bi] W fun e w' => e = .returned (.bool true) ∧ Below W.heap.size W w')) :
    Calls Try.prog 19 #[mv la bi, stv A1 n1 c1 A2 n2 c2 A3 n3 c3] w fun e w' => e = .returned (.bool false) ∧ Below w.heap.size w w' := by
  have hb0 : Below w.heap.size w (VB w la bi (.slice A1 n1 c1) (.slice A2 n2 c2) (.slice A3 n3 c3)) := balloc (ballocw w _) _
  have HB0 := hid hb0
  have hv := VC.of w la bi (.slice A1 n1 c1) (.slice A2 n2 c2) (.slice A3 n3 c3)
  have HV := hid hv
  obtain ⟨m0, m1, s0, s1, s2⟩ := hv
  clear hb0
  go_enter Try.func19, Try.ntmps19
  go_wp2_with fail
  refine (CM.out _ (Below.refl _ _)).mono ?_
  rintro e w1 ⟨rfl, hb1⟩
  have hc1 : Below (VB w la bi (.slice A1 n1 c1) (.slice A2 n2 c2) (.slice A3 n3 c3)).heap.size (VB w la bi (.slice A1 n1 c1) (.slice A2 n2 c2) (.slice A3 n3 c3)) w1 := hb1
  obtain ⟨m0, m1, s0, s1, s2⟩ := HV.out.below hc1
  go_wp2_with fail
  go_ret
  exact ⟨rfl, bthen HB0.out hc1⟩
theorem i_VStd (w : World) (la bi : Int) (A1 A2 A3 : Option Addr) (n1 c1 n2 c2 n3 c3 : Nat) (h1 : n1 ≤ 1048576) (h2 : n2 ≤ 1048576) (h3 : n3 ≤ 1048576) (e1 : ((n1 : Int) == 8) = true) (e2 : ((n2 : Int) == 4) = true) (CM : Hid (∀ W, Below (VB w la bi (.slice A1 n1 c1) (.slice A2 n2 c2) (.slice A3 n3 c3)).heap.size (VB w la bi (.slice A1 n1 c1) (.slice A2 n2 c2) (.slice A3 n3 c3)) W → Calls Try.prog 73 #[mv la bi] W fun e w' => e = .returned (.bool true) ∧ Below W.heap.size W w')) (C3 : Hid (∀ W, Below (VB w la bi (.slice A1 n1 c1) (.slice A2 n2 c2) (.slice A3 n3 c3)).heap.size (VB w la bi (.slice A1 n1 c1) (.slice A2 n2 c2) (.slice A3 n3 c3)) W → Calls Try.prog 74 #[mv la bi, .slice A3 n3 c3] W fun e w' => e = .returned (.bool false) ∧ Below W.heap.size W w')) :
    Calls Try.prog 19 #[mv la bi, stv A1 n1 c1 A2 n2 c2 A3 n3 c3] w fun e w' => e = .returned (.bool false) ∧ Below w.heap.size w w' := by
  have hb0 : Below w.heap.size w (VB w la bi (.slice A1 n1 c1) (.slice A2 n2 c2) (.slice A3 n3 c3)) := balloc (ballocw w _) _
  have HB0 := hid hb0
  have hv := VC.of w la bi (.slice A1 n1 c1) (.slice A2 n2 c2) (.slice A3 n3 c3)
  have HV := hid hv
  obtain ⟨m0, m1, s0, s1, s2⟩ := hv
  clear hb0
  go_enter Try.func19, Try.ntmps19
  go_wp2_with fail
  refine (CM.out _ (Below.refl _ _)).mono ?_
  rintro e w1 ⟨rfl, hb1⟩
  have hc1 : Below (VB w la bi (.slice A1 n1 c1) (.slice A2 n2 c2) (.slice A3 n3 c3)).heap.size (VB w la bi (.slice A1 n1 c1) (.slice A2 n2 c2) (.slice A3 n3 c3)) w1 := hb1
  obtain ⟨m0, m1, s0, s1, s2⟩ := HV.out.below hc1
  go_wp2_with fail
  refine (C3.out _ hc1).mono ?_
  rintro e w2 ⟨rfl, hb2⟩
  have hc2 : Below (VB w la bi (.slice A1 n1 c1) (.slice A2 n2 c2) (.slice A3 n3 c3)).heap.size (VB w la bi (.slice A1 n1 c1) (.slice A2 n2 c2) (.slice A3 n3 c3)) w2 := bthen hc1 hb2
  obtain ⟨m0, m1, s0, s1, s2⟩ := HV.out.below hc2
  go_wp2_with fail
  go_ret
  exact ⟨rfl, bthen HB0.out hc2⟩
theorem i_VSte (w : World) (la bi : Int) (A1 A2 A3 : Option Addr) (n1 c1 n2 c2 n3 c3 : Nat) (h1 : n1 ≤ 1048576) (h2 : n2 ≤ 1048576) (h3 : n3 ≤ 1048576) (e1 : ((n1 : Int) == 8) = true) (e2 : ((n2 : Int) == 4) = true) (CM : Hid (∀ W, Below (VB w la bi (.slice A1 n1 c1) (.slice A2 n2 c2) (.slice A3 n3 c3)).heap.size (VB w la bi (.slice A1 n1 c1) (.slice A2 n2 c2) (.slice A3 n3 c3)) W → Calls Try.prog 73 #[mv la bi] W fun e w' => e = .returned (.bool true) ∧ Below W.heap.size W w')) (C3 : Hid (∀ W, Below (VB w la bi (.slice A1 n1 c1) (.slice A2 n2 c2) (.slice A3 n3 c3)).heap.size (VB w la bi (.slice A1 n1 c1) (.slice A2 n2 c2) (.slice A3 n3 c3)) W → Calls Try.prog 74 #[mv la bi, .slice A3 n3 c3] W fun e w' => e = .returned (.bool true) ∧ Below W.heap.size W w')) (C4 : Hid (∀ W, Below (VB w la bi (.slice A1 n1 c1) (.slice A2 n2 c2) (.slice A3 n3 c3)).heap.size (VB w la bi (.slice A1 n1 c1) (.slice A2 n2 c2) (.slice A3 n3 c3)) W → Calls Try.prog 75 #[.slice A1 n1 c1, .func (.func 76) #[] #[.pointer (some ⟨w.heap.size, 0, none⟩)]] W fun e w' => e = .returned (.bool false) ∧ Below W.heap.size W w')) :
    Calls Try.prog 19 #[mv la bi, stv A1 n1 c1 A2 n2 c2 A3 n3 c3] w fun e w' => e = .returned (.bool false) ∧ Below w.heap.size w w' := by
  have hb0 : Below w.heap.size w (VB w la bi (.slice A1 n1 c1) (.slice A2 n2 c2) (.slice A3 n3 c3)) := balloc (ballocw w _) _
  have HB0 := hid hb0
  have hv := VC.of w la bi (.slice A1 n1 c1) (.slice A2 n2 c2) (.slice A3 n3 c3)
  have HV := hid hv
  obtain ⟨m0, m1, s0, s1, s2⟩ := hv
  clear hb0
  go_enter Try.func19, Try.ntmps19
  go_wp2_with fail
  refine (CM.out _ (Below.refl _ _)).mono ?_
  rintro e w1 ⟨rfl, hb1⟩
  have hc1 : Below (VB w la bi (.slice A1 n1 c1) (.slice A2 n2 c2) (.slice A3 n3 c3)).heap.size (VB w la bi (.slice A1 n1 c1) (.slice A2 n2 c2) (.slice A3 n3 c3)) w1 := hb1
  obtain ⟨m0, m1, s0, s1, s2⟩ := HV.out.below hc1
  go_wp2_with fail
  refine (C3.out _ hc1).mono ?_
  rintro e w2 ⟨rfl, hb2⟩
  have hc2 : Below (VB w la bi (.slice A1 n1 c1) (.slice A2 n2 c2) (.slice A3 n3 c3)).heap.size (VB w la bi (.slice A1 n1 c1) (.slice A2 n2 c2) (.slice A3 n3 c3)) w2 := bthen hc1 hb2
  obtain ⟨m0, m1, s0, s1, s2⟩ := HV.out.below hc2
  go_wp2_with fail
  refine (C4.out _ hc2).mono ?_
  rintro e w3 ⟨rfl, hb3⟩
  have hc3 : Below (VB w la bi (.slice A1 n1 c1) (.slice A2 n2 c2) (.slice A3 n3 c3)).heap.size (VB w la bi (.slice A1 n1 c1) (.slice A2 n2 c2) (.slice A3 n3 c3)) w3 := bthen hc2 hb3
  obtain ⟨m0, m1, s0, s1, s2⟩ := HV.out.below hc3
  go_wp2_with fail
  go_ret
  exact ⟨rfl, bthen HB0.out hc3⟩
theorem i_VStf (w : World) (la bi : Int) (A1 A2 A3 : Option Addr) (n1 c1 n2 c2 n3 c3 : Nat) (h1 : n1 ≤ 1048576) (h2 : n2 ≤ 1048576) (h3 : n3 ≤ 1048576) (b : Bool) (e1 : ((n1 : Int) == 8) = true) (e2 : ((n2 : Int) == 4) = true) (CM : Hid (∀ W, Below (VB w la bi (.slice A1 n1 c1) (.slice A2 n2 c2) (.slice A3 n3 c3)).heap.size (VB w la bi (.slice A1 n1 c1) (.slice A2 n2 c2) (.slice A3 n3 c3)) W → Calls Try.prog 73 #[mv la bi] W fun e w' => e = .returned (.bool true) ∧ Below W.heap.size W w')) (C3 : Hid (∀ W, Below (VB w la bi (.slice A1 n1 c1) (.slice A2 n2 c2) (.slice A3 n3 c3)).heap.size (VB w la bi (.slice A1 n1 c1) (.slice A2 n2 c2) (.slice A3 n3 c3)) W → Calls Try.prog 74 #[mv la bi, .slice A3 n3 c3] W fun e w' => e = .returned (.bool true) ∧ Below W.heap.size W w')) (C4 : Hid (∀ W, Below (VB w la bi (.slice A1 n1 c1) (.slice A2 n2 c2) (.slice A3 n3 c3)).heap.size (VB w la bi (.slice A1 n1 c1) (.slice A2 n2 c2) (.slice A3 n3 c3)) W → Calls Try.prog 75 #[.slice A1 n1 c1, .func (.func 76) #[] #[.pointer (some ⟨w.heap.size, 0, none⟩)]] W fun e w' => e = .returned (.bool true) ∧ Below W.heap.size W w')) (C5 : Hid (∀ W, Below (VB w la bi (.slice A1 n1 c1) (.slice A2 n2 c2) (.slice A3 n3 c3)).heap.size (VB w la bi (.slice A1 n1 c1) (.slice A2 n2 c2) (.slice A3 n3 c3)) W → Calls Try.prog 75 #[.slice A2 n2 c2, .func (.func 79) #[] #[.pointer (some ⟨w.heap.size, 0, none⟩)]] W fun e w' => e = .returned (.bool b) ∧ Below W.heap.size W w')) :
    Calls Try.prog 19 #[mv la bi, stv A1 n1 c1 A2 n2 c2 A3 n3 c3] w fun e w' => e = .returned (.bool b) ∧ Below w.heap.size w w' := by
  have hb0 : Below w.heap.size w (VB w la bi (.slice A1 n1 c1) (.slice A2 n2 c2) (.slice A3 n3 c3)) := balloc (ballocw w _) _
  have HB0 := hid hb0
  have hv := VC.of w la bi (.slice A1 n1 c1) (.slice A2 n2 c2) (.slice A3 n3 c3)
  have HV := hid hv
  obtain ⟨m0, m1, s0, s1, s2⟩ := hv
  clear hb0
  go_enter Try.func19, Try.ntmps19
  go_wp2_with fail
  refine (CM.out _ (Below.refl _ _)).mono ?_
  rintro e w1 ⟨rfl, hb1⟩
  have hc1 : Below (VB w la bi (.slice A1 n1 c1) (.slice A2 n2 c2) (.slice A3 n3 c3)).heap.size (VB w la bi (.slice A1 n1 c1) (.slice A2 n2 c2) (.slice A3 n3 c3)) w1 := hb1
  obtain ⟨m0, m1, s0, s1, s2⟩ := HV.out.below hc1
  go_wp2_with fail
  refine (C3.out _ hc1).mono ?_
  rintro e w2 ⟨rfl, hb2⟩
  have hc2 : Below (VB w la bi (.slice A1 n1 c1) (.slice A2 n2 c2) (.slice A3 n3 c3)).heap.size (VB w la bi (.slice A1 n1 c1) (.slice A2 n2 c2) (.slice A3 n3 c3)) w2 := bthen hc1 hb2
  obtain ⟨m0, m1, s0, s1, s2⟩ := HV.out.below hc2
  go_wp2_with fail
  refine (C4.out _ hc2).mono ?_
  rintro e w3 ⟨rfl, hb3⟩
  have hc3 : Below (VB w la bi (.slice A1 n1 c1) (.slice A2 n2 c2) (.slice A3 n3 c3)).heap.size (VB w la bi (.slice A1 n1 c1) (.slice A2 n2 c2) (.slice A3 n3 c3)) w3 := bthen hc2 hb3
  obtain ⟨m0, m1, s0, s1, s2⟩ := HV.out.below hc3
  go_wp2_with fail
  refine (C5.out _ hc3).mono ?_
  rintro e w4 ⟨rfl, hb4⟩
  have hc4 : Below (VB w la bi (.slice A1 n1 c1) (.slice A2 n2 c2) (.slice A3 n3 c3)).heap.size (VB w la bi (.slice A1 n1 c1) (.slice A2 n2 c2) (.slice A3 n3 c3)) w4 := bthen hc3 hb4
  obtain ⟨m0, m1, s0, s1, s2⟩ := HV.out.below hc4
  go_wp2_with fail
  go_ret
  exact ⟨ret_b (by simp), bthen HB0.out hc4⟩
theorem i_ValidState (w : World) (la bi : Int) (A1 : Option Addr) (c1 : Nat) (A2 : Option Addr) (c2 : Nat) (A3 : Option Addr) (c3 : Nat) (s : StV) (hl : ssz s ≤ 1048576) (hR : RdS w A1 A2 A3 s) :
    Calls Try.prog 19 #[mv la bi, stv A1 s.vec.length c1 A2 s.msk.length c2 A3 s.mem.length c3] w fun e w' => e = .returned (.bool (stateB la bi s)) ∧ Below w.heap.size w w' := by
  have hz1 : rsz s.vec ≤ 1048576 := by unfold ssz at hl; omega
  have hz2 : rsz s.msk ≤ 1048576 := by unfold ssz at hl; omega
  have hz3 : s.mem.length ≤ 1048576 := by unfold ssz at hl; omega
  have h1 := rsz_len hz1
  have h2 := rsz_len hz2
  have hb0 : Below w.heap.size w (VB w la bi (.slice A1 s.vec.length c1) (.slice A2 s.msk.length c2) (.slice A3 s.mem.length c3)) := balloc (ballocw w _) _
  have hr := hR.below hb0
  have hv := VC.of w la bi (.slice A1 s.vec.length c1) (.slice A2 s.msk.length c2) (.slice A3 s.mem.length c3)
  have cm := fun W (_ : Below (VB w la bi (.slice A1 s.vec.length c1) (.slice A2 s.msk.length c2) (.slice A3 s.mem.length c3)).heap.size (VB w la bi (.slice A1 s.vec.length c1) (.slice A2 s.msk.length c2) (.slice A3 s.mem.length c3)) W) => i_ValidMachine W la bi
  have cm3 := fun W (hW : Below (VB w la bi (.slice A1 s.vec.length c1) (.slice A2 s.msk.length c2) (.slice A3 s.mem.length c3)).heap.size (VB w la bi (.slice A1 s.vec.length c1) (.slice A2 s.msk.length c2) (.slice A3 s.mem.length c3)) W) => i_isMemory W la bi A3 c3 s.mem hz3 (hr.mem.below hW)
  have c4 : ∀ W, Below (VB w la bi (.slice A1 s.vec.length c1) (.slice A2 s.msk.length c2) (.slice A3 s.mem.length c3)).heap.size (VB w la bi (.slice A1 s.vec.length c1) (.slice A2 s.msk.length c2) (.slice A3 s.mem.length c3)) W → Calls Try.prog 75 #[.slice A1 s.vec.length c1, .func (.func 76) #[] #[.pointer (some ⟨w.heap.size, 0, none⟩)]] W fun e w' => e = .returned (.bool (s.vec.all (vrowB la bi))) ∧ Below W.heap.size W w' := fun W hW => by
    obtain ⟨f, hf, hrr⟩ := hr.vec
    have hall := areAllR W A1 s.vec.length c1 f 76 #[.pointer (some ⟨w.heap.size, 0, none⟩)] (fun k => vrowB la bi (rw_ s.vec k)) (by omega) (hf.below hW) (enters_of Try.func76 (by kernel_rfl) rfl) (fun W' hW' k hk => by
      obtain ⟨A', c', e, _, hx⟩ := hrr k hk
      rw [e]
      exact i_VS1 W' w.heap.size la bi A' c' (rw_ s.vec k) (rsz_row hz1 hk) (((hv.below hW).below hW').m0) (((hv.below hW).below hW').m1) ((hx.below hW).below hW'))
    rw [allN_rows s.vec (vrowB la bi)] at hall
    exact hall
  have c5 : ∀ W, Below (VB w la bi (.slice A1 s.vec.length c1) (.slice A2 s.msk.length c2) (.slice A3 s.mem.length c3)).heap.size (VB w la bi (.slice A1 s.vec.length c1) (.slice A2 s.msk.length c2) (.slice A3 s.mem.length c3)) W → Calls Try.prog 75 #[.slice A2 s.msk.length c2, .func (.func 79) #[] #[.pointer (some ⟨w.heap.size, 0, none⟩)]] W fun e w' => e = .returned (.bool (s.msk.all (mrowB la))) ∧ Below W.heap.size W w' := fun W hW => by
    obtain ⟨f, hf, hrr⟩ := hr.msk
    have hall := areAllR W A2 s.msk.length c2 f 79 #[.pointer (some ⟨w.heap.size, 0, none⟩)] (fun k => mrowB la (rw_ s.msk k)) (by omega) (hf.below hW) (enters_of Try.func79 (by kernel_rfl) rfl) (fun W' hW' k hk => by
      obtain ⟨A', c', e, _, hx⟩ := hrr k hk
      rw [e]
      exact i_VS2 W' w.heap.size la bi A' c' (rw_ s.msk k) (rsz_row hz2 hk) (((hv.below hW).below hW').m0) ((hx.below hW).below hW'))
    rw [allN_rows s.msk (mrowB la)] at hall
    exact hall
  unfold stateB
  cases e0 : machB la bi with
  | false => simp only [e0] at cm; exact i_VSta w la bi A1 A2 A3 _ c1 _ c2 _ c3 h1 h2 hz3 (hid cm)
  | true =>
    simp only [e0] at cm
    cases e1 : decide (s.vec.length = 8) with
    | false => exact i_VStb w la bi A1 A2 A3 _ c1 _ c2 _ c3 h1 h2 hz3 (by simp at e1 ⊢; omega) (hid cm)
    | true =>
      have e1' : ((s.vec.length : Int) == 8) = true := by simp at e1 ⊢; omega
      cases e2 : decide (s.msk.length = 4) with
      | false => exact i_VStc w la bi A1 A2 A3 _ c1 _ c2 _ c3 h1 h2 hz3 e1' (by simp at e2 ⊢; omega) (hid cm)
      | true =>
        have e2' : ((s.msk.length : Int) == 4) = true := by simp at e2 ⊢; omega
        cases e3 : memB bi s.mem with
        | false => simp only [e3] at cm3; exact i_VStd w la bi A1 A2 A3 _ c1 _ c2 _ c3 h1 h2 hz3 e1' e2' (hid cm) (hid cm3)
        | true =>
          simp only [e3] at cm3
          cases e4 : s.vec.all (vrowB la bi) with
          | false => simp only [e4] at c4; exact i_VSte w la bi A1 A2 A3 _ c1 _ c2 _ c3 h1 h2 hz3 e1' e2' (hid cm) (hid cm3) (hid c4)
          | true => simp only [e4] at c4; exact i_VStf w la bi A1 A2 A3 _ c1 _ c2 _ c3 h1 h2 hz3 (s.msk.all (mrowB la)) e1' e2' (hid cm) (hid cm3) (hid c4) (hid c5)
end Go.Proofs.Ytcknhjeefdbhbaa
