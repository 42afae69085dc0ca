import Derived.Test.YtcknhjeefdbhbaaVal4
set_option linter.unusedVariables false
set_option linter.unusedSimpArgs false
namespace Go.Proofs.Ytcknhjeefdbhbaa
open Go.RowKit

theorem s_ValidState (w : World) (la bi : Int) (A1 : Option Addr) (c1 : Nat) (A2 : Option Addr) (c2 : Nat) (A3 : Option Addr) (c3 : Nat) (s : StV) (hl : ssz s ≤ 1048576) (hR : RdS w A1 A2 A3 s) :
    Calls Try.prog 16 #[mv la bi, stv A1 s.vec.length c1 A2 s.msk.length c2 A3 s.mem.length c3] w fun e w' => e = .returned (.bool (stateB la bi s)) ∧ Below w.heap.size w w' := by
  have hz1 : rsz s.vec ≤ 1048576 := by unfold ssz at hl; omega
  have hz2 : rsz s.msk ≤ 1048576 := by unfold ssz at hl; omega
  have hz3 : s.mem.length ≤ 1048576 := by unfold ssz at hl; omega
  have h1 := rsz_len hz1
  have h2 := rsz_len hz2
  have hb0 : Below w.heap.size w (VB w la bi (.slice A1 s.vec.length c1) (.slice A2 s.msk.length c2) (.slice A3 s.mem.length c3)) := balloc (ballocw w _) _
  have hr := hR.below hb0
  have hv := VC.of w la bi (.slice A1 s.vec.length c1) (.slice A2 s.msk.length c2) (.slice A3 s.mem.length c3)
  have cm := s_l05Machine (VB w la bi (.slice A1 s.vec.length c1) (.slice A2 s.msk.length c2) (.slice A3 s.mem.length c3)) w.heap.size la bi hv.m0 hv.m1
  have cs := s_L5 (VB w la bi (.slice A1 s.vec.length c1) (.slice A2 s.msk.length c2) (.slice A3 s.mem.length c3)) w.heap.size (w.heap.size + 1) la bi A1 A2 A3 s.vec.length c1 s.msk.length c2 s.mem.length c3 s.vec s.msk (st2B la bi s) (wordsB bi s.mem) rfl rfl h1 h2 hz3
    (fun k hk => rsz_row hz1 hk) (fun k hk => rsz_row hz2 hk) hv.m0 hv.m1 hv.s0 hv.s1 hv.s2 hr.vec hr.msk (hid fun W hW => s_l01Words W bi A3 c3 s.mem (by omega) (hr.mem.below hW)) (hid rfl)
  have HB0 := hid hb0
  clear hr hv hR hb0
  cases hm : machB la bi with
  | false =>
    have HF : Hid (false = stateB la bi s) := hid (by unfold stateB; rw [hm]; rfl)
    rw [hm] at cm
    have CM := hid cm
    clear cm cs hm
    generalize stateB la bi s = r at *
    go_enter Try.func16, Try.ntmps16
    go_wp2_with fail
    refine CM.out.mono ?_
    rintro e w1 ⟨rfl, rfl⟩
    go_wp2_with fail
    go_ret
    exact ⟨ret_b HF.out, HB0.out⟩
  | true =>
    rw [st2_eq hm] at cs
    rw [hm] at cm
    have CM := hid cm
    have CS := hid cs
    clear cm cs hm
    generalize stateB la bi s = r at *
    go_enter Try.func16, Try.ntmps16
    go_wp2_with fail
    refine CM.out.mono ?_
    rintro e w1 ⟨rfl, rfl⟩
    go_wp2_with fail
    refine CS.out.mono ?_
    rintro e w2 ⟨rfl, hb2⟩
    go_wp2_with fail
    go_ret
    exact ⟨rfl, bthen HB0.out hb2⟩
end Go.Proofs.Ytcknhjeefdbhbaa
