import Derived.Test.YtolcmehndambmaaRtn
import Derived.Test.YtolcmehndambmaaOwnA
import Derived.Test.YtolcmehndambmaaNrun
import Derived.Test.YtolcmehndambmaaShuf3b
import Derived.Test.YtolcmehndambmaaLawO
set_option linter.unusedVariables false
set_option linter.unusedSimpArgs false
namespace Go.Proofs.Ytolcmehndambmaa
open Go.RowKit

set_option maxRecDepth 100000 in
theorem i_sides1 (W : World) (k : Nat) : Calls Try.prog 161 #[.int .i64 (k : Nat)] W fun e w' => e = .returned (.int .i64 (-1)) ∧ Below W.heap.size W w' := by
  go_enter Try.func161, Try.ntmps161
  go_wp2
  go_ret
  exact ⟨rfl, Below.refl _ _⟩
theorem Prm.inverse {g : List Int} {n : Nat} (h : Prm g n) : m_inverse g = (inv g, true) := by
  unfold m_inverse; rw [if_pos (ordB_iff.2 (by rw [h.len]; exact h.mem))]
set_option maxRecDepth 100000 in
set_option maxHeartbeats 2000000 in
theorem i_sides (w : World) (A : Option Addr) (c : Nat) (g : List Int) (n h : Nat) (hh : 0 < h) (h8 : h ≤ 8) (hn : n = 2 * h) (hp : Prm g n) (hR : RdI w A g) :
    Calls Try.prog 129 #[.slice A n c] w (RetI w 2 (sdN g)) := by
  have hgl := hp.len
  have C0 := hid (i_inverse w A c g (by omega) hR)
  rw [hp.inverse, hgl] at C0
  have HI := hid hp.inverse
  have CL := hid (fun W => i_lengthI A n c W)
  have HR := hid hR
  have HP := hid hp
  have HGL := hid hgl
  have HN := hid hn
  have HIL : Hid ((inv g).length = n) := hid (by rw [inv_length, hgl])
  have HSN : Hid (sdN g = sdA g h n) := hid (by unfold sdN; rw [hgl, hn, show 2 * h / 2 = h from by omega])
  have hn16 : n ≤ 16 := by omega
  have HST : Hid (∀ k, sdA g h (k + 1) = sdS g h n k (sdA g h k)) := hid fun k => by rw [hn]; rfl
  have HAL : Hid (∀ k, (sdA g h k).length = n) := hid fun k => by rw [hn]; exact sdA_length g h k
  have HZ : Hid (sdA g h 0 = List.replicate n (-1)) := hid (by rw [hn]; rfl)
  have hn2 : 2 ≤ n := by omega
  clear hR hp hgl hn
  go_enter Try.func129, Try.ntmps129
  go_wp2_with fail
  refine (CL.out _).mono ?_
  rintro e w0 ⟨rfl, rfl⟩
  go_wp2_with fail
  refine C0.out.mono ?_
  rintro e w1 ⟨v1, rfl, ho1, hb1⟩
  obtain ⟨A1, c1, rfl, _, _, hr1⟩ := ho1.shp
  have HR1 := hid hr1
  have HG1 := hid (HR.out.below hb1)
  have HB1 := hid hb1
  have hil := HIL.out
  rw [hil]
  clear C0 ho1 hr1 hb1 hil HR
  have c2 := i_lanesOf w1 n 161 #[] (fun _ => -1) (by omega) (enters_of Try.func161 (by kernel_rfl) rfl) (fun W hW k hk => i_sides1 W k)
  rw [map_const, ← HZ.out] at c2
  have C2 := hid c2
  clear c2
  go_wp2_with fail
  refine C2.out.mono ?_
  rintro e w2 ⟨v2, rfl, ho2, hb2⟩
  have hl0 := HAL.out 0
  obtain ⟨g0, c0, rfl, hON⟩ := ON.of ho2 (by omega)
  rw [hl0] at hON ⊢
  have HON := hid hON
  have hcap := hON.cap
  have hgge := hON.ge
  have HB2 := hid hb2
  have hz1 := HB1.out.size
  have hz2 := hb2.size
  clear C2 ho2 hON hb2 hl0
  go_wp2
  go_loopg [22] n (fun gg s wr => ∃ k : Nat, k ≤ n ∧ n - k ≤ gg ∧ s = .int .i64 k ∧ Aside (Below w1.heap.size w1 wr) ∧ Aside (w2.heap.size ≤ wr.heap.size) ∧ Aside (ON wr w1.heap.size w2.heap.size g0 c0 n (sdA g h k)) ∧ Aside (Pai h (sdA g h k)))
  case atStart => exact ⟨0, Nat.zero_le _, by omega, rfl, HB2.out, Nat.le_refl _, HON.out, (sdA_spec (by rw [← HN.out]; exact HP.out) 0 (Nat.zero_le _)).1⟩
  case round =>
    obtain ⟨k, hk, hg, rfl, BW, SW, OW, PW⟩ := hrel
    obtain ⟨wk, rfl⟩ : ∃ wk : World, wk = wr := ⟨_, rfl⟩
    clear HON HB2
    by_cases hlt : k < n
    · have hlt' : (k : Int) < (n : Int) := by omega
      have HS := hid (HST.out k)
      have HLK := hid (HAL.out k)
      clear HST HAL HZ HSN
      generalize sdA g h k = o0 at *
      have HNG : Hid (ngs o0 ≤ n) := hid (by have := ngs_le o0; have := HLK.out; omega)
      go_wp2
      go_loopg [8] n (fun gg s wr => ∃ f a : Nat, ∃ o : List Int, f ≤ gg ∧ a < n ∧ s = .int .i64 a ∧ Aside (Below w1.heap.size w1 wr) ∧ Aside (w2.heap.size ≤ wr.heap.size) ∧ Aside (ON wr w1.heap.size w2.heap.size g0 c0 n o) ∧ Aside (Pai h o) ∧ Aside (ngs o ≤ f) ∧ Aside (sdS g h f a o = sdA g h (k + 1)))
      case atStart => exact ⟨n, k, o0, Nat.le_refl _, hlt, rfl, BW, SW, OW, PW, HNG.out, HS.out.symm⟩
      case round =>
        obtain ⟨f, a, o, hf, ha, rfl, BI, SI, OI', PI, NI, EI⟩ := hrel
        clear BW SW OW PW HNG HS
        have ha' : (a : Int) < (n : Int) := by omega
        have k0 := OI'.out.at_ ha
        obtain ⟨k0, kf0⟩ := k0
        by_cases hx : el o a < 0
        · have hfp : 0 < f := by have := ngs_pos (o := o) (a := a) (by have := OI'.out.1; omega) hx; have := NI.out; omega
          obtain ⟨f', rfl⟩ : ∃ f', f = f' + 1 := ⟨f - 1, by omega⟩
          have hot : ot h a < n := by rw [HN.out]; exact ot_lt hh
          have hotE : ((a : Int) + (n : Int) / 2) % (n : Int) = (ot h a : Nat) := ot_int HN.out a
          have hol := OI'.out.1
          have hw1 := OI'.out.set a 0
          have hw2 := hw1.set (ot h a) 1
          have k1f := hw1.at_ hot
          obtain ⟨k1c, k1f⟩ := k1f
          generalize el (o.set a 0) (ot h a) = x1 at k1c
          have HW2 := hid hw2
          have hbx := bset (bset BI.out (p := ⟨g0, a, none⟩) hgge.1 (.int .i64 0)) (p := ⟨g0, ot h a, none⟩) hgge.1 (.int .i64 1)
          obtain ⟨bg, og, rfl, hcg⟩ := (HG1.out.below hbx).get (k := ot h a) (by rw [HGL.out]; exact hot)
          obtain ⟨bi, oi, rfl, hci⟩ := (HR1.out.below hbx).get (k := ot h (gN g (ot h a))) (by rw [HIL.out, HN.out]; exact ot_lt hh)
          have hgo := HP.out.lt hot
          have hgi : ((el g (ot h a)) + (n : Int) / 2) % (n : Int) = (ot h (gN g (ot h a)) : Nat) := by
            rw [hgo.2]; exact ot_int HN.out _
          have hqi := (HP.out.inv_ (k := ot h (gN g (ot h a))) (by rw [HN.out]; exact ot_lt hh))
          have hqlt : ot h (gN g (ot h a)) < n := by rw [HN.out]; exact ot_lt hh
          rw [hqi.2.1] at hci
          have HBX := hid hbx
          have HSX : Hid (w2.heap.size ≤ ((wr.setCell ⟨g0, a, none⟩ (.int .i64 0)).setCell ⟨g0, ot h a, none⟩ (.int .i64 1)).heap.size) := hid (by have := SI.out; simpa [World.setCell] using this)
          have HPX : Hid (Pai h ((o.set a 0).set (ot h a) 1)) := hid (PI.out.step (by rw [← HN.out]; exact hol) (by rw [← HN.out]; exact ha))
          have HNX : Hid (ngs ((o.set a 0).set (ot h a) 1) ≤ f') := hid (by have := ngs_step (o := o) (a := a) (b := ot h a) (by omega) (by omega) hx; have := NI.out; omega)
          have HEX : Hid (sdS g h f' (iN g (ot h (gN g (ot h a)))) ((o.set a 0).set (ot h a) 1) = sdA g h (k + 1)) := hid (by have := EI.out; unfold sdS at this; rw [if_pos hx] at this; exact this)
          have hql := hqi.1
          have hel0 := HP.out.bel hot
          clear hw1 hw2 hbx PI NI EI BI OI' hgo hqi HLK HI HR1 HG1
          generalize iN g (ot h (gN g (ot h a))) = q at *
          generalize ot h (gN g (ot h a)) = u at *
          generalize ot h a = t at *
          generalize el g t = gt at *
          go_wp2
          go_roundg f'
          case measure => omega
          case rel => exact ⟨f', q, _, Nat.le_refl _, hql, rfl, HBX.out, HSX.out, HW2.out, HPX.out, HNX.out, HEX.out⟩
        · have HE : Hid (o = sdA g h (k + 1)) := hid (by
            have := EI.out
            cases f with
            | zero => exact this
            | succ f => unfold sdS at this; rw [if_neg hx] at this; exact this)
          have hx' : decide (el o a < 0) = false := by simpa using hx
          clear EI HLK hx
          generalize el o a = oa at *
          go_wp2
          go_roundg (n - (k + 1))
          case measure => omega
          case rel => exact ⟨k + 1, by omega, by omega, by go_num, BI, SI, (by unfold Aside; rw [← HE.out]; exact OI'.out), (by unfold Aside; rw [← HE.out]; exact PI.out)⟩
    · have : k = n := by omega
      subst this
      have HRR : Hid (OwnI wk w.heap.size wk.heap.size 2 (.slice (some ⟨g0, 0, none⟩) k c0) (sdN g)) := hid (by
        rw [HSN.out]
        have o := OW.out
        exact Own.wide o.2 hz1 SW.out)
      have HBB := hid (bthen HB1.out BW.out)
      clear OW BW HST HAL HZ HSN PW
      go_wp2
      go_ret
      exact ⟨_, rfl, HRR.out, HBB.out⟩
end Go.Proofs.Ytolcmehndambmaa
