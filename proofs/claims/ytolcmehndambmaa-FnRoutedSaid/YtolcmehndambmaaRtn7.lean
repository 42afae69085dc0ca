import Derived.Test.YtolcmehndambmaaRtn6
import Derived.Test.YtolcmehndambmaaRtn5
set_option linter.unusedVariables false
set_option linter.unusedSimpArgs false
namespace Go.Proofs.Ytolcmehndambmaa
open Go.RowKit

theorem ON.made (w : World) (n : Nat) (hn : n ≤ 1048576) : ON (w.alloc (.cells (madeCells #[.int .i64 0] n) 2)) w.heap.size (w.heap.size + 1) w.heap.size n n (List.replicate n 0) := by
  have := own_made w 2 (.int .i64 0) n (by omega)
  rw [ints_replicate] at this
  exact ⟨by simp, by unfold OwnI; rw [List.length_replicate]; exact this⟩
theorem ON.made4 (w : World) (n : Nat) (hn : n ≤ 1048576) (W4 : World) (hW : W4 = (((w.alloc (.cells (madeCells #[.int .i64 0] n) 2)).alloc (.cells (madeCells #[.int .i64 0] n) 2)).alloc (.cells (madeCells #[.int .i64 0] n) 2)).alloc (.cells (madeCells #[.int .i64 0] n) 2)) :
    ON W4 w.heap.size (w.heap.size + 1) w.heap.size n n (List.replicate n 0) ∧ ON W4 (w.heap.size + 1) (w.heap.size + 1 + 1) (w.heap.size + 1) n n (List.replicate n 0) ∧ ON W4 (w.heap.size + 1 + 1) (w.heap.size + 1 + 1 + 1) (w.heap.size + 1 + 1) n n (List.replicate n 0) ∧
    ON W4 (w.heap.size + 1 + 1 + 1) (w.heap.size + 1 + 1 + 1 + 1) (w.heap.size + 1 + 1 + 1) n n (List.replicate n 0) ∧ Below w.heap.size w W4 ∧ W4.heap.size = w.heap.size + 1 + 1 + 1 + 1 := by
  subst hW
  have s1 : ∀ V : World, (V.alloc (.cells (madeCells #[.int .i64 0] n) 2)).heap.size = V.heap.size + 1 := fun V => by simp
  have b : ∀ V : World, Below V.heap.size V (V.alloc (.cells (madeCells #[.int .i64 0] n) 2)) := fun V => ballocw V _
  have o := fun V => ON.made V n hn
  generalize hf : (fun V : World => V.alloc (.cells (madeCells #[.int .i64 0] n) 2)) = f at *
  have e : ∀ V : World, V.alloc (.cells (madeCells #[.int .i64 0] n) 2) = f V := fun V => by rw [← hf]
  simp only [e] at s1 b o ⊢
  have h1 := s1 w
  have h2 := s1 (f w)
  have h3 := s1 (f (f w))
  have h4 := s1 (f (f (f w)))
  have o1 := o w
  have o2 := o (f w)
  have o3 := o (f (f w))
  have o4 := o (f (f (f w)))
  rw [h1] at o2 h2
  rw [h2] at o3 h3
  rw [h3] at o4 h4
  refine ⟨?_, ?_, ?_, o4, bthen (bthen (bthen (b _) (b _)) (b _)) (b _), h4⟩
  · exact ((o1.eqv (Eqv.of (b _) (by omega))).eqv (Eqv.of (b _) (by omega))).eqv (Eqv.of (b _) (by omega))
  · exact (o2.eqv (Eqv.of (b _) (by omega))).eqv (Eqv.of (b _) (by omega))
  · exact o3.eqv (Eqv.of (b _) (by omega))
set_option maxRecDepth 100000 in
theorem s_route0 (w : World) (A : Option Addr) (c n : Nat) (g : List Int) (hn : n = 2) (hp : Prm g n) (hR : RdI w A g) :
    Calls Try.prog 68 #[.slice A n c] w (RetRO w (rtN 0 g)) := by
  obtain ⟨b, off, rfl, hc⟩ := hR.get (k := 1) (by rw [hp.len]; omega)
  have HE : Hid (rtN 0 g = [[1 - el g 1]]) := hid (by
    have h0 := hp.bel (i := 0) (by omega)
    have h1 := hp.bel (i := 1) (by omega)
    have hi := fun e : gN g 0 = gN g 1 => hp.inj (i := 0) (j := 1) (by omega) (by omega) e
    have h2 := hp.lt (i := 0) (by omega)
    have h3 := hp.lt (i := 1) (by omega)
    have : el g 0 = 1 - el g 1 := by
      have : gN g 0 ≠ gN g 1 := fun e => by have := hi e; omega
      omega
    show [[el g 0]] = _
    rw [this])
  have he : ((n : Int) == 2) = true := by simp [hn]
  have h0 : (1 : Int) < (n : Int) := by omega
  have hn2 : n ≤ 2 := by omega
  have hb := hp.bel (i := 1) (by omega)
  clear hR hp hn
  generalize el g 1 = x at *
  go_enter Try.func68, Try.ntmps68
  go_wp2
  go_ret
  rw [HE.out]
  exact ⟨_, rfl, OR.wide (OR.row1 (by simp) (by simp)) (by simp) (by simp), balloc (ballocw w _) _⟩
set_option maxRecDepth 100000 in
set_option maxHeartbeats 4000000 in
theorem s_routeS (w : World) (A : Option Addr) (c n h d : Nat) (g : List Int) (hh : 0 < h) (h8 : h ≤ 8) (hn : n = 2 * h) (h2 : n ≠ 2) (hp : Prm g n) (hR : RdI w A g) (hd : h = 2 ^ (d + 1))
    (IH : Hid (∀ W A' c' g', Prm g' h → RdI W A' g' → Calls Try.prog 68 #[.slice A' h c'] W (RetRO W (rtN d g')))) :
    Calls Try.prog 68 #[.slice A n c] w (RetRO w (rtN (d + 1) g)) := by
  have hgl := hp.len
  have HC := sdN_spec (h := h) (hn ▸ hp)
  have c0 := s_l04Inverse w A c g (by omega) (fun k hk => by rw [hgl] at hk ⊢; exact hp.bel hk) hR
  rw [inv_eq rfl (by rw [hgl]; exact hp.mem), hgl] at c0
  have C0 := hid c0
  have HRT : Hid (rtN (d + 1) g = [(goN g (sdN g)).take h] ++ catT (rtN d (sbN g (sdN g) h 0)) (rtN d (sbN g (sdN g) h 1)) (2 * d + 1) ++ [(sdN g).take h]) := hid (by
    have : g.length / 2 = h := by omega
    simp only [rtN, this]
    rw [catT_all, rtN_length])
  have HSN : Hid (sdN g = sdA g h n) := hid (by unfold sdN; rw [hgl, hn, show 2 * h / 2 = h from by omega])
  have HST : Hid (∀ k, sdA g h (k + 1) = sdS g h n k (sdA g h k)) := hid fun k => by rw [hn]; rfl
  have HAL : Hid (∀ k, (sdA g h k).length = n) := hid fun k => by rw [hn]; exact sdA_length g h k
  have HZ : Hid (p1 (sdA g h 0) = List.replicate n 0) := hid (by rw [hn]; exact p1_rep _)
  have HA0 : Hid (Pai h (sdA g h 0)) := hid (sdA_spec (by rw [← hn]; exact hp) 0 (Nat.zero_le _)).1
  have HP := hid hp
  have HN := hid hn
  have HGL := hid hgl
  have HD := hid hd
  have HCL : Hid ((sdN g).length = n) := hid (by rw [HC.len, hn])
  have HS := hid HC
  have HIL : Hid ((inv g).length = n) := hid (by rw [inv_length, hgl])
  have he : ((n : Int) == 2) = false := by simp; omega
  have hn16 : n ≤ 16 := by omega
  have hn2 : 2 ≤ n := by omega
  have HR0 := hid hR
  have hnh : (n : Int) / 2 = (h : Int) := by omega
  have hmk := makeInt n (by omega)
  clear HC hgl hp h2 hn hR hd c0
  generalize rtN (d + 1) g = RT at *
  generalize sdN g = cm at *
  go_enter Try.func68, Try.ntmps68
  go_wp2_with fail
  refine C0.out.mono ?_
  rintro e w2 ⟨v2, rfl, ho2, hb2⟩
  obtain ⟨Ai, ci, rfl, _, _, hri⟩ := Own.int ho2
  have hil := HIL.out
  rw [hil]
  have HG2 := hid (HR0.out.below hb2)
  have HI2 := hid hri
  have HB2 := hid hb2
  have HZ2 := hb2.size
  have HON : Hid (ON (w2.alloc (.cells (madeCells #[.int .i64 0] n) 2)) w2.heap.size (w2.heap.size + 1) w2.heap.size n n (p1 (sdA g h 0))) := hid (by
    have := own_made w2 2 (.int .i64 0) n (by omega)
    rw [ints_replicate] at this
    rw [HZ.out]
    exact ⟨by simp, by unfold OwnI; rw [List.length_replicate]; exact this⟩)
  have HB4 := hid (ballocw w2 (.cells (madeCells #[.int .i64 0] n) 2))
  clear C0 ho2 hb2 hri hil HR0 HZ
  go_wp2
  go_loopg [7] n (fun gg s wr => ∃ k : Nat, k ≤ n ∧ n - k ≤ gg ∧ s = .int .i64 k ∧ Aside (Below w2.heap.size w2 wr) ∧ Aside (w2.heap.size + 1 ≤ wr.heap.size) ∧ Aside (ON wr w2.heap.size (w2.heap.size + 1) w2.heap.size n n (p1 (sdA g h k))) ∧ Aside (Pai h (sdA g h k)))
  case atStart => exact ⟨0, Nat.zero_le _, by omega, rfl, HB4.out, by simp [Aside], HON.out, HA0.out⟩
  case round =>
    obtain ⟨k, hk, hg, rfl, BW, SW, OW, PW⟩ := hrel
    obtain ⟨wk, rfl⟩ : ∃ wk : World, wk = wr := ⟨_, rfl⟩
    clear HON HB4 HA0 hmk
    by_cases hlt : k < n
    · have hlt' : (k : Int) < (n : Int) := by omega
      have HSk := hid (HST.out k)
      have HLK := hid (HAL.out k)
      clear HST HAL HSN HRT IH HS
      generalize sdA g h k = o0 at *
      have HNG : Hid (ngs o0 ≤ n) := hid (by have := ngs_le o0; have := HLK.out; omega)
      go_wp2
      go_loopg [8] n (fun gg s wr => ∃ f a : Nat, ∃ o : List Int, f ≤ gg ∧ a < n ∧ s = .int .i64 a ∧ Aside (o.length = n) ∧ Aside (Below w2.heap.size w2 wr) ∧ Aside (w2.heap.size + 1 ≤ wr.heap.size) ∧ Aside (ON wr w2.heap.size (w2.heap.size + 1) w2.heap.size n n (p1 o)) ∧ Aside (Pai h o) ∧ Aside (ngs o ≤ f) ∧ Aside (sdS g h f a o = sdA g h (k + 1)))
      case atStart => exact ⟨n, k, o0, Nat.le_refl _, hlt, rfl, HLK.out, BW, SW, OW, PW, HNG.out, HSk.out.symm⟩
      case round =>
        obtain ⟨f, a, o, hf, ha, rfl, LI, BI, SI, OI', PI, NI, EI⟩ := hrel
        clear BW SW OW PW HNG HSk
        have ha' : (a : Int) < (n : Int) := by omega
        have hol := LI.out
        have k0 := OI'.out.at_ ha
        rw [p1_el (by omega)] at k0
        obtain ⟨k0, kf0⟩ := k0
        have hpa := PI.out a (by rw [← HN.out]; exact ha)
        by_cases hx : el o a < 0
        · have hxe : el o a = -1 := by rcases hpa with q | q | q <;> omega
          rw [hxe] at k0
          have hfp : 0 < f := by have := ngs_pos (o := o) (a := a) (by omega) hx; have := NI.out; omega
          obtain ⟨f', rfl⟩ : ∃ f', f = f' + 1 := ⟨f - 1, by omega⟩
          have hot : ot h a < n := by rw [HN.out]; exact ot_lt hh
          have hotE : ((a : Int) + (h : Int)) % (n : Int) = (ot h a : Nat) := ot_int2 HN.out a
          have hw1 : ON (wr.setCell ⟨w2.heap.size, a, none⟩ (.int .i64 1)) w2.heap.size (w2.heap.size + 1) w2.heap.size n n (p1 (o.set a 0)) := by
            have := OI'.out.set a (0 + 1); rw [p1_set] at this; exact this
          have hw2 : ON ((wr.setCell ⟨w2.heap.size, a, none⟩ (.int .i64 1)).setCell ⟨w2.heap.size, ot h a, none⟩ (.int .i64 2)) w2.heap.size (w2.heap.size + 1) w2.heap.size n n (p1 ((o.set a 0).set (ot h a) 1)) := by
            have := hw1.set (ot h a) (1 + 1); rw [p1_set] at this; exact this
          have k1f := hw1.at_ hot
          obtain ⟨k1c, k1f⟩ := k1f
          generalize el (p1 (o.set a 0)) (ot h a) = x1 at k1c
          have HW2 := hid hw2
          have hbx := bset (bset BI.out (p := ⟨w2.heap.size, a, none⟩) (Nat.le_refl _) (.int .i64 1)) (p := ⟨w2.heap.size, ot h a, none⟩) (Nat.le_refl _) (.int .i64 2)
          obtain ⟨bg, og, rfl, hcg⟩ := (HG2.out.below hbx).get (k := ot h a) (by rw [HGL.out]; exact hot)
          obtain ⟨bi, oi, rfl, hci⟩ := (HI2.out.below hbx).get (k := ot h (gN g (ot h a))) (by rw [HIL.out, HN.out]; exact ot_lt hh)
          have hgo := HP.out.lt hot
          have hgi : ((el g (ot h a)) + (h : Int)) % (n : Int) = (ot h (gN g (ot h a)) : Nat) := by
            rw [hgo.2]; exact ot_int2 HN.out _
          have hqi := (HP.out.inv_ (k := ot h (gN g (ot h a))) (by rw [HN.out]; exact ot_lt hh))
          have hqlt : ot h (gN g (ot h a)) < n := by rw [HN.out]; exact ot_lt hh
          rw [hqi.2.1] at hci
          have HBX := hid hbx
          have HSX : Hid (w2.heap.size + 1 ≤ ((wr.setCell ⟨w2.heap.size, a, none⟩ (.int .i64 1)).setCell ⟨w2.heap.size, ot h a, none⟩ (.int .i64 2)).heap.size) := hid (by have := SI.out; simpa [World.setCell] using this)
          have HPX : Hid (Pai h ((o.set a 0).set (ot h a) 1)) := hid (PI.out.step (by rw [← HN.out]; exact hol) (by rw [← HN.out]; exact ha))
          have HNX : Hid (ngs ((o.set a 0).set (ot h a) 1) ≤ f') := hid (by have := ngs_step (o := o) (a := a) (b := ot h a) (by omega) (by omega) hx; have := NI.out; omega)
          have HEX : Hid (sdS g h f' (iN g (ot h (gN g (ot h a)))) ((o.set a 0).set (ot h a) 1) = sdA g h (k + 1)) := hid (by have := EI.out; unfold sdS at this; rw [if_pos hx] at this; exact this)
          have HLX : Hid (((o.set a 0).set (ot h a) 1).length = n) := hid (by simpa using hol)
          have hql := hqi.1
          have hel0 := HP.out.bel hot
          clear hw1 hw2 hbx PI NI EI BI OI' hgo hqi HLK HG2 HI2 hpa hx hxe hol LI
          generalize iN g (ot h (gN g (ot h a))) = q at *
          generalize ot h (gN g (ot h a)) = u at *
          generalize ot h a = t at *
          generalize el g t = gt at *
          go_wp2
          go_roundg f'
          case measure => omega
          case rel => exact ⟨f', q, _, Nat.le_refl _, hql, rfl, HLX.out, HBX.out, HSX.out, HW2.out, HPX.out, HNX.out, HEX.out⟩
        · have HE : Hid (o = sdA g h (k + 1)) := hid (by
            have := EI.out
            cases f with
            | zero => exact this
            | succ f => unfold sdS at this; rw [if_neg hx] at this; exact this)
          have hx' : (el o a + 1 == 0) = false := by simp; omega
          clear EI HLK hx hpa hol LI
          generalize el o a + 1 = oa at *
          go_wp2
          go_roundg (n - (k + 1))
          case measure => omega
          case rel => exact ⟨k + 1, by omega, by omega, by go_num, BI, SI, (by unfold Aside; rw [← HE.out]; exact OI'.out), (by unfold Aside; rw [← HE.out]; exact PI.out)⟩
    · have : k = n := by omega
      subst this
      have HSk := HSN.out
      rw [← HSk] at OW
      have hmh := makeInt h (by omega)
      clear HSN HST HAL HSk
      have HT0L : Hid (((goN g cm).take h).length = h) := hid (by rw [List.length_take]; have := HN.out; have := HGL.out; simp [goN]; omega)
      have HT1L : Hid ((cm.take h).length = h) := hid (by rw [List.length_take, HCL.out]; have := HN.out; omega)
      obtain ⟨o1, o2, o3, o4, hbw, hsw⟩ := ON.made4 wk h (by omega) _ rfl
      have O1 := hid o1
      have O2 := hid o2
      have O3 := hid o3
      have O4 := hid o4
      have HBW := hid hbw
      clear o1 o2 o3 o4 hbw
      go_wp2
      generalize (((wk.alloc (.cells (madeCells #[.int .i64 0] h) 2)).alloc (.cells (madeCells #[.int .i64 0] h) 2)).alloc (.cells (madeCells #[.int .i64 0] h) 2)).alloc (.cells (madeCells #[.int .i64 0] h) 2) = W4 at *
      generalize hz1 : wk.heap.size + 1 = z1 at *
      generalize hz2 : z1 + 1 = z2 at *
      generalize hz3 : z2 + 1 = z3 at *
      generalize hz4 : z3 + 1 = z4 at *
      clear hmh
      go_loopg [15] h (fun gg s wr => ∃ i : Nat, i ≤ h ∧ h - i ≤ gg ∧ s = .int .i64 i ∧ Aside (Chg wk.heap.size z2 W4 wr) ∧ Aside (ON wr wk.heap.size z1 wk.heap.size h h (zf ((goN g cm).take h) i)) ∧ Aside (ON wr z1 z2 z1 h h (zf (cm.take h) i)))
      case atStart => exact ⟨0, Nat.zero_le _, by omega, rfl, Chg.refl _ _ _, by rw [zf_zero, HT0L.out]; exact O1.out, by rw [zf_zero, HT1L.out]; exact O2.out⟩
      case round =>
        obtain ⟨i, hi, hgi, rfl, CW, OT, OU⟩ := hrel
        clear O1 O2
        have HBT := hid (bthen BW.out HBW.out)
        have HCK : Hid (Below w2.heap.size w2 wr) := hid (HBT.out.trans (CW.out.below (B := w2.heap.size) (by have := BW.out.size; omega) (by have := HBT.out.size; omega)))
        have OO : Hid (ON wr w2.heap.size (w2.heap.size + 1) w2.heap.size k k (p1 cm)) := hid (ON.eqv (ON.eqv OW.out (Eqv.of HBW.out SW.out)) (CW.out.eqv (.inl SW.out) (by have := SW.out; omega)))
        by_cases hlt : i < h
        · have hlt' : (i : Int) < (h : Int) := by omega
          have hii := HP.out.inv_ (k := i) (by have := HN.out; omega)
          obtain ⟨bi, oi, rfl, c1⟩ := (HI2.out.below HCK.out).get (k := i) (by rw [HIL.out]; have := HN.out; omega)
          rw [hii.2.1] at c1
          have hil := hii.1
          have c2 := (OO.out.at_ hil).1
          rw [p1_el (by rw [HCL.out]; exact hil), ← goN_take (c := cm) HP.out HN.out hlt] at c2
          have hin : i < k := by have := HN.out; omega
          have hin' : (i : Int) < (k : Int) := by omega
          have c3 := (OO.out.at_ hin).1
          rw [p1_el (by rw [HCL.out]; exact hin), ← el_takeI (xs := cm) hlt] at c3
          have c4 : (wr.setCell ⟨wk.heap.size, i, none⟩ (.int .i64 1)).cell? ⟨w2.heap.size, i, none⟩ = some (.int .i64 (el (cm.take h) i + 1)) := (World.cell?_setCell_far _ _ _ _ (by show wk.heap.size ≠ w2.heap.size; have := SW.out; omega)).trans c3
          have hi0 : i < ((goN g cm).take h).length := by rw [HT0L.out]; exact hlt
          have hi1 : i < (cm.take h).length := by rw [HT1L.out]; exact hlt
          have hb0 := HS.out.bit (iN g i) (by rw [← HN.out]; exact hil)
          rw [← goN_take (c := cm) HP.out HN.out hlt] at hb0
          have hb1 := HS.out.bit i (by rw [← HN.out]; exact hin)
          rw [← el_takeI (xs := cm) hlt] at hb1
          obtain ⟨k0, k0f⟩ := OT.out.at_ hlt
          obtain ⟨k1, k1f⟩ := OU.out.at_ hlt
          have hch := CW.out.size
          clear hii IH HRT O3 O4 HBT HS
          generalize iN g i = q at *
          generalize hy0 : el (zf ((goN g cm).take h) i) i = y0 at k0
          generalize hy1 : el (zf (cm.take h) i) i = y1 at k1
          rcases hb0 with hx0 | hx0 <;> rcases hb1 with hx1 | hx1
          · have HT : Hid (ON wr wk.heap.size z1 wk.heap.size h h (zf ((goN g cm).take h) (i + 1))) := hid (by
              rw [zf_same _ hi0 hx0]
              exact OT.out)
            have HU : Hid (ON wr z1 z2 z1 h h (zf (cm.take h) (i + 1))) := hid (by
              rw [zf_same _ hi1 hx1]
              exact OU.out)
            have HC : Hid (Chg wk.heap.size z2 W4 wr) := hid (CW.out)
            rw [hx0] at c2
            rw [hx1] at c3 c4
            clear OT OU CW hx0 hx1 OO HCK
            go_wp2
            go_roundg (h - (i + 1))
            case measure => omega
            case rel => exact ⟨i + 1, by omega, by omega, by go_num, HC.out, HT.out, HU.out⟩
          · have HT : Hid (ON (wr.setCell ⟨z1, i, none⟩ (.int .i64 1)) wk.heap.size z1 wk.heap.size h h (zf ((goN g cm).take h) (i + 1))) := hid (by
              rw [zf_same _ hi0 hx0]
              exact ON.eqv (OT.out) (Chg.eqv (chg_set _ (lo := z1) (hi := z1 + 1) (Nat.le_refl _) (by omega) i _) (.inl (by omega)) (by have := CW.out.size; simp [World.setCell]; omega)))
            have HU : Hid (ON (wr.setCell ⟨z1, i, none⟩ (.int .i64 1)) z1 z2 z1 h h (zf (cm.take h) (i + 1))) := hid (by
              rw [← zf_set _ hi1, hx1]
              exact ON.set (OU.out) i 1)
            have HC : Hid (Chg wk.heap.size z2 W4 (wr.setCell ⟨z1, i, none⟩ (.int .i64 1))) := hid ((CW.out).trans (chg_set _ (by omega) (by omega) i _))
            rw [hx0] at c2
            rw [hx1] at c3 c4
            clear OT OU CW hx0 hx1 OO HCK
            go_wp2
            go_roundg (h - (i + 1))
            case measure => omega
            case rel => exact ⟨i + 1, by omega, by omega, by go_num, HC.out, HT.out, HU.out⟩
          · have HT : Hid (ON (wr.setCell ⟨wk.heap.size, i, none⟩ (.int .i64 1)) wk.heap.size z1 wk.heap.size h h (zf ((goN g cm).take h) (i + 1))) := hid (by
              rw [← zf_set _ hi0, hx0]
              exact OT.out.set i 1)
            have HU : Hid (ON (wr.setCell ⟨wk.heap.size, i, none⟩ (.int .i64 1)) z1 z2 z1 h h (zf (cm.take h) (i + 1))) := hid (by
              rw [zf_same _ hi1 hx1]
              exact ON.eqv (OU.out) (Chg.eqv (chg_set _ (lo := wk.heap.size) (hi := wk.heap.size + 1) (Nat.le_refl _) (by omega) i _) (.inr (by omega)) (by have := CW.out.size; omega)))
            have HC : Hid (Chg wk.heap.size z2 W4 (wr.setCell ⟨wk.heap.size, i, none⟩ (.int .i64 1))) := hid ((CW.out).trans (chg_set _ (Nat.le_refl _) (by omega) i _))
            rw [hx0] at c2
            rw [hx1] at c3 c4
            have c5 : (wr.setCell ⟨wk.heap.size, i, none⟩ (.int .i64 1)).cell? ⟨z1, i, none⟩ = some (.int .i64 y1) := (World.cell?_setCell_far _ _ _ _ (by show wk.heap.size ≠ z1; omega)).trans k1
            clear OT OU CW hx0 hx1 OO HCK
            go_wp2
            go_roundg (h - (i + 1))
            case measure => omega
            case rel => exact ⟨i + 1, by omega, by omega, by go_num, HC.out, HT.out, HU.out⟩
          · have HT : Hid (ON ((wr.setCell ⟨wk.heap.size, i, none⟩ (.int .i64 1)).setCell ⟨z1, i, none⟩ (.int .i64 1)) wk.heap.size z1 wk.heap.size h h (zf ((goN g cm).take h) (i + 1))) := hid (by
              rw [← zf_set _ hi0, hx0]
              exact ON.eqv (OT.out.set i 1) (Chg.eqv (chg_set _ (lo := z1) (hi := z1 + 1) (Nat.le_refl _) (by omega) i _) (.inl (by omega)) (by have := CW.out.size; simp [World.setCell]; omega)))
            have HU : Hid (ON ((wr.setCell ⟨wk.heap.size, i, none⟩ (.int .i64 1)).setCell ⟨z1, i, none⟩ (.int .i64 1)) z1 z2 z1 h h (zf (cm.take h) (i + 1))) := hid (by
              rw [← zf_set _ hi1, hx1]
              exact ON.set (ON.eqv (OU.out) (Chg.eqv (chg_set _ (lo := wk.heap.size) (hi := wk.heap.size + 1) (Nat.le_refl _) (by omega) i _) (.inr (by omega)) (by have := CW.out.size; omega))) i 1)
            have HC : Hid (Chg wk.heap.size z2 W4 ((wr.setCell ⟨wk.heap.size, i, none⟩ (.int .i64 1)).setCell ⟨z1, i, none⟩ (.int .i64 1))) := hid (((CW.out).trans (chg_set _ (Nat.le_refl _) (by omega) i _)).trans (chg_set _ (by omega) (by omega) i _))
            rw [hx0] at c2
            rw [hx1] at c3 c4
            have c5 : (wr.setCell ⟨wk.heap.size, i, none⟩ (.int .i64 1)).cell? ⟨z1, i, none⟩ = some (.int .i64 y1) := (World.cell?_setCell_far _ _ _ _ (by show wk.heap.size ≠ z1; omega)).trans k1
            clear OT OU CW hx0 hx1 OO HCK
            go_wp2
            go_roundg (h - (i + 1))
            case measure => omega
            case rel => exact ⟨i + 1, by omega, by omega, by go_num, HC.out, HT.out, HU.out⟩
        · have : h = i := by omega
          subst this
          have hTa : zf ((goN g cm).take h) h = (goN g cm).take h := by have := zf_all ((goN g cm).take h); rwa [HT0L.out] at this
          have hTb : zf (cm.take h) h = cm.take h := by have := zf_all (cm.take h); rwa [HT1L.out] at this
          rw [hTa] at OT
          rw [hTb] at OU
          clear hTa hTb
          obtain ⟨W5, rfl⟩ : ∃ W5 : World, W5 = wr := ⟨_, rfl⟩
          have P3 := hid (ON.eqv O3.out (CW.out.eqv (.inr (Nat.le_refl _)) (by omega)))
          have P4 := hid (ON.eqv O4.out (CW.out.eqv (.inr (by omega)) (by omega)))
          have hs5 := CW.out.size
          clear O3 O4 HI2
          go_wp2
          go_loopg [16] k (fun gg s wr => ∃ e : Nat, e ≤ k ∧ k - e ≤ gg ∧ s = .int .i64 e ∧ Aside (Chg z2 z4 W5 wr) ∧ Aside (ON wr z2 z3 z2 h h (oneT g cm h 0 e)) ∧ Aside (ON wr z3 z4 z3 h h (oneT g cm h 1 e)))
          case atStart => exact ⟨0, Nat.zero_le _, by omega, rfl, Chg.refl _ _ _, P3.out, P4.out⟩
          case round =>
            obtain ⟨e, he, hge, rfl, CE, OA, OB⟩ := hrel
            clear P3 P4 CW
            have CW := CE
            have hs6 := CE.out.size
            by_cases hlt : e < k
            · have hlt' : (e : Int) < (k : Int) := by omega
              have OO6 : Hid (ON wr w2.heap.size (w2.heap.size + 1) w2.heap.size k k (p1 cm)) := hid (ON.eqv OO.out (CE.out.eqv (.inl (by have := SW.out; omega)) (by have := SW.out; omega)))
              have c2 := (OO6.out.at_ hlt).1
              rw [p1_el (by rw [HCL.out]; exact hlt)] at c2
              have HGE := hid (HG2.out.below (HCK.out.trans (CE.out.below (B := w2.heap.size) (by have := SW.out; omega) (by have := SW.out; omega))))
              obtain ⟨bg, og, rfl, c3⟩ := HGE.out.get (k := e) (by rw [HGL.out]; exact hlt)
              have hbe := HS.out.bit e (by rw [← HN.out]; exact hlt)
              have hgb := HP.out.bel hlt
              have hmlt : e % h < h := Nat.mod_lt _ hh
              have hmod : (e : Int) % (h : Int) = ((e % h : Nat) : Int) := (Int.natCast_emod e h).symm
              have hgm : 0 ≤ el g e % (h : Int) ∧ el g e % (h : Int) < (h : Int) := ⟨Int.emod_nonneg _ (by omega), Int.emod_lt_of_pos _ (by omega)⟩
              have hh0 : ¬ ((h : Int) = 0) := by omega
              have hh1 : (0 : Int) < (h : Int) := by omega
              have hee : (0 : Int) ≤ (e : Int) := by omega
              clear CE IH HRT OT OU OO6 OO HCK
              rcases hbe with hx | hx
              · have hx1 : el cm e = 0 := hx
                have he1 : oneT g cm h 0 (e + 1) = (oneT g cm h 0 e).set (e % h) (el g e % (h : Int)) := by show (if _ then _ else _) = _; rw [if_pos hx1]
                have he2 : oneT g cm h 1 (e + 1) = oneT g cm h 1 e := by show (if _ then _ else _) = _; rw [if_neg (by omega)]
                obtain ⟨k0, k0f⟩ := OA.out.at_ hmlt
                have HA : Hid (ON (wr.drew.setCell ⟨z2, e % h, none⟩ (.int .i64 (el g e % (h : Int)))) z2 z3 z2 h h (oneT g cm h 0 (e + 1))) := hid (by
                  rw [he1]
                  exact ON.set (ON.eqv OA.out (fun _ _ _ => rfl)) (e % h) _)
                have HB : Hid (ON (wr.drew.setCell ⟨z2, e % h, none⟩ (.int .i64 (el g e % (h : Int)))) z3 z4 z3 h h (oneT g cm h 1 (e + 1))) := hid (by
                  rw [he2]
                  exact ON.eqv OB.out (Chg.eqv ((Chg.of (bdrewL wr) (Nat.le_refl _)).trans (chg_set _ (lo := z2) (hi := z3) (Nat.le_refl _) (by omega) _ _)) (.inr (by omega)) (by omega)))
                have HC : Hid (Chg z2 z4 W5 (wr.drew.setCell ⟨z2, e % h, none⟩ (.int .i64 (el g e % (h : Int))))) := hid ((CW.out.trans (Chg.of (bdrewL wr) (Nat.le_refl _))).trans (chg_set _ (by omega) (by omega) _ _))
                rw [hx1] at c2
                clear OA OB CW he1 he2 hx hx1 HGE
                generalize el (oneT g cm h 0 e) (e % h) = y0 at *
                generalize el g e = ge at *
                generalize hr : e % h = r at *
                go_wp2_with fail
                go_region
                go_wp2
                go_roundg (k - (e + 1))
                case measure => omega
                case rel => exact ⟨e + 1, by omega, by omega, by go_num, HC.out, HA.out, HB.out⟩
              · have hx1 : el cm e = 1 := hx
                have he1 : oneT g cm h 1 (e + 1) = (oneT g cm h 1 e).set (e % h) (el g e % (h : Int)) := by show (if _ then _ else _) = _; rw [if_pos hx1]
                have he2 : oneT g cm h 0 (e + 1) = oneT g cm h 0 e := by show (if _ then _ else _) = _; rw [if_neg (by omega)]
                obtain ⟨k0, k0f⟩ := OB.out.at_ hmlt
                have HA : Hid (ON (wr.drew.setCell ⟨z3, e % h, none⟩ (.int .i64 (el g e % (h : Int)))) z2 z3 z2 h h (oneT g cm h 0 (e + 1))) := hid (by
                  rw [he2]
                  exact ON.eqv OA.out (Chg.eqv ((Chg.of (bdrewL wr) (Nat.le_refl _)).trans (chg_set _ (lo := z3) (hi := z4) (Nat.le_refl _) (by omega) _ _)) (.inl (by omega)) (by omega)))
                have HB : Hid (ON (wr.drew.setCell ⟨z3, e % h, none⟩ (.int .i64 (el g e % (h : Int)))) z3 z4 z3 h h (oneT g cm h 1 (e + 1))) := hid (by
                  rw [he1]
                  exact ON.set (ON.eqv OB.out (fun _ _ _ => rfl)) (e % h) _)
                have HC : Hid (Chg z2 z4 W5 (wr.drew.setCell ⟨z3, e % h, none⟩ (.int .i64 (el g e % (h : Int))))) := hid ((CW.out.trans (Chg.of (bdrewL wr) (Nat.le_refl _))).trans (chg_set _ (by omega) (by omega) _ _))
                rw [hx1] at c2
                clear OA OB CW he1 he2 hx hx1 HGE
                generalize el (oneT g cm h 1 e) (e % h) = y0 at *
                generalize el g e = ge at *
                generalize hr : e % h = r at *
                go_wp2_with fail
                go_region
                go_wp2
                go_roundg (k - (e + 1))
                case measure => omega
                case rel => exact ⟨e + 1, by omega, by omega, by go_num, HC.out, HA.out, HB.out⟩
            · have : k = e := by omega
              subst this
              obtain ⟨W6, rfl⟩ : ∃ W6 : World, W6 = wr := ⟨_, rfl⟩
              have hA : oneT g cm h 0 k = sbN g cm h 0 := by rw [HN.out]; exact oneT_all HS.out 0 (.inl rfl)
              have hB : oneT g cm h 1 k = sbN g cm h 1 := by rw [HN.out]; exact oneT_all HS.out 1 (.inr rfl)
              rw [hA] at OA
              rw [hB] at OB
              clear hA hB
              have C8 : Hid (∀ s : Int, (s = 0 ∨ s = 1) → ∀ W A7 c7, RdI W A7 (sbN g cm h s) → Calls Try.prog 68 #[.slice A7 h c7] W fun e w' => ∃ A8 c8, e = .returned (.slice A8 (2 * d + 1) c8) ∧ OR w' W.heap.size w'.heap.size (.slice A8 (2 * d + 1) c8) (rtN d (sbN g cm h s)) ∧ Below W.heap.size W w') := hid fun s hs W A7 c7 hr => (IH.out W A7 c7 _ (sbN_prm (by rw [← HN.out]; exact HP.out) HS.out s hs) hr).mono fun e w' hq => by
                obtain ⟨v, rfl, ho, hb⟩ := hq
                obtain ⟨A8, c8, e8, _, _, _⟩ := OR.shp ho
                rw [rtN_length] at e8
                exact ⟨A8, c8, by rw [e8], by rw [← e8]; exact ho, hb⟩
              have HR0 : Hid (∀ s, s < 2 * d + 1 → (rw_ (rtN d (sbN g cm h 0)) s).length = 2 ^ d) := hid fun s hs => rtN_rw (by rw [sbN_length, HD.out]) hs
              have HR1 : Hid (∀ s, s < 2 * d + 1 → (rw_ (rtN d (sbN g cm h 1)) s).length = 2 ^ d) := hid fun s hs => rtN_rw (by rw [sbN_length, HD.out]) hs
              have HL0 : Hid ((rtN d (sbN g cm h 0)).length = 2 * d + 1) := hid (rtN_length _ _)
              have HL1 : Hid ((rtN d (sbN g cm h 1)).length = 2 * d + 1) := hid (rtN_length _ _)
              have hq2 : 2 ^ d + 2 ^ d = h := by have := HD.out; rw [Nat.pow_succ] at this; omega
              have hqp : 0 < 2 ^ d := Nat.pow_pos (by omega)
              have hd3 : 2 * d + 1 ≤ 7 := by
                have h4 : 2 ^ d ≤ 4 := by omega
                by_cases hdd : d < 3
                · omega
                · have := Nat.pow_le_pow_right (show 0 < 2 by omega) (show 3 ≤ d by omega); omega
              have CO := hid (C8.out 0 (.inl rfl) W6 _ h (OwnI.rd OA.out.2))
              have CT : Hid (∀ W, Below W6.heap.size W6 W → _) := hid fun W hW => C8.out 1 (.inr rfl) W _ h (RdI.below (OwnI.rd OB.out.2) hW)
              have HW0 := hid (HCK.out.trans (CW.out.below (B := w2.heap.size) (by have := SW.out; omega) (by have := SW.out; omega)))
              have HOT := hid (ON.eqv OT.out (CW.out.eqv (.inl (by omega)) (by omega)))
              have HOU := hid (ON.eqv OU.out (CW.out.eqv (.inl (by omega)) (by omega)))
              have hswk := SW.out
              clear IH HS HP OT OU OO HCK HBT CW OA OB C8 BW HBW OW HG2 HGL HIL HCL PW SW HD
              generalize rtN d (sbN g cm h 0) = X0 at *
              generalize rtN d (sbN g cm h 1) = X1 at *
              generalize (goN g cm).take h = T0 at *
              generalize cm.take h = T1 at *
              generalize hm : 2 * d + 1 = m at *
              generalize hqq : 2 ^ d = q at *
              go_wp2_with fail
              refine CO.out.mono ?_
              rintro e w7 ⟨A7, c7, rfl, ho7, hb7⟩
              have HO7 := hid ho7
              have HB7 := hid hb7
              clear CO ho7
              go_wp2_with fail
              refine (CT.out _ HB7.out).mono ?_
              rintro e w8 ⟨A8, c8, rfl, ho8, hb8⟩
              have HO8 := hid ho8
              have HX7 := hid (HO7.out.eqv (Eqv.of hb8 (Nat.le_refl _)))
              have HB8 := hid (bthen HB7.out hb8)
              have hz67 := hb7.size
              have hz78 := hb8.size
              have HOT8 := hid (ON.eqv HOT.out (Eqv.of HB8.out (by omega)))
              have HOU8 := hid (ON.eqv HOU.out (Eqv.of HB8.out (by omega)))
              clear CT ho8 HO7 hb7 hb8 HOT HOU HB7
              go_wp2
              have HOA := hid (ORx.one (w := w8) (lo := wk.heap.size) (b := z1) (n := h) (c := h) (A := some ⟨wk.heap.size, 0, none⟩) HT0L.out.symm (Own.wide (hi' := w8.heap.size) HOT8.out.2 (Nat.le_refl _) (by omega)) (by omega) (by simp [Value.ownBlock]; omega) (by omega) (b0 := w8.heap.size) (Nat.le_refl _))
              have HBA := hid (ballocw w8 (.cells #[.slice (some ⟨wk.heap.size, 0, none⟩) h h] 29))
              have hzA : (w8.alloc (.cells #[.slice (some ⟨wk.heap.size, 0, none⟩) h h] 29)).heap.size = w8.heap.size + 1 := by simp
              go_loopg [19, 20] m (fun gg v s wr => ∃ s' : Nat, s' ≤ m ∧ m - s' ≤ gg ∧ s = .int .i64 s' ∧ Aside (Below w8.heap.size w8 wr) ∧ Aside (ORx wr wk.heap.size wr.heap.size v ([T0] ++ catT X0 X1 s') z1 w8.heap.size))
              case atStart => exact ⟨0, Nat.zero_le _, by omega, rfl, HBA.out, by have := HOA.out; rw [← hzA] at this; simpa [catT, Aside] using this⟩
              case round =>
                obtain ⟨s, hs, hgs, rfl, BS, OS⟩ := hrel
                clear HOA HBA hzA
                obtain ⟨ws, rfl⟩ : ∃ ws : World, ws = wr := ⟨_, rfl⟩
                have hzs := BS.out.size
                by_cases hlt : s < m
                · have hlt' : (s : Int) < (m : Int) := by omega
                  have BSd := bthen BS.out (bdrewL ws)
                  obtain ⟨ba, oa, Ar, cr, rfl, hca, hcc, hra⟩ := (OR.rdn HX7.out).get (k := s) (by rw [HL0.out]; exact hlt)
                  obtain ⟨bb, ob, Br, dr, rfl, hcb, hcd, hrb⟩ := (OR.rdn HO8.out).get (k := s) (by rw [HL1.out]; exact hlt)
                  have hl0 := HR0.out s hlt
                  have hl1 := HR1.out s hlt
                  obtain ⟨b2, o2, rfl, _⟩ := hrb.get (k := 0) (by omega)
                  have HRB := hid hrb
                  have HL2 := hid hl1
                  have cO := s_l00Own ws.drew Ar cr (rw_ X0 s) (by omega) (hra.below BSd)
                  rw [hl0] at hca cO
                  rw [hl1] at hcb
                  have CO := hid (cO.mono (R' := fun e w' => ∃ v, e = .returned v ∧ Own w' ws.drew.heap.size w'.heap.size 2 1 v q (ints (rw_ X0 s)) ∧ Below ws.drew.heap.size ws.drew w') fun e w' hq => by
                    obtain ⟨v, rfl, ho, hb⟩ := hq
                    unfold OwnI at ho
                    rw [hl0] at ho
                    exact ⟨v, rfl, ho, hb⟩)
                  have KA := hid hca
                  have KB := hid hcb
                  have hca' := bcell BSd hca
                  have hcb' := bcell BSd hcb
                  have HBD := hid BSd
                  have HRL : Hid ((rw_ X0 s ++ rw_ X1 s).length = h) := hid (by rw [List.length_append]; omega)
                  have HSU := hid (catT_succ X0 X1 s)
                  have HLN : Hid (([T0] ++ catT X0 X1 s).length + 1 ≤ 1048576) := hid (by simp [catT]; omega)
                  have HOS := hid OS.out
                  have hxd : ws.drew.heap.size = ws.heap.size := rfl
                  have hz1d : z1 < ws.heap.size := by omega
                  have hqh : q + q = h := hq2
                  clear hl0 hl1 hra hrb OS BS BSd hca hcb cO HX7 HO8 HR0 HR1
                  generalize rw_ X0 s = ra at *
                  generalize rw_ X1 s = rb at *
                  go_wp2_with fail
                  go_region_held3 (fun W => W.cell? ⟨ba, oa + s, none⟩ = some (.slice Ar q cr) ∧ W.cell? ⟨bb, ob + s, none⟩ = some (.slice (some ⟨b2, o2, none⟩) q dr))
                    (first | exact ⟨bcell HBD.out KA.out, bcell HBD.out KB.out⟩ | exact ⟨bcell HB12.out KA.out, bcell HB12.out KB.out⟩ | exact ⟨bcell HB13.out KA.out, bcell HB13.out KB.out⟩ | exact ⟨bcell (balloc HB13.out _) KA.out, bcell (balloc HB13.out _) KB.out⟩ | exact ⟨bcell HB14.out KA.out, bcell HB14.out KB.out⟩)
                    (first
                      | (go_at_call 128; refine CO.out.mono ?_; rintro e w12 ⟨v12, rfl, ho12, hb12⟩; have HO12 := hid ho12; have HB12 := hid (bthen HBD.out hb12); have hz12 := hb12.size; clear ho12)
                      | (refine step_appS ws.drew.heap.size rfl _ _ rfl v12 q b2 o2 q dr ra rb rfl rfl HO12.out HL2.out hqp (HRB.out.below HB12.out) (by omega) hz12 ?_; intro g13 c13 w13 ho13 hb13; have HO13 := hid ho13; have HB13 := hid (HB12.out.trans (hb13.mono (by omega))); have hz13 := hb13.size; have HX13 := hid (HOS.out.eqv (Eqv.of (bthen (bdrewL ws) (hb12.trans hb13)) (Nat.le_refl _))); clear ho13)
                      | (refine step_appRx wk.heap.size ws.heap.size z1 w8.heap.size rfl _ _ rfl u19 _ (some ⟨g13, 0, none⟩) c13 h (ra ++ rb) rfl rfl HX13.out (by omega) (by have o := HO13.out; rw [hqh] at o; unfold OI OwnI; rw [HRL.out]; exact Own.wide o (by omega) (Nat.le_refl _)) hz1d (by omega) (by omega) HLN.out ?_; intro v14 w14 ho14 hb14; have HB14 := hid (HB13.out.trans hb14)))
                  have HR14 := hid ho14
                  clear ho14 HO13 HX13 HB13 HB12 HO12 HBD HOS CO KA KB
                  go_wp2
                  go_roundg (m - (s + 1))
                  case measure => omega
                  case rel => exact ⟨s + 1, by omega, by omega, by go_num, HB14.out, by unfold Aside; rw [HSU.out, ← List.append_assoc]; exact HR14.out⟩
                · have : m = s := by omega
                  subst this
                  have HOUs := hid (ON.eqv HOU8.out (Eqv.of BS.out (by omega)))
                  have HOS := hid OS.out
                  have HLN : Hid (([T0] ++ catT X0 X1 m).length + 1 ≤ 1048576) := hid (by simp [catT]; omega)
                  have HUU : Hid (OI ws z1 (z1 + 1) (.slice (some ⟨z1, 0, none⟩) h h) T1) := hid (by rw [hz2]; exact HOUs.out.2)
                  have HBW : Hid (Below w.heap.size w ws) := hid (bthen HB2.out (HW0.out.trans (HB8.out.trans (BS.out.mono (by omega)) |>.mono (by omega))))
                  clear OS BS HOUs HOU8 HOT8
                  go_wp2_with (at_builtin; refine wp_appRlast wk.heap.size z1 w8.heap.size rfl _ _ rfl u19 _ (some ⟨z1, 0, none⟩) h h T1 rfl rfl HOS.out HUU.out (by omega) (by omega) HLN.out ?_; intro v1 w13 ho13 hb13)
                  go_ret
                  rw [HRT.out]
                  exact ⟨_, rfl, OR.wide ho13 (by omega) (Nat.le_refl _), HBW.out.trans (hb13.mono (by omega))⟩
theorem s_route : ∀ d, d ≤ 3 → ∀ (w : World) (A : Option Addr) (c n : Nat) (g : List Int), n = 2 ^ (d + 1) → Prm g n → RdI w A g → Calls Try.prog 68 #[.slice A n c] w (RetRO w (rtN d g)) := by
  intro d
  induction d with
  | zero => intro _ w A c n g hn hp hR; exact s_route0 w A c n g (by simpa using hn) hp hR
  | succ d ih =>
    intro hd w A c n g hn hp hR
    have h4 : 2 ^ d ≤ 4 := Nat.le_trans (Nat.pow_le_pow_right (by omega) (show d ≤ 2 by omega)) (by decide)
    have h1 : 0 < 2 ^ d := Nat.pow_pos (by omega)
    have e1 : 2 ^ (d + 1) = 2 * 2 ^ d := by rw [Nat.pow_succ]; omega
    have e2 : 2 ^ (d + 1 + 1) = 2 * 2 ^ (d + 1) := by rw [Nat.pow_succ]; omega
    exact s_routeS w A c n (2 ^ (d + 1)) d g (by omega) (by omega) (by omega) (by omega) hp hR rfl (hid fun W A' c' g' hp' hr' => ih (by omega) W A' c' _ g' rfl hp' hr')
end Go.Proofs.Ytolcmehndambmaa
