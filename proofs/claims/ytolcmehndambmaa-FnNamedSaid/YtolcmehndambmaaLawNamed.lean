import Derived.Test.YtolcmehndambmaaNmd
set_option linter.unusedVariables false
set_option linter.unusedSimpArgs false
namespace Go.Proofs.Ytolcmehndambmaa
open Go.RowKit

set_option maxRecDepth 100000 in
set_option maxHeartbeats 20000000 in
theorem law_Named1 (w : World) (A0 : Option Addr) (c0 : Nat) (xs0 : List Int) (A1 : Option Addr) (c1 : Nat) (xs1 : List Int) (hs0 : xs0.length ≤ 1048576) (hs1 : xs1.length ≤ 1048576) (hR0 : RdU w A0 xs0) (hR1 : RdU w A1 xs1)
    (CL : Hid (Calls Try.prog 11 #[.slice A0 xs0.length c0, .slice A1 xs1.length c1] w fun e w' => e = .returned (.bool false) ∧ w = w')) :
    Calls Try.prog 10 #[.slice A0 xs0.length c0, .slice A1 xs1.length c1] w fun e w' => e = .returned (.bool true) ∧ Below w.heap.size w w' := by
  have HU0 := hid hR0
  have HU1 := hid hR1
  have CR := hid (s_R8Lanes w A0 c0 xs0 hs0 hR0)
  clear hR0 hR1
  go_enter Try.func10, Try.ntmps10
  go_wp2_with fail
  refine CL.out.mono ?_
  rintro e w0 ⟨rfl, rfl⟩
  clear CL
  go_wp2_with fail
  refine CR.out.mono ?_
  rintro e w1 ⟨lz, rfl, hlz, hb1⟩
  clear CR
  have BW := hid hb1
  clear hb1
  by_cases hz : lz = 16
  · subst hz
    clear hlz
    have hL : (4 : Nat) = 4 ∨ (4 : Nat) = 8 ∨ (4 : Nat) = 16 := .inl rfl
    have hh : (4 : Nat) = 2 * 2 := rfl
    clear hL hh
    have CC := s_R8Vector w1 A0 c0 xs0 8 4 (by decide) (by omega) hs0 (HU0.out.below BW.out)
    try simp only [show ((4 : Nat) : Int) = 4 from rfl, show ((2 : Nat) : Int) = 2 from rfl] at CC
    replace CC := hid CC
    go_wp2_with fail
    refine CC.out.mono ?_
    rintro e w2 ⟨v, a, rfl, ⟨hal, haw⟩, ho, hb⟩
    clear CC
    replace BW := hid (bthen BW.out hb)
    clear hb
    obtain ⟨Aa, ca, rfl, hca, _, ra⟩ := OI.shp ho
    rw [hal] at hca
    rw [hal]
    have Ra := hid ra
    clear ra ho
    have HAL := hid hal
    have hav : vecB 8 a = true := vecB_of hal (by decide) (by decide) haw
    have HAV := hid hav
    clear hal haw hav
    have hq0 := l_r8At w A1 c1 xs1 0 4 hs1 (by omega) (by omega) (by omega) (by omega) HU1.out
    have hq1 := l_r8At w A1 c1 xs1 1 4 hs1 (by omega) (by omega) (by omega) (by omega) HU1.out
    obtain ⟨zp, uz, _, _, _, bk, _, _, ⟨n1, n2, -, -, -, n6, -, -⟩, e1, -, e3, -, -, e6⟩ := nmd (y := 0) (t := 0) (show (4 : Nat) = 4 ∨ (4 : Nat) = 8 ∨ (4 : Nat) = 16 from .inl rfl) (by have := (show (4 : Nat) = 4 ∨ (4 : Nat) = 8 ∨ (4 : Nat) = 16 from .inl rfl); omega) (by have := (show (4 : Nat) = 4 ∨ (4 : Nat) = 8 ∨ (4 : Nat) = 16 from .inl rfl); omega)
    have N1 := hid n1
    have N2 := hid n2
    have N6 := hid n6
    have E1 := hid e1
    have E3 := hid e3
    have E6 := hid e6
    clear n1 n2 n6 e1 e3 e6 hq0 hq1
    have CC := i_NamedShuffle w2 3 4 0
    rw [show m_NamedShuffle 3 4 0 = (zp, true) from N1.out.eq] at CC
    replace CC := hid CC
    go_wp2_with fail
    refine CC.out.mono ?_
    rintro e w3 ⟨v, rfl, ho, hb⟩
    clear CC
    replace BW := hid (bthen BW.out hb)
    replace Ra := hid (Ra.out.below hb)
    clear hb
    obtain ⟨Azp, czp, rfl, hczp, _, rzp⟩ := OI.shp ho
    rw [N1.out.len] at hczp
    rw [N1.out.len]
    have Rzp := hid rzp
    clear rzp ho
    have CC := i_NamedShuffle w3 4 4 0
    rw [show m_NamedShuffle 4 4 0 = (uz, true) from N2.out.eq] at CC
    replace CC := hid CC
    go_wp2_with fail
    refine CC.out.mono ?_
    rintro e w4 ⟨v, rfl, ho, hb⟩
    clear CC
    replace BW := hid (bthen BW.out hb)
    replace Ra := hid (Ra.out.below hb)
    replace Rzp := hid (Rzp.out.below hb)
    clear hb
    obtain ⟨Auz, cuz, rfl, hcuz, _, ruz⟩ := OI.shp ho
    rw [N2.out.len] at hcuz
    rw [N2.out.len]
    have Ruz := hid ruz
    clear ruz ho
    have CC := i_ShuffleLanes w4 8 Azp czp zp Aa ca a (by have := N1.out.len; have := (show (4 : Nat) = 4 ∨ (4 : Nat) = 8 ∨ (4 : Nat) = 16 from .inl rfl); omega) Rzp.out (by have := HAL.out; have := (show (4 : Nat) = 4 ∨ (4 : Nat) = 8 ∨ (4 : Nat) = 16 from .inl rfl); omega) Ra.out
    rw [show m_ShuffleLanes 8 zp a = (pick a zp, true) by unfold m_ShuffleLanes; rw [N1.out.shuf, HAV.out]; simp [N1.out.len, HAL.out], N1.out.len, HAL.out] at CC
    try simp only [show ((4 : Nat) : Int) = 4 from rfl, show ((2 : Nat) : Int) = 2 from rfl] at CC
    replace CC := hid CC
    go_wp2_with fail
    refine CC.out.mono ?_
    rintro e w5 ⟨v, rfl, ho, hb⟩
    clear CC
    replace BW := hid (bthen BW.out hb)
    replace Ra := hid (Ra.out.below hb)
    replace Rzp := hid (Rzp.out.below hb)
    replace Ruz := hid (Ruz.out.below hb)
    clear hb
    have hxl : (pick a zp).length = 4 := by rw [pick_length]; exact N1.out.len
    have hxe : pick a zp = ilv (a.take 2) (a.drop 2) := zip_ilv (show (4 : Nat) = 2 * 2 from rfl) HAL.out N1.out.len E6.out
    generalize pick a zp = x at hxl hxe ho ⊢
    have HXL := hid hxl
    have HXE := hid hxe
    clear hxl hxe
    obtain ⟨Ax, cx, rfl, hcx, _, rx⟩ := OI.shp ho
    rw [HXL.out] at hcx
    rw [HXL.out]
    have Rx := hid rx
    clear rx ho
    have hvt := vec_take (show (4 : Nat) = 2 * 2 from rfl) HAL.out HAV.out (by decide)
    obtain ⟨ba, oa, hAa, _⟩ := Ra.out.get (k := 0) (by have := HAL.out; have := (show (4 : Nat) = 4 ∨ (4 : Nat) = 8 ∨ (4 : Nat) = 16 from .inl rfl); omega)
    subst hAa
    have CI := hid (i_InterleaveLanes w5.drew 8 (some ⟨ba, oa, none⟩) (some ⟨ba, oa + 2, none⟩) ca (ca - 2) 2 (a.take 2) (a.drop 2) hvt.1 hvt.2 (by have := (show (4 : Nat) = 2 * 2 from rfl); (first | (rw [List.length_take, HAL.out]; omega) | rw [List.length_take, HAL.out])) (by have := (show (4 : Nat) = 2 * 2 from rfl); (first | (rw [List.length_drop, HAL.out]; omega) | rw [List.length_drop, HAL.out])) (by have := (show (4 : Nat) = 2 * 2 from rfl); have := (show (4 : Nat) = 4 ∨ (4 : Nat) = 8 ∨ (4 : Nat) = 16 from .inl rfl); omega) (by have := (show (4 : Nat) = 2 * 2 from rfl); have := (show (4 : Nat) = 4 ∨ (4 : Nat) = 8 ∨ (4 : Nat) = 16 from .inl rfl); omega) (by omega) (by omega) (RdI.below (RdI.takeJ Ra.out 2) (bdrewL w5)) (RdI.below (RdI.dropJ Ra.out 2) (bdrewL w5)))
    clear hvt
    have hhca : 2 ≤ ca := by omega
    have hcne : ¬ ca = 2 := by omega
    have hhci : (2 : Int) ≤ (ca : Int) := by omega
    generalize hlo : (ilv (a.take 2) (a.drop 2)).take 2 = lo at CI
    generalize hhi : (ilv (a.take 2) (a.drop 2)).drop 2 = hi at CI
    have HLO := hid hlo
    have HHI := hid hhi
    clear hlo hhi
    go_wp2_with fail
    go_region_held3 (fun W => True) (trivial) (first | (go_at_call 51; with_reducible refine CI.out.mono ?_; rintro e w6 ⟨Alo, clo, Ahi, chi, rfl, hol, hoh, hb0⟩; have HOL := hid hol; have HOH := hid hoh; have hb := bthen (bdrewL w5) hb0; clear hol hoh))
    clear CI
    replace BW := hid (bthen BW.out hb)
    replace Ra := hid (Ra.out.below hb)
    replace Rzp := hid (Rzp.out.below hb)
    replace Ruz := hid (Ruz.out.below hb)
    replace Rx := hid (Rx.out.below hb)
    clear hb
    have hll : lo.length = 2 := by have := (show (4 : Nat) = 2 * 2 from rfl); (first | (rw [← HLO.out, ← HXE.out, List.length_take, HXL.out]; omega) | rw [← HLO.out, ← HXE.out, List.length_take, HXL.out])
    have hhl : hi.length = 2 := by have := (show (4 : Nat) = 2 * 2 from rfl); (first | (rw [← HHI.out, ← HXE.out, List.length_drop, HXL.out]; omega) | rw [← HHI.out, ← HXE.out, List.length_drop, HXL.out])
    have HLL := hid hll
    have HHL := hid hhl
    clear hll hhl hb0
    have Rlo : Hid (RdI w6 Alo lo) := hid (OwnI.rd HOL.out)
    have Rhi : Hid (RdI w6 Ahi hi) := hid (OwnI.rd HOH.out)
    clear HOL HOH
    have HID := hid (idl_length 4)
    have CC := i_ThenShuffle w6 Azp czp zp Auz cuz uz (by have := N1.out.len; have := (show (4 : Nat) = 4 ∨ (4 : Nat) = 8 ∨ (4 : Nat) = 16 from .inl rfl); omega) Rzp.out (by have := N2.out.len; have := (show (4 : Nat) = 4 ∨ (4 : Nat) = 8 ∨ (4 : Nat) = 16 from .inl rfl); omega) Ruz.out
    rw [show m_ThenShuffle zp uz = ((idl 4), true) by unfold m_ThenShuffle; rw [N1.out.shuf, N2.out.shuf, E1.out]; simp [N1.out.len, N2.out.len], N1.out.len, N2.out.len] at CC
    try simp only [show ((4 : Nat) : Int) = 4 from rfl, show ((2 : Nat) : Int) = 2 from rfl] at CC
    replace CC := hid CC
    go_wp2_with fail
    refine CC.out.mono ?_
    rintro e w7 ⟨v, rfl, ho, hb⟩
    clear CC
    replace BW := hid (bthen BW.out hb)
    replace Ra := hid (Ra.out.below hb)
    replace Rzp := hid (Rzp.out.below hb)
    replace Ruz := hid (Ruz.out.below hb)
    replace Rx := hid (Rx.out.below hb)
    replace Rlo := hid (Rlo.out.below hb)
    replace Rhi := hid (Rhi.out.below hb)
    clear hb
    have HSE : Hid (∀ i, i < 4 → el (idl 4) i = i) := hid fun i hi => by unfold idl; exact el_range (fun k : Nat => (k : Int)) hi
    generalize hsm : idl 4 = sm at *
    have HSMI := hid hsm
    clear hsm
    obtain ⟨Asm, csm, rfl, hcsm, _, rsm⟩ := OI.shp ho
    rw [HID.out] at hcsm
    rw [HID.out]
    have Rsm := hid rsm
    clear rsm ho
    have CC := hid (l_r8At w7 A1 c1 xs1 0 4 hs1 (by omega) (by omega) (by omega) (by omega) (HU1.out.below BW.out))
    go_wp2_with fail
    refine CC.out.mono ?_
    rintro e w8 ⟨z, rfl, ⟨hz0, hz1⟩, rfl⟩
    clear CC
    obtain ⟨y, rfl⟩ : ∃ y : Nat, z = y := ⟨z.toNat, by omega⟩
    have hy : y < 4 := by have := hz1 (by omega); omega
    clear hz0 hz1
    have CC := hid (l_r8At w7 A1 c1 xs1 1 4 hs1 (by omega) (by omega) (by omega) (by omega) (HU1.out.below BW.out))
    go_wp2_with fail
    refine CC.out.mono ?_
    rintro e w8 ⟨z, rfl, ⟨hz0, hz1⟩, rfl⟩
    clear CC
    obtain ⟨t, rfl⟩ : ∃ y : Nat, z = y := ⟨z.toNat, by omega⟩
    have ht : t < 4 := by have := hz1 (by omega); omega
    clear hz0 hz1
    obtain ⟨_, _, f1, f2, f3, _, sw, fz, ⟨-, -, n3, n4, n5, -, n7, n8⟩, -, e2, -, e4, e5, -⟩ := nmd (y := y) (t := t) (show (4 : Nat) = 4 ∨ (4 : Nat) = 8 ∨ (4 : Nat) = 16 from .inl rfl) hy ht
    rw [HSMI.out] at e4
    have N3 := hid n3
    have N4 := hid n4
    have N5 := hid n5
    have N7 := hid n7
    have N8 := hid n8
    have E2 := hid e2
    have E4 := hid e4
    have E5 := hid e5
    clear n3 n4 n5 n7 n8 e2 e4 e5
    have hmm : ((y : Int) + (t : Int)) % 4 = (((y + t) % 4 : Nat) : Int) := by omega
    generalize (y + t) % 4 = m at *
    have CC := i_NamedShuffle w7 0 4 y
    rw [show m_NamedShuffle 0 4 y = (f1, true) from N3.out.eq] at CC
    replace CC := hid CC
    go_wp2_with fail
    refine CC.out.mono ?_
    rintro e w8 ⟨v, rfl, ho, hb⟩
    clear CC
    replace BW := hid (bthen BW.out hb)
    replace Ra := hid (Ra.out.below hb)
    replace Rzp := hid (Rzp.out.below hb)
    replace Ruz := hid (Ruz.out.below hb)
    replace Rx := hid (Rx.out.below hb)
    replace Rlo := hid (Rlo.out.below hb)
    replace Rhi := hid (Rhi.out.below hb)
    replace Rsm := hid (Rsm.out.below hb)
    clear hb
    obtain ⟨Af1, cf1, rfl, hcf1, _, rf1⟩ := OI.shp ho
    rw [N3.out.len] at hcf1
    rw [N3.out.len]
    have Rf1 := hid rf1
    clear rf1 ho
    have CC := i_NamedShuffle w8 0 4 t
    rw [show m_NamedShuffle 0 4 t = (f2, true) from N4.out.eq] at CC
    replace CC := hid CC
    go_wp2_with fail
    refine CC.out.mono ?_
    rintro e w9 ⟨v, rfl, ho, hb⟩
    clear CC
    replace BW := hid (bthen BW.out hb)
    replace Ra := hid (Ra.out.below hb)
    replace Rzp := hid (Rzp.out.below hb)
    replace Ruz := hid (Ruz.out.below hb)
    replace Rx := hid (Rx.out.below hb)
    replace Rlo := hid (Rlo.out.below hb)
    replace Rhi := hid (Rhi.out.below hb)
    replace Rsm := hid (Rsm.out.below hb)
    replace Rf1 := hid (Rf1.out.below hb)
    clear hb
    obtain ⟨Af2, cf2, rfl, hcf2, _, rf2⟩ := OI.shp ho
    rw [N4.out.len] at hcf2
    rw [N4.out.len]
    have Rf2 := hid rf2
    clear rf2 ho
    have CC := i_NamedShuffle w9 0 4 m
    rw [show m_NamedShuffle 0 4 m = (f3, true) from N5.out.eq] at CC
    replace CC := hid CC
    go_wp2_with fail
    refine CC.out.mono ?_
    rintro e w10 ⟨v, rfl, ho, hb⟩
    clear CC
    replace BW := hid (bthen BW.out hb)
    replace Ra := hid (Ra.out.below hb)
    replace Rzp := hid (Rzp.out.below hb)
    replace Ruz := hid (Ruz.out.below hb)
    replace Rx := hid (Rx.out.below hb)
    replace Rlo := hid (Rlo.out.below hb)
    replace Rhi := hid (Rhi.out.below hb)
    replace Rsm := hid (Rsm.out.below hb)
    replace Rf1 := hid (Rf1.out.below hb)
    replace Rf2 := hid (Rf2.out.below hb)
    clear hb
    obtain ⟨Af3, cf3, rfl, hcf3, _, rf3⟩ := OI.shp ho
    rw [N5.out.len] at hcf3
    rw [N5.out.len]
    have Rf3 := hid rf3
    clear rf3 ho
    clear hmm
    have CC := i_ThenShuffle w10 Af1 cf1 f1 Af2 cf2 f2 (by have := N3.out.len; have := (show (4 : Nat) = 4 ∨ (4 : Nat) = 8 ∨ (4 : Nat) = 16 from .inl rfl); omega) Rf1.out (by have := N4.out.len; have := (show (4 : Nat) = 4 ∨ (4 : Nat) = 8 ∨ (4 : Nat) = 16 from .inl rfl); omega) Rf2.out
    rw [show m_ThenShuffle f1 f2 = (f3, true) by unfold m_ThenShuffle; rw [N3.out.shuf, N4.out.shuf, E2.out]; simp [N3.out.len, N4.out.len], N3.out.len, N4.out.len] at CC
    try simp only [show ((4 : Nat) : Int) = 4 from rfl, show ((2 : Nat) : Int) = 2 from rfl] at CC
    replace CC := hid CC
    go_wp2_with fail
    refine CC.out.mono ?_
    rintro e w11 ⟨v, rfl, ho, hb⟩
    clear CC
    replace BW := hid (bthen BW.out hb)
    replace Ra := hid (Ra.out.below hb)
    replace Rzp := hid (Rzp.out.below hb)
    replace Ruz := hid (Ruz.out.below hb)
    replace Rx := hid (Rx.out.below hb)
    replace Rlo := hid (Rlo.out.below hb)
    replace Rhi := hid (Rhi.out.below hb)
    replace Rsm := hid (Rsm.out.below hb)
    replace Rf1 := hid (Rf1.out.below hb)
    replace Rf2 := hid (Rf2.out.below hb)
    replace Rf3 := hid (Rf3.out.below hb)
    clear hb
    obtain ⟨Atu, ctu, rfl, hctu, _, rtu⟩ := OI.shp ho
    rw [N5.out.len] at hctu
    rw [N5.out.len]
    have Rtu := hid rtu
    clear rtu ho
    obtain ⟨bx, ox, hAx, _⟩ := Rx.out.get (k := 0) (by have := HXL.out; have := (show (4 : Nat) = 4 ∨ (4 : Nat) = 8 ∨ (4 : Nat) = 16 from .inl rfl); omega)
    subst hAx
    have hhcx : 2 ≤ cx := by omega
    have hcnx : ¬ cx = 2 := by omega
    have hhcxi : (2 : Int) ≤ (cx : Int) := by omega
    have CC := l_r8Same w11 Atu Af3 ctu cf3 f3 f3 (by rw [N5.out.len]; omega) (by rw [N5.out.len]; omega) Rtu.out Rf3.out
    rw [show decide (f3 = f3) = true by simp, N5.out.len] at CC
    try simp only [show ((4 : Nat) : Int) = 4 from rfl, show ((2 : Nat) : Int) = 2 from rfl] at CC
    replace CC := hid CC
    go_wp2_with fail
    refine CC.out.mono ?_
    rintro e w12 ⟨rfl, hb⟩
    clear CC
    replace BW := hid (bthen BW.out hb)
    replace Ra := hid (Ra.out.below hb)
    replace Rzp := hid (Rzp.out.below hb)
    replace Ruz := hid (Ruz.out.below hb)
    replace Rx := hid (Rx.out.below hb)
    replace Rlo := hid (Rlo.out.below hb)
    replace Rhi := hid (Rhi.out.below hb)
    replace Rsm := hid (Rsm.out.below hb)
    replace Rf1 := hid (Rf1.out.below hb)
    replace Rf2 := hid (Rf2.out.below hb)
    replace Rf3 := hid (Rf3.out.below hb)
    replace Rtu := hid (Rtu.out.below hb)
    clear hb
    have HX1 : Hid ((x.take 2) = lo) := hid (by rw [← HLO.out, ← HXE.out])
    have HX2 : Hid ((x.drop 2) = hi) := hid (by rw [← HHI.out, ← HXE.out])
    have CC := l_r8Same w12 (some ⟨bx, ox, none⟩) Alo cx clo (x.take 2) lo (by rw [(show (x.take 2).length = 2 by rw [HX1.out]; exact HLL.out)]; omega) (by rw [HLL.out]; omega) (RdI.takeJ Rx.out 2) Rlo.out
    rw [show decide ((x.take 2) = lo) = true by rw [HX1.out]; simp, (show (x.take 2).length = 2 by rw [HX1.out]; exact HLL.out), HLL.out] at CC
    try simp only [show ((4 : Nat) : Int) = 4 from rfl, show ((2 : Nat) : Int) = 2 from rfl] at CC
    replace CC := hid CC
    go_wp2_with fail
    refine CC.out.mono ?_
    rintro e w13 ⟨rfl, hb⟩
    clear CC
    replace BW := hid (bthen BW.out hb)
    replace Ra := hid (Ra.out.below hb)
    replace Rzp := hid (Rzp.out.below hb)
    replace Ruz := hid (Ruz.out.below hb)
    replace Rx := hid (Rx.out.below hb)
    replace Rlo := hid (Rlo.out.below hb)
    replace Rhi := hid (Rhi.out.below hb)
    replace Rsm := hid (Rsm.out.below hb)
    replace Rf1 := hid (Rf1.out.below hb)
    replace Rf2 := hid (Rf2.out.below hb)
    replace Rf3 := hid (Rf3.out.below hb)
    replace Rtu := hid (Rtu.out.below hb)
    clear hb
    have CC := l_r8Same w13 (some ⟨bx, ox + 2, none⟩) Ahi (cx - 2) chi (x.drop 2) hi (by rw [(show (x.drop 2).length = 2 by rw [HX2.out]; exact HHL.out)]; omega) (by rw [HHL.out]; omega) (RdI.dropJ Rx.out 2) Rhi.out
    rw [show decide ((x.drop 2) = hi) = true by rw [HX2.out]; simp, (show (x.drop 2).length = 2 by rw [HX2.out]; exact HHL.out), HHL.out] at CC
    try simp only [show ((4 : Nat) : Int) = 4 from rfl, show ((2 : Nat) : Int) = 2 from rfl] at CC
    replace CC := hid CC
    go_wp2_with fail
    refine CC.out.mono ?_
    rintro e w14 ⟨rfl, hb⟩
    clear CC
    replace BW := hid (bthen BW.out hb)
    replace Ra := hid (Ra.out.below hb)
    replace Rzp := hid (Rzp.out.below hb)
    replace Ruz := hid (Ruz.out.below hb)
    replace Rx := hid (Rx.out.below hb)
    replace Rlo := hid (Rlo.out.below hb)
    replace Rhi := hid (Rhi.out.below hb)
    replace Rsm := hid (Rsm.out.below hb)
    replace Rf1 := hid (Rf1.out.below hb)
    replace Rf2 := hid (Rf2.out.below hb)
    replace Rf3 := hid (Rf3.out.below hb)
    replace Rtu := hid (Rtu.out.below hb)
    clear hb
    clear Rx
    clear Rlo
    clear Rhi
    clear Rtu
    clear Rf3
    clear Rzp
    clear Ruz
    clear Rf1
    clear Rf2
    clear Ra
    have CC := i_NamedShuffle w14 1 4 0
    rw [show m_NamedShuffle 1 4 0 = (bk, true) from N6.out.eq] at CC
    replace CC := hid CC
    go_wp2_with fail
    refine CC.out.mono ?_
    rintro e w15 ⟨v, rfl, ho, hb⟩
    clear CC
    replace BW := hid (bthen BW.out hb)
    replace Rsm := hid (Rsm.out.below hb)
    clear hb
    obtain ⟨Abk, cbk, rfl, hcbk, _, rbk⟩ := OI.shp ho
    rw [N6.out.len] at hcbk
    rw [N6.out.len]
    have Rbk := hid rbk
    clear rbk ho
    have CC := i_NamedShuffle w15 2 4 y
    rw [show m_NamedShuffle 2 4 y = (sw, true) from N7.out.eq] at CC
    replace CC := hid CC
    go_wp2_with fail
    refine CC.out.mono ?_
    rintro e w16 ⟨v, rfl, ho, hb⟩
    clear CC
    replace BW := hid (bthen BW.out hb)
    replace Rsm := hid (Rsm.out.below hb)
    replace Rbk := hid (Rbk.out.below hb)
    clear hb
    obtain ⟨Asw, csw, rfl, hcsw, _, rsw⟩ := OI.shp ho
    rw [N7.out.len] at hcsw
    rw [N7.out.len]
    have Rsw := hid rsw
    clear rsw ho
    have CC := i_NamedShuffle w16 5 4 y
    rw [show m_NamedShuffle 5 4 y = (fz, true) from N8.out.eq] at CC
    replace CC := hid CC
    go_wp2_with fail
    refine CC.out.mono ?_
    rintro e w17 ⟨v, rfl, ho, hb⟩
    clear CC
    replace BW := hid (bthen BW.out hb)
    replace Rsm := hid (Rsm.out.below hb)
    replace Rbk := hid (Rbk.out.below hb)
    replace Rsw := hid (Rsw.out.below hb)
    clear hb
    obtain ⟨Afz, cfz, rfl, hcfz, _, rfz⟩ := OI.shp ho
    rw [N8.out.len] at hcfz
    rw [N8.out.len]
    have Rfz := hid rfz
    clear rfz ho
    have CC := i_ThenShuffle w17 Abk cbk bk Abk cbk bk (by have := N6.out.len; have := (show (4 : Nat) = 4 ∨ (4 : Nat) = 8 ∨ (4 : Nat) = 16 from .inl rfl); omega) Rbk.out (by have := N6.out.len; have := (show (4 : Nat) = 4 ∨ (4 : Nat) = 8 ∨ (4 : Nat) = 16 from .inl rfl); omega) Rbk.out
    rw [show m_ThenShuffle bk bk = (sm, true) by unfold m_ThenShuffle; rw [N6.out.shuf, E3.out]; simp [N6.out.len, N6.out.len], N6.out.len] at CC
    try simp only [show ((4 : Nat) : Int) = 4 from rfl, show ((2 : Nat) : Int) = 2 from rfl] at CC
    replace CC := hid CC
    go_wp2_with fail
    refine CC.out.mono ?_
    rintro e w18 ⟨v, rfl, ho, hb⟩
    clear CC
    replace BW := hid (bthen BW.out hb)
    replace Rsm := hid (Rsm.out.below hb)
    replace Rbk := hid (Rbk.out.below hb)
    replace Rsw := hid (Rsw.out.below hb)
    replace Rfz := hid (Rfz.out.below hb)
    clear hb
    obtain ⟨Atw, ctw, rfl, hctw, _, rtw⟩ := OI.shp ho
    rw [HID.out] at hctw
    rw [HID.out]
    have Rtw := hid rtw
    clear rtw ho
    have CC := i_ThenShuffle w18 Asw csw sw Asw csw sw (by have := N7.out.len; have := (show (4 : Nat) = 4 ∨ (4 : Nat) = 8 ∨ (4 : Nat) = 16 from .inl rfl); omega) Rsw.out (by have := N7.out.len; have := (show (4 : Nat) = 4 ∨ (4 : Nat) = 8 ∨ (4 : Nat) = 16 from .inl rfl); omega) Rsw.out
    rw [show m_ThenShuffle sw sw = (sm, true) by unfold m_ThenShuffle; rw [N7.out.shuf, E4.out]; simp [N7.out.len, N7.out.len], N7.out.len] at CC
    try simp only [show ((4 : Nat) : Int) = 4 from rfl, show ((2 : Nat) : Int) = 2 from rfl] at CC
    replace CC := hid CC
    go_wp2_with fail
    refine CC.out.mono ?_
    rintro e w19 ⟨v, rfl, ho, hb⟩
    clear CC
    replace BW := hid (bthen BW.out hb)
    replace Rsm := hid (Rsm.out.below hb)
    replace Rbk := hid (Rbk.out.below hb)
    replace Rsw := hid (Rsw.out.below hb)
    replace Rfz := hid (Rfz.out.below hb)
    replace Rtw := hid (Rtw.out.below hb)
    clear hb
    obtain ⟨Aag, cag, rfl, hcag, _, rag⟩ := OI.shp ho
    rw [HID.out] at hcag
    rw [HID.out]
    have Rag := hid rag
    clear rag ho
    have CC := l_r8Same w19 Atw Asm ctw csm sm sm (by rw [HID.out]; omega) (by rw [HID.out]; omega) Rtw.out Rsm.out
    rw [show decide (sm = sm) = true by simp, HID.out] at CC
    try simp only [show ((4 : Nat) : Int) = 4 from rfl, show ((2 : Nat) : Int) = 2 from rfl] at CC
    replace CC := hid CC
    go_wp2_with fail
    refine CC.out.mono ?_
    rintro e w20 ⟨rfl, hb⟩
    clear CC
    replace BW := hid (bthen BW.out hb)
    replace Rsm := hid (Rsm.out.below hb)
    replace Rbk := hid (Rbk.out.below hb)
    replace Rsw := hid (Rsw.out.below hb)
    replace Rfz := hid (Rfz.out.below hb)
    replace Rtw := hid (Rtw.out.below hb)
    replace Rag := hid (Rag.out.below hb)
    clear hb
    have CC := l_r8Same w20 Aag Asm cag csm sm sm (by rw [HID.out]; omega) (by rw [HID.out]; omega) Rag.out Rsm.out
    rw [show decide (sm = sm) = true by simp, HID.out] at CC
    try simp only [show ((4 : Nat) : Int) = 4 from rfl, show ((2 : Nat) : Int) = 2 from rfl] at CC
    replace CC := hid CC
    go_wp2_with fail
    refine CC.out.mono ?_
    rintro e w21 ⟨rfl, hb⟩
    clear CC
    replace BW := hid (bthen BW.out hb)
    replace Rsm := hid (Rsm.out.below hb)
    replace Rbk := hid (Rbk.out.below hb)
    replace Rsw := hid (Rsw.out.below hb)
    replace Rfz := hid (Rfz.out.below hb)
    replace Rtw := hid (Rtw.out.below hb)
    replace Rag := hid (Rag.out.below hb)
    clear hb
    clear Rtw Rag Rbk Rsw
    go_wp2_with fail
    go_loopg [39] 4 (fun gg s wr => ∃ i : Nat, i ≤ 4 ∧ 4 - i ≤ gg ∧ s = .int .i64 i ∧ Aside (w21 = wr))
    case atStart => exact ⟨0, Nat.zero_le _, by omega, rfl, rfl⟩
    case round =>
        obtain ⟨i, hi, hg, rfl, BI⟩ := hrel
        obtain rfl := BI.out
        by_cases hlt : i < 4
        · have hlt' : (i : Int) < 4 := by omega
          obtain ⟨b1, o1, rfl, hc1⟩ := Rsm.out.get (k := i) (by rw [HID.out]; exact hlt)
          obtain ⟨b2, o2, rfl, hc2⟩ := Rfz.out.get (k := i) (by rw [N8.out.len]; exact hlt)
          rw [HSE.out i hlt] at hc1
          rw [E5.out i hlt] at hc2
          clear Rsm Rfz
          go_wp2_with fail
          go_roundg (4 - (i + 1))
          case measure => omega
          case rel => exact ⟨i + 1, by omega, by omega, by go_num, rfl⟩
        · have : i = 4 := by omega
          subst this
          go_wp2_with fail
          go_ret
          exact ⟨rfl, BW.out⟩
  · obtain ⟨L, h, hz2, hL, hh⟩ : ∃ L h : Nat, 2 * lz = L ∧ (L = 4 ∨ L = 8 ∨ L = 16) ∧ L = 2 * h := by
      have := lanesB_or hlz
      exact ⟨(2 * lz).toNat, lz.toNat, by omega, by omega, by omega⟩
    clear hlz hz
    have hnle : ¬ (16 : Int) < (L : Int) := by omega
    have hnh : (L : Int) / 2 = (h : Int) := by omega
    have hL16 : L ≤ 16 := by omega
    have hL4 : 4 ≤ L := by omega
    have hLh : L - h = h := by omega
    have hhL : h ≤ L := by omega
    have hh8 : h ≤ 8 := by omega
    have hh2 : 2 ≤ h := by omega
    have HL := hid hL
    have HH := hid hh
    clear hL hh
    have CC := s_R8Vector w1 A0 c0 xs0 8 L (by decide) (by omega) hs0 (HU0.out.below BW.out)
    replace CC := hid CC
    go_wp2_with fail
    refine CC.out.mono ?_
    rintro e w2 ⟨v, a, rfl, ⟨hal, haw⟩, ho, hb⟩
    clear CC
    replace BW := hid (bthen BW.out hb)
    clear hb
    obtain ⟨Aa, ca, rfl, hca, _, ra⟩ := OI.shp ho
    rw [hal] at hca
    rw [hal]
    have Ra := hid ra
    clear ra ho
    have HAL := hid hal
    have hav : vecB 8 a = true := vecB_of hal (by rcases HL.out with q | q | q <;> rw [q] <;> rfl) (by decide) haw
    have HAV := hid hav
    clear hal haw hav
    have hq0 := l_r8At w A1 c1 xs1 0 (L : Int) hs1 (by omega) (by omega) (by omega) (by omega) HU1.out
    have hq1 := l_r8At w A1 c1 xs1 1 (L : Int) hs1 (by omega) (by omega) (by omega) (by omega) HU1.out
    obtain ⟨zp, uz, _, _, _, bk, _, _, ⟨n1, n2, -, -, -, n6, -, -⟩, e1, -, e3, -, -, e6⟩ := nmd (y := 0) (t := 0) HL.out (by have := HL.out; omega) (by have := HL.out; omega)
    have N1 := hid n1
    have N2 := hid n2
    have N6 := hid n6
    have E1 := hid e1
    have E3 := hid e3
    have E6 := hid e6
    clear n1 n2 n6 e1 e3 e6 hq0 hq1
    have CC := i_NamedShuffle w2 3 (L : Int) 0
    rw [show m_NamedShuffle 3 (L : Int) 0 = (zp, true) from N1.out.eq] at CC
    replace CC := hid CC
    go_wp2_with fail
    refine CC.out.mono ?_
    rintro e w3 ⟨v, rfl, ho, hb⟩
    clear CC
    replace BW := hid (bthen BW.out hb)
    replace Ra := hid (Ra.out.below hb)
    clear hb
    obtain ⟨Azp, czp, rfl, hczp, _, rzp⟩ := OI.shp ho
    rw [N1.out.len] at hczp
    rw [N1.out.len]
    have Rzp := hid rzp
    clear rzp ho
    have CC := i_NamedShuffle w3 4 (L : Int) 0
    rw [show m_NamedShuffle 4 (L : Int) 0 = (uz, true) from N2.out.eq] at CC
    replace CC := hid CC
    go_wp2_with fail
    refine CC.out.mono ?_
    rintro e w4 ⟨v, rfl, ho, hb⟩
    clear CC
    replace BW := hid (bthen BW.out hb)
    replace Ra := hid (Ra.out.below hb)
    replace Rzp := hid (Rzp.out.below hb)
    clear hb
    obtain ⟨Auz, cuz, rfl, hcuz, _, ruz⟩ := OI.shp ho
    rw [N2.out.len] at hcuz
    rw [N2.out.len]
    have Ruz := hid ruz
    clear ruz ho
    have CC := i_ShuffleLanes w4 8 Azp czp zp Aa ca a (by have := N1.out.len; have := HL.out; omega) Rzp.out (by have := HAL.out; have := HL.out; omega) Ra.out
    rw [show m_ShuffleLanes 8 zp a = (pick a zp, true) by unfold m_ShuffleLanes; rw [N1.out.shuf, HAV.out]; simp [N1.out.len, HAL.out], N1.out.len, HAL.out] at CC
    replace CC := hid CC
    go_wp2_with fail
    refine CC.out.mono ?_
    rintro e w5 ⟨v, rfl, ho, hb⟩
    clear CC
    replace BW := hid (bthen BW.out hb)
    replace Ra := hid (Ra.out.below hb)
    replace Rzp := hid (Rzp.out.below hb)
    replace Ruz := hid (Ruz.out.below hb)
    clear hb
    have hxl : (pick a zp).length = L := by rw [pick_length]; exact N1.out.len
    have hxe : pick a zp = ilv (a.take h) (a.drop h) := zip_ilv HH.out HAL.out N1.out.len E6.out
    generalize pick a zp = x at hxl hxe ho ⊢
    have HXL := hid hxl
    have HXE := hid hxe
    clear hxl hxe
    obtain ⟨Ax, cx, rfl, hcx, _, rx⟩ := OI.shp ho
    rw [HXL.out] at hcx
    rw [HXL.out]
    have Rx := hid rx
    clear rx ho
    have hvt := vec_take HH.out HAL.out HAV.out (by rcases HL.out with q | q | q <;> (have := HH.out; first | decide | (have : h = 2 ∨ h = 4 ∨ h = 8 := by omega) <;> rcases this with r | r | r <;> rw [r] <;> rfl))
    obtain ⟨ba, oa, hAa, _⟩ := Ra.out.get (k := 0) (by have := HAL.out; have := HL.out; omega)
    subst hAa
    have CI := hid (i_InterleaveLanes w5.drew 8 (some ⟨ba, oa, none⟩) (some ⟨ba, oa + h, none⟩) ca (ca - h) h (a.take h) (a.drop h) hvt.1 hvt.2 (by have := HH.out; (first | (rw [List.length_take, HAL.out]; omega) | rw [List.length_take, HAL.out])) (by have := HH.out; (first | (rw [List.length_drop, HAL.out]; omega) | rw [List.length_drop, HAL.out])) (by have := HH.out; have := HL.out; omega) (by have := HH.out; have := HL.out; omega) (by omega) (by omega) (RdI.below (RdI.takeJ Ra.out h) (bdrewL w5)) (RdI.below (RdI.dropJ Ra.out h) (bdrewL w5)))
    clear hvt
    have hhca : h ≤ ca := by omega
    have hcne : ¬ ca = h := by omega
    have hhci : (h : Int) ≤ (ca : Int) := by omega
    have hhLi : (h : Int) ≤ (L : Int) := by omega
    generalize hlo : (ilv (a.take h) (a.drop h)).take h = lo at CI
    generalize hhi : (ilv (a.take h) (a.drop h)).drop h = hi at CI
    have HLO := hid hlo
    have HHI := hid hhi
    clear hlo hhi
    go_wp2_with fail
    go_region_held3 (fun W => True) (trivial) (first | (go_at_call 51; with_reducible refine CI.out.mono ?_; rintro e w6 ⟨Alo, clo, Ahi, chi, rfl, hol, hoh, hb0⟩; have HOL := hid hol; have HOH := hid hoh; have hb := bthen (bdrewL w5) hb0; clear hol hoh))
    clear CI
    replace BW := hid (bthen BW.out hb)
    replace Ra := hid (Ra.out.below hb)
    replace Rzp := hid (Rzp.out.below hb)
    replace Ruz := hid (Ruz.out.below hb)
    replace Rx := hid (Rx.out.below hb)
    clear hb
    have hll : lo.length = h := by have := HH.out; (first | (rw [← HLO.out, ← HXE.out, List.length_take, HXL.out]; omega) | rw [← HLO.out, ← HXE.out, List.length_take, HXL.out])
    have hhl : hi.length = h := by have := HH.out; (first | (rw [← HHI.out, ← HXE.out, List.length_drop, HXL.out]; omega) | rw [← HHI.out, ← HXE.out, List.length_drop, HXL.out])
    have HLL := hid hll
    have HHL := hid hhl
    clear hll hhl hb0
    have Rlo : Hid (RdI w6 Alo lo) := hid (OwnI.rd HOL.out)
    have Rhi : Hid (RdI w6 Ahi hi) := hid (OwnI.rd HOH.out)
    clear HOL HOH
    have HID := hid (idl_length L)
    have CC := i_ThenShuffle w6 Azp czp zp Auz cuz uz (by have := N1.out.len; have := HL.out; omega) Rzp.out (by have := N2.out.len; have := HL.out; omega) Ruz.out
    rw [show m_ThenShuffle zp uz = ((idl L), true) by unfold m_ThenShuffle; rw [N1.out.shuf, N2.out.shuf, E1.out]; simp [N1.out.len, N2.out.len], N1.out.len, N2.out.len] at CC
    replace CC := hid CC
    go_wp2_with fail
    refine CC.out.mono ?_
    rintro e w7 ⟨v, rfl, ho, hb⟩
    clear CC
    replace BW := hid (bthen BW.out hb)
    replace Ra := hid (Ra.out.below hb)
    replace Rzp := hid (Rzp.out.below hb)
    replace Ruz := hid (Ruz.out.below hb)
    replace Rx := hid (Rx.out.below hb)
    replace Rlo := hid (Rlo.out.below hb)
    replace Rhi := hid (Rhi.out.below hb)
    clear hb
    have HSE : Hid (∀ i, i < L → el (idl L) i = i) := hid fun i hi => by unfold idl; exact el_range (fun k : Nat => (k : Int)) hi
    generalize hsm : idl L = sm at *
    have HSMI := hid hsm
    clear hsm
    obtain ⟨Asm, csm, rfl, hcsm, _, rsm⟩ := OI.shp ho
    rw [HID.out] at hcsm
    rw [HID.out]
    have Rsm := hid rsm
    clear rsm ho
    have CC := hid (l_r8At w7 A1 c1 xs1 0 (L : Int) hs1 (by omega) (by omega) (by omega) (by omega) (HU1.out.below BW.out))
    go_wp2_with fail
    refine CC.out.mono ?_
    rintro e w8 ⟨z, rfl, ⟨hz0, hz1⟩, rfl⟩
    clear CC
    obtain ⟨y, rfl⟩ : ∃ y : Nat, z = y := ⟨z.toNat, by omega⟩
    have hy : y < L := by have := hz1 (by omega); omega
    clear hz0 hz1
    have CC := hid (l_r8At w7 A1 c1 xs1 1 (L : Int) hs1 (by omega) (by omega) (by omega) (by omega) (HU1.out.below BW.out))
    go_wp2_with fail
    refine CC.out.mono ?_
    rintro e w8 ⟨z, rfl, ⟨hz0, hz1⟩, rfl⟩
    clear CC
    obtain ⟨t, rfl⟩ : ∃ y : Nat, z = y := ⟨z.toNat, by omega⟩
    have ht : t < L := by have := hz1 (by omega); omega
    clear hz0 hz1
    obtain ⟨_, _, f1, f2, f3, _, sw, fz, ⟨-, -, n3, n4, n5, -, n7, n8⟩, -, e2, -, e4, e5, -⟩ := nmd (y := y) (t := t) HL.out hy ht
    rw [HSMI.out] at e4
    have N3 := hid n3
    have N4 := hid n4
    have N5 := hid n5
    have N7 := hid n7
    have N8 := hid n8
    have E2 := hid e2
    have E4 := hid e4
    have E5 := hid e5
    clear n3 n4 n5 n7 n8 e2 e4 e5
    have hmm : ((y : Int) + (t : Int)) % (L : Int) = (((y + t) % L : Nat) : Int) := by rw [Int.natCast_emod, Int.natCast_add]
    generalize (y + t) % L = m at *
    have CC := i_NamedShuffle w7 0 (L : Int) y
    rw [show m_NamedShuffle 0 (L : Int) y = (f1, true) from N3.out.eq] at CC
    replace CC := hid CC
    go_wp2_with fail
    refine CC.out.mono ?_
    rintro e w8 ⟨v, rfl, ho, hb⟩
    clear CC
    replace BW := hid (bthen BW.out hb)
    replace Ra := hid (Ra.out.below hb)
    replace Rzp := hid (Rzp.out.below hb)
    replace Ruz := hid (Ruz.out.below hb)
    replace Rx := hid (Rx.out.below hb)
    replace Rlo := hid (Rlo.out.below hb)
    replace Rhi := hid (Rhi.out.below hb)
    replace Rsm := hid (Rsm.out.below hb)
    clear hb
    obtain ⟨Af1, cf1, rfl, hcf1, _, rf1⟩ := OI.shp ho
    rw [N3.out.len] at hcf1
    rw [N3.out.len]
    have Rf1 := hid rf1
    clear rf1 ho
    have CC := i_NamedShuffle w8 0 (L : Int) t
    rw [show m_NamedShuffle 0 (L : Int) t = (f2, true) from N4.out.eq] at CC
    replace CC := hid CC
    go_wp2_with fail
    refine CC.out.mono ?_
    rintro e w9 ⟨v, rfl, ho, hb⟩
    clear CC
    replace BW := hid (bthen BW.out hb)
    replace Ra := hid (Ra.out.below hb)
    replace Rzp := hid (Rzp.out.below hb)
    replace Ruz := hid (Ruz.out.below hb)
    replace Rx := hid (Rx.out.below hb)
    replace Rlo := hid (Rlo.out.below hb)
    replace Rhi := hid (Rhi.out.below hb)
    replace Rsm := hid (Rsm.out.below hb)
    replace Rf1 := hid (Rf1.out.below hb)
    clear hb
    obtain ⟨Af2, cf2, rfl, hcf2, _, rf2⟩ := OI.shp ho
    rw [N4.out.len] at hcf2
    rw [N4.out.len]
    have Rf2 := hid rf2
    clear rf2 ho
    have CC := i_NamedShuffle w9 0 (L : Int) m
    rw [show m_NamedShuffle 0 (L : Int) m = (f3, true) from N5.out.eq] at CC
    replace CC := hid CC
    go_wp2_with fail
    refine CC.out.mono ?_
    rintro e w10 ⟨v, rfl, ho, hb⟩
    clear CC
    replace BW := hid (bthen BW.out hb)
    replace Ra := hid (Ra.out.below hb)
    replace Rzp := hid (Rzp.out.below hb)
    replace Ruz := hid (Ruz.out.below hb)
    replace Rx := hid (Rx.out.below hb)
    replace Rlo := hid (Rlo.out.below hb)
    replace Rhi := hid (Rhi.out.below hb)
    replace Rsm := hid (Rsm.out.below hb)
    replace Rf1 := hid (Rf1.out.below hb)
    replace Rf2 := hid (Rf2.out.below hb)
    clear hb
    obtain ⟨Af3, cf3, rfl, hcf3, _, rf3⟩ := OI.shp ho
    rw [N5.out.len] at hcf3
    rw [N5.out.len]
    have Rf3 := hid rf3
    clear rf3 ho
    clear hmm
    have CC := i_ThenShuffle w10 Af1 cf1 f1 Af2 cf2 f2 (by have := N3.out.len; have := HL.out; omega) Rf1.out (by have := N4.out.len; have := HL.out; omega) Rf2.out
    rw [show m_ThenShuffle f1 f2 = (f3, true) by unfold m_ThenShuffle; rw [N3.out.shuf, N4.out.shuf, E2.out]; simp [N3.out.len, N4.out.len], N3.out.len, N4.out.len] at CC
    replace CC := hid CC
    go_wp2_with fail
    refine CC.out.mono ?_
    rintro e w11 ⟨v, rfl, ho, hb⟩
    clear CC
    replace BW := hid (bthen BW.out hb)
    replace Ra := hid (Ra.out.below hb)
    replace Rzp := hid (Rzp.out.below hb)
    replace Ruz := hid (Ruz.out.below hb)
    replace Rx := hid (Rx.out.below hb)
    replace Rlo := hid (Rlo.out.below hb)
    replace Rhi := hid (Rhi.out.below hb)
    replace Rsm := hid (Rsm.out.below hb)
    replace Rf1 := hid (Rf1.out.below hb)
    replace Rf2 := hid (Rf2.out.below hb)
    replace Rf3 := hid (Rf3.out.below hb)
    clear hb
    obtain ⟨Atu, ctu, rfl, hctu, _, rtu⟩ := OI.shp ho
    rw [N5.out.len] at hctu
    rw [N5.out.len]
    have Rtu := hid rtu
    clear rtu ho
    obtain ⟨bx, ox, hAx, _⟩ := Rx.out.get (k := 0) (by have := HXL.out; have := HL.out; omega)
    subst hAx
    have hhcx : h ≤ cx := by omega
    have hcnx : ¬ cx = h := by omega
    have hhcxi : (h : Int) ≤ (cx : Int) := by omega
    have CC := l_r8Same w11 Atu Af3 ctu cf3 f3 f3 (by rw [N5.out.len]; omega) (by rw [N5.out.len]; omega) Rtu.out Rf3.out
    rw [show decide (f3 = f3) = true by simp, N5.out.len] at CC
    replace CC := hid CC
    go_wp2_with fail
    refine CC.out.mono ?_
    rintro e w12 ⟨rfl, hb⟩
    clear CC
    replace BW := hid (bthen BW.out hb)
    replace Ra := hid (Ra.out.below hb)
    replace Rzp := hid (Rzp.out.below hb)
    replace Ruz := hid (Ruz.out.below hb)
    replace Rx := hid (Rx.out.below hb)
    replace Rlo := hid (Rlo.out.below hb)
    replace Rhi := hid (Rhi.out.below hb)
    replace Rsm := hid (Rsm.out.below hb)
    replace Rf1 := hid (Rf1.out.below hb)
    replace Rf2 := hid (Rf2.out.below hb)
    replace Rf3 := hid (Rf3.out.below hb)
    replace Rtu := hid (Rtu.out.below hb)
    clear hb
    have HX1 : Hid ((x.take h) = lo) := hid (by rw [← HLO.out, ← HXE.out])
    have HX2 : Hid ((x.drop h) = hi) := hid (by rw [← HHI.out, ← HXE.out])
    have CC := l_r8Same w12 (some ⟨bx, ox, none⟩) Alo cx clo (x.take h) lo (by rw [(show (x.take h).length = h by rw [HX1.out]; exact HLL.out)]; omega) (by rw [HLL.out]; omega) (RdI.takeJ Rx.out h) Rlo.out
    rw [show decide ((x.take h) = lo) = true by rw [HX1.out]; simp, (show (x.take h).length = h by rw [HX1.out]; exact HLL.out), HLL.out] at CC
    replace CC := hid CC
    go_wp2_with fail
    refine CC.out.mono ?_
    rintro e w13 ⟨rfl, hb⟩
    clear CC
    replace BW := hid (bthen BW.out hb)
    replace Ra := hid (Ra.out.below hb)
    replace Rzp := hid (Rzp.out.below hb)
    replace Ruz := hid (Ruz.out.below hb)
    replace Rx := hid (Rx.out.below hb)
    replace Rlo := hid (Rlo.out.below hb)
    replace Rhi := hid (Rhi.out.below hb)
    replace Rsm := hid (Rsm.out.below hb)
    replace Rf1 := hid (Rf1.out.below hb)
    replace Rf2 := hid (Rf2.out.below hb)
    replace Rf3 := hid (Rf3.out.below hb)
    replace Rtu := hid (Rtu.out.below hb)
    clear hb
    have CC := l_r8Same w13 (some ⟨bx, ox + h, none⟩) Ahi (cx - h) chi (x.drop h) hi (by rw [(show (x.drop h).length = h by rw [HX2.out]; exact HHL.out)]; omega) (by rw [HHL.out]; omega) (RdI.dropJ Rx.out h) Rhi.out
    rw [show decide ((x.drop h) = hi) = true by rw [HX2.out]; simp, (show (x.drop h).length = h by rw [HX2.out]; exact HHL.out), HHL.out] at CC
    replace CC := hid CC
    go_wp2_with fail
    refine CC.out.mono ?_
    rintro e w14 ⟨rfl, hb⟩
    clear CC
    replace BW := hid (bthen BW.out hb)
    replace Ra := hid (Ra.out.below hb)
    replace Rzp := hid (Rzp.out.below hb)
    replace Ruz := hid (Ruz.out.below hb)
    replace Rx := hid (Rx.out.below hb)
    replace Rlo := hid (Rlo.out.below hb)
    replace Rhi := hid (Rhi.out.below hb)
    replace Rsm := hid (Rsm.out.below hb)
    replace Rf1 := hid (Rf1.out.below hb)
    replace Rf2 := hid (Rf2.out.below hb)
    replace Rf3 := hid (Rf3.out.below hb)
    replace Rtu := hid (Rtu.out.below hb)
    clear hb
    clear Rx
    clear Rlo
    clear Rhi
    clear Rtu
    clear Rf3
    clear Rzp
    clear Ruz
    clear Rf1
    clear Rf2
    clear Ra
    have CC := i_NamedShuffle w14 1 (L : Int) 0
    rw [show m_NamedShuffle 1 (L : Int) 0 = (bk, true) from N6.out.eq] at CC
    replace CC := hid CC
    go_wp2_with fail
    refine CC.out.mono ?_
    rintro e w15 ⟨v, rfl, ho, hb⟩
    clear CC
    replace BW := hid (bthen BW.out hb)
    replace Rsm := hid (Rsm.out.below hb)
    clear hb
    obtain ⟨Abk, cbk, rfl, hcbk, _, rbk⟩ := OI.shp ho
    rw [N6.out.len] at hcbk
    rw [N6.out.len]
    have Rbk := hid rbk
    clear rbk ho
    have CC := i_NamedShuffle w15 2 (L : Int) y
    rw [show m_NamedShuffle 2 (L : Int) y = (sw, true) from N7.out.eq] at CC
    replace CC := hid CC
    go_wp2_with fail
    refine CC.out.mono ?_
    rintro e w16 ⟨v, rfl, ho, hb⟩
    clear CC
    replace BW := hid (bthen BW.out hb)
    replace Rsm := hid (Rsm.out.below hb)
    replace Rbk := hid (Rbk.out.below hb)
    clear hb
    obtain ⟨Asw, csw, rfl, hcsw, _, rsw⟩ := OI.shp ho
    rw [N7.out.len] at hcsw
    rw [N7.out.len]
    have Rsw := hid rsw
    clear rsw ho
    have CC := i_NamedShuffle w16 5 (L : Int) y
    rw [show m_NamedShuffle 5 (L : Int) y = (fz, true) from N8.out.eq] at CC
    replace CC := hid CC
    go_wp2_with fail
    refine CC.out.mono ?_
    rintro e w17 ⟨v, rfl, ho, hb⟩
    clear CC
    replace BW := hid (bthen BW.out hb)
    replace Rsm := hid (Rsm.out.below hb)
    replace Rbk := hid (Rbk.out.below hb)
    replace Rsw := hid (Rsw.out.below hb)
    clear hb
    obtain ⟨Afz, cfz, rfl, hcfz, _, rfz⟩ := OI.shp ho
    rw [N8.out.len] at hcfz
    rw [N8.out.len]
    have Rfz := hid rfz
    clear rfz ho
    have CC := i_ThenShuffle w17 Abk cbk bk Abk cbk bk (by have := N6.out.len; have := HL.out; omega) Rbk.out (by have := N6.out.len; have := HL.out; omega) Rbk.out
    rw [show m_ThenShuffle bk bk = (sm, true) by unfold m_ThenShuffle; rw [N6.out.shuf, E3.out]; simp [N6.out.len, N6.out.len], N6.out.len] at CC
    replace CC := hid CC
    go_wp2_with fail
    refine CC.out.mono ?_
    rintro e w18 ⟨v, rfl, ho, hb⟩
    clear CC
    replace BW := hid (bthen BW.out hb)
    replace Rsm := hid (Rsm.out.below hb)
    replace Rbk := hid (Rbk.out.below hb)
    replace Rsw := hid (Rsw.out.below hb)
    replace Rfz := hid (Rfz.out.below hb)
    clear hb
    obtain ⟨Atw, ctw, rfl, hctw, _, rtw⟩ := OI.shp ho
    rw [HID.out] at hctw
    rw [HID.out]
    have Rtw := hid rtw
    clear rtw ho
    have CC := i_ThenShuffle w18 Asw csw sw Asw csw sw (by have := N7.out.len; have := HL.out; omega) Rsw.out (by have := N7.out.len; have := HL.out; omega) Rsw.out
    rw [show m_ThenShuffle sw sw = (sm, true) by unfold m_ThenShuffle; rw [N7.out.shuf, E4.out]; simp [N7.out.len, N7.out.len], N7.out.len] at CC
    replace CC := hid CC
    go_wp2_with fail
    refine CC.out.mono ?_
    rintro e w19 ⟨v, rfl, ho, hb⟩
    clear CC
    replace BW := hid (bthen BW.out hb)
    replace Rsm := hid (Rsm.out.below hb)
    replace Rbk := hid (Rbk.out.below hb)
    replace Rsw := hid (Rsw.out.below hb)
    replace Rfz := hid (Rfz.out.below hb)
    replace Rtw := hid (Rtw.out.below hb)
    clear hb
    obtain ⟨Aag, cag, rfl, hcag, _, rag⟩ := OI.shp ho
    rw [HID.out] at hcag
    rw [HID.out]
    have Rag := hid rag
    clear rag ho
    have CC := l_r8Same w19 Atw Asm ctw csm sm sm (by rw [HID.out]; omega) (by rw [HID.out]; omega) Rtw.out Rsm.out
    rw [show decide (sm = sm) = true by simp, HID.out] at CC
    replace CC := hid CC
    go_wp2_with fail
    refine CC.out.mono ?_
    rintro e w20 ⟨rfl, hb⟩
    clear CC
    replace BW := hid (bthen BW.out hb)
    replace Rsm := hid (Rsm.out.below hb)
    replace Rbk := hid (Rbk.out.below hb)
    replace Rsw := hid (Rsw.out.below hb)
    replace Rfz := hid (Rfz.out.below hb)
    replace Rtw := hid (Rtw.out.below hb)
    replace Rag := hid (Rag.out.below hb)
    clear hb
    have CC := l_r8Same w20 Aag Asm cag csm sm sm (by rw [HID.out]; omega) (by rw [HID.out]; omega) Rag.out Rsm.out
    rw [show decide (sm = sm) = true by simp, HID.out] at CC
    replace CC := hid CC
    go_wp2_with fail
    refine CC.out.mono ?_
    rintro e w21 ⟨rfl, hb⟩
    clear CC
    replace BW := hid (bthen BW.out hb)
    replace Rsm := hid (Rsm.out.below hb)
    replace Rbk := hid (Rbk.out.below hb)
    replace Rsw := hid (Rsw.out.below hb)
    replace Rfz := hid (Rfz.out.below hb)
    replace Rtw := hid (Rtw.out.below hb)
    replace Rag := hid (Rag.out.below hb)
    clear hb
    clear Rtw Rag Rbk Rsw
    go_wp2_with fail
    go_loopg [39] L (fun gg s wr => ∃ i : Nat, i ≤ L ∧ L - i ≤ gg ∧ s = .int .i64 i ∧ Aside (w21 = wr))
    case atStart => exact ⟨0, Nat.zero_le _, by omega, rfl, rfl⟩
    case round =>
        obtain ⟨i, hi, hg, rfl, BI⟩ := hrel
        obtain rfl := BI.out
        by_cases hlt : i < L
        · have hlt' : (i : Int) < (L : Int) := by omega
          obtain ⟨b1, o1, rfl, hc1⟩ := Rsm.out.get (k := i) (by rw [HID.out]; exact hlt)
          obtain ⟨b2, o2, rfl, hc2⟩ := Rfz.out.get (k := i) (by rw [N8.out.len]; exact hlt)
          rw [HSE.out i hlt] at hc1
          rw [E5.out i hlt] at hc2
          clear Rsm Rfz
          go_wp2_with fail
          go_roundg (L - (i + 1))
          case measure => omega
          case rel => exact ⟨i + 1, by omega, by omega, by go_num, rfl⟩
        · have : i = L := by omega
          subst this
          go_wp2_with fail
          go_ret
          exact ⟨rfl, BW.out⟩
set_option maxRecDepth 100000 in
theorem law_Named (w : World) (A0 : Option Addr) (c0 : Nat) (xs0 : List Int) (A1 : Option Addr) (c1 : Nat) (xs1 : List Int) (hl0 : xs0.length ≤ 9223372036854775807) (hR0 : RdU w A0 xs0) (hl1 : xs1.length ≤ 9223372036854775807) (hR1 : RdU w A1 xs1) :
    Calls Try.prog 10 #[.slice A0 xs0.length c0, .slice A1 xs1.length c1] w fun e w' => e = .returned (.bool true) ∧ Below w.heap.size w w' := by
  have CL := hid (l_r8Long w A0 A1 xs0.length c0 xs1.length c1 hl0 hl1)
  cases hlong : (decide (48 < xs0.length) || decide (48 < xs1.length)) with
  | true =>
    rw [hlong] at CL
    clear hlong hR0 hR1
    go_enter Try.func10, Try.ntmps10
    go_wp2_with fail
    refine CL.out.mono ?_
    rintro e w1 ⟨rfl, rfl⟩
    go_wp2_with fail
    go_ret
    exact ⟨rfl, Below.refl _ _⟩
  | false =>
    rw [hlong] at CL
    have hs0 : xs0.length ≤ 48 := by simp at hlong; omega
    have hs1 : xs1.length ≤ 48 := by simp at hlong; omega
    exact law_Named1 w A0 c0 xs0 A1 c1 xs1 (by omega) (by omega) hR0 hR1 CL
end Go.Proofs.Ytolcmehndambmaa
