import Derived.Test.YthgfcoafngddgaaShfl
set_option linter.unusedVariables false
set_option linter.unusedSimpArgs false
namespace Go.Proofs.Ythgfcoafngddgaa
open Go.RowKit

set_option maxRecDepth 100000 in
set_option maxHeartbeats 4000000 in
theorem law_Shuffled (w : World) (A0 : Option Addr) (c0 : Nat) (xs0 : List Int) (A1 : Option Addr) (c1 : Nat) (xs1 : List Int) (hl0 : xs0.length ≤ 9223372036854775807) (hR0 : RdU w A0 xs0) (hl1 : xs1.length ≤ 9223372036854775807) (hR1 : RdU w A1 xs1) :
    Calls Try.prog 14 #[.slice A0 xs0.length c0, .slice A1 xs1.length c1] w fun e w' => e = .returned (.bool true) ∧ Below w.heap.size w w' := by
  have CL := hid (l_r8Long w A0 A1 xs0.length c0 xs1.length c1 hl0 hl1)
  cases hlong : (decide (48 < xs0.length) || decide (48 < xs1.length)) with
  | true =>
    rw [hlong] at CL
    clear hlong hR0 hR1
    go_enter Try.func14, Try.ntmps14
    go_wp2_with fail
    refine CL.out.mono ?_
    rintro e w1 ⟨rfl, rfl⟩
    go_wp2_with fail
    go_ret
    exact ⟨rfl, Below.refl _ _⟩
  | false =>
    rw [hlong] at CL
    have hs0 : xs0.length ≤ 48 := by simp at hlong; omega
    have hs1 : xs1.length ≤ 48 := by simp at hlong; omega
    have HU0 := hid hR0
    have HU1 := hid hR1
    clear hlong hR0 hR1 hl0 hl1
    go_enter Try.func14, Try.ntmps14
    go_wp2_with fail
    refine CL.out.mono ?_
    rintro e w0 ⟨rfl, rfl⟩
    clear CL
    have BW := hid (Below.refl w.heap.size w)
    have CC := hid (s_R8Bits w A0 c0 xs0 (by omega) (HU0.out.below BW.out))
    go_wp2_with fail
    refine CC.out.mono ?_
    rintro e w1 ⟨b, rfl, hb0, hb⟩
    clear CC
    have HBI := hid hb0
    clear hb0
    replace BW := hid (bthen BW.out hb)
    clear hb
    have CC := hid (s_R8Lanes w1 A1 c1 xs1 (by omega) (HU1.out.below BW.out))
    go_wp2_with fail
    refine CC.out.mono ?_
    rintro e w2 ⟨lz, rfl, hn0, hb⟩
    clear CC
    replace BW := hid (bthen BW.out hb)
    clear hb
    obtain ⟨n, hnz⟩ : ∃ n : Nat, lz = n := ⟨lz.toNat, by have := lanesB_or hn0; omega⟩
    subst hnz
    have HN := hid hn0
    have hn : n = 2 ∨ n = 4 ∨ n = 8 ∨ n = 16 := by have := lanesB_or hn0; omega
    have hn16 : n ≤ 16 := by omega
    have HNN := hid hn
    clear hn hn0
    have CC := hid (s_R8Vector w2 A0 c0 xs0 b n HBI.out (by omega) (by omega) (HU0.out.below BW.out))
    go_wp2_with fail
    refine CC.out.mono ?_
    rintro e w3 ⟨v, a, rfl, ⟨hal, haw⟩, ho, hb⟩
    clear CC
    replace BW := hid (bthen BW.out hb)
    clear hb
    have hav := vecB_of hal HN.out HBI.out haw
    obtain ⟨Aa, ca, rfl, hca, _, ra⟩ := OI.shp ho
    have HCa := hid hca
    have Ra := hid ra
    clear ra ho hca
    have HAL := hid hal
    have HAV := hid hav
    clear hal haw hav
    have CC := hid (s_R8Shuffle w3 A0 c0 xs0 n HNN.out (by omega) (HU0.out.below BW.out))
    go_wp2_with fail
    refine CC.out.mono ?_
    rintro e w4 ⟨v, f, rfl, ⟨h1, h2⟩, ho, hb⟩
    clear CC
    replace BW := hid (bthen BW.out hb)
    replace Ra := hid (Ra.out.below hb)
    clear hb
    obtain ⟨Af, cf, rfl, hcf, _, rf⟩ := OI.shp ho
    have HCf := hid hcf
    have Rf := hid rf
    clear rf ho hcf
    have HFS := hid h1
    have HFL := hid h2
    clear h1 h2
    have CC := hid (s_R8Shuffle w4 A1 c1 xs1 n HNN.out (by omega) (HU1.out.below BW.out))
    go_wp2_with fail
    refine CC.out.mono ?_
    rintro e w5 ⟨v, s, rfl, ⟨h1, h2⟩, ho, hb⟩
    clear CC
    replace BW := hid (bthen BW.out hb)
    replace Ra := hid (Ra.out.below hb)
    replace Rf := hid (Rf.out.below hb)
    clear hb
    obtain ⟨As, cs, rfl, hcs, _, rs⟩ := OI.shp ho
    have HCs := hid hcs
    have Rs := hid rs
    clear rs ho hcs
    have HSS := hid h1
    have HSL := hid h2
    clear h1 h2
    have CC := i_ShuffleLanes w5 b Af cf f Aa ca a (by have := HFL.out; omega) Rf.out (by have := HAL.out; omega) Ra.out
    rw [show m_ShuffleLanes b f a = (pick a f, true) by unfold m_ShuffleLanes; rw [HFS.out, HAV.out]; simp [HFL.out, HAL.out]] at CC
    have CC := hid CC
    go_wp2_with fail
    refine CC.out.mono ?_
    rintro e w6 ⟨v, rfl, ho, hb⟩
    clear CC
    replace BW := hid (bthen BW.out hb)
    replace Ra := hid (Ra.out.below hb)
    replace Rf := hid (Rf.out.below hb)
    replace Rs := hid (Rs.out.below hb)
    clear hb
    have h1 : vecB b (pick a f) = true := pick_vec HFS.out HAV.out (by have := HFL.out; have := HAL.out; omega)
    have h2 : (pick a f).length = n := by rw [pick_length]; exact HFL.out
    generalize hE : pick a f = x at h1 h2 ho ⊢
    have HXE := hid hE
    clear hE
    obtain ⟨Ax, cx, rfl, hcx, _, rx⟩ := OI.shp ho
    have HCx := hid hcx
    have Rx := hid rx
    clear rx ho hcx
    have HXV := hid h1
    have HXL := hid h2
    clear h1 h2
    have CC := i_ShuffleLanes w6 b As cs s Ax cx x (by have := HSL.out; omega) Rs.out (by have := HXL.out; omega) Rx.out
    rw [show m_ShuffleLanes b s x = (pick x s, true) by unfold m_ShuffleLanes; rw [HSS.out, HXV.out]; simp [HSL.out, HXL.out]] at CC
    have CC := hid CC
    go_wp2_with fail
    refine CC.out.mono ?_
    rintro e w7 ⟨v, rfl, ho, hb⟩
    clear CC
    replace BW := hid (bthen BW.out hb)
    replace Ra := hid (Ra.out.below hb)
    replace Rf := hid (Rf.out.below hb)
    replace Rs := hid (Rs.out.below hb)
    replace Rx := hid (Rx.out.below hb)
    clear hb
    have h1 : vecB b (pick x s) = true := pick_vec HSS.out HXV.out (by have := HSL.out; have := HXL.out; omega)
    have h2 : (pick x s).length = n := by rw [pick_length]; exact HSL.out
    generalize hE : pick x s = y at h1 h2 ho ⊢
    have HYE := hid hE
    clear hE
    obtain ⟨Ay, cy, rfl, hcy, _, ry⟩ := OI.shp ho
    have HCy := hid hcy
    have Ry := hid ry
    clear ry ho hcy
    have HYV := hid h1
    have HYL := hid h2
    clear h1 h2
    have CC := i_ThenShuffle w7 Af cf f As cs s (by have := HFL.out; omega) Rf.out (by have := HSL.out; omega) Rs.out
    rw [show m_ThenShuffle f s = (pick f s, true) by unfold m_ThenShuffle; rw [HFS.out, HSS.out]; simp [HFL.out, HSL.out]] at CC
    have CC := hid CC
    go_wp2_with fail
    refine CC.out.mono ?_
    rintro e w8 ⟨v, rfl, ho, hb⟩
    clear CC
    replace BW := hid (bthen BW.out hb)
    replace Ra := hid (Ra.out.below hb)
    replace Rf := hid (Rf.out.below hb)
    replace Rs := hid (Rs.out.below hb)
    replace Rx := hid (Rx.out.below hb)
    replace Ry := hid (Ry.out.below hb)
    clear hb
    have h1 : shufB (pick f s) = true := pick_shuf HFS.out HSS.out (by have := HFL.out; have := HSL.out; omega)
    have h2 : (pick f s).length = n := by rw [pick_length]; exact HSL.out
    generalize hE : pick f s = t at h1 h2 ho ⊢
    have HTE := hid hE
    clear hE
    obtain ⟨At, ct, rfl, hct, _, rt⟩ := OI.shp ho
    have HCt := hid hct
    have Rt := hid rt
    clear rt ho hct
    have HTS := hid h1
    have HTL := hid h2
    clear h1 h2
    have CC := i_ShuffleLanes w8 b At ct t Aa ca a (by have := HTL.out; omega) Rt.out (by have := HAL.out; omega) Ra.out
    rw [show m_ShuffleLanes b t a = (pick a t, true) by unfold m_ShuffleLanes; rw [HTS.out, HAV.out]; simp [HTL.out, HAL.out]] at CC
    have CC := hid CC
    go_wp2_with fail
    refine CC.out.mono ?_
    rintro e w9 ⟨v, rfl, ho, hb⟩
    clear CC
    replace BW := hid (bthen BW.out hb)
    replace Ra := hid (Ra.out.below hb)
    replace Rf := hid (Rf.out.below hb)
    replace Rs := hid (Rs.out.below hb)
    replace Rx := hid (Rx.out.below hb)
    replace Ry := hid (Ry.out.below hb)
    replace Rt := hid (Rt.out.below hb)
    clear hb
    have h1 : vecB b (pick a t) = true := pick_vec HTS.out HAV.out (by have := HTL.out; have := HAL.out; omega)
    have h2 : (pick a t).length = n := by rw [pick_length]; exact HTL.out
    generalize hE : pick a t = z at h1 h2 ho ⊢
    have HZE := hid hE
    clear hE
    obtain ⟨Az, cz, rfl, hcz, _, rz⟩ := OI.shp ho
    have HCz := hid hcz
    have Rz := hid rz
    clear rz ho hcz
    have HZV := hid h1
    have HZL := hid h2
    clear h1 h2
    have CC := hid (s_R8Order w9 A1 c1 xs1 n HNN.out (by omega) (HU1.out.below BW.out))
    go_wp2_with fail
    refine CC.out.mono ?_
    rintro e w10 ⟨v, q, rfl, h1, ho, hb⟩
    clear CC
    replace BW := hid (bthen BW.out hb)
    replace Ra := hid (Ra.out.below hb)
    replace Rf := hid (Rf.out.below hb)
    replace Rs := hid (Rs.out.below hb)
    replace Rx := hid (Rx.out.below hb)
    replace Ry := hid (Ry.out.below hb)
    replace Rt := hid (Rt.out.below hb)
    replace Rz := hid (Rz.out.below hb)
    clear hb
    obtain ⟨Aq, cq, rfl, hcq, _, rq⟩ := OI.shp ho
    have HCq := hid hcq
    have Rq := hid rq
    clear rq ho hcq
    have HQO := hid h1
    have HQS := hid (h1.shuf HN.out)
    have HQL := hid h1.1
    clear h1
    have CC := i_InverseShuffle w10 Aq cq q (by have := HQL.out; omega) Rq.out
    rw [show m_InverseShuffle q = (inv q, true) by unfold m_InverseShuffle; rw [ord_orderB HQO.out HN.out]; rfl] at CC
    have CC := hid CC
    go_wp2_with fail
    refine CC.out.mono ?_
    rintro e w11 ⟨v, rfl, ho, hb⟩
    clear CC
    replace BW := hid (bthen BW.out hb)
    replace Ra := hid (Ra.out.below hb)
    replace Rf := hid (Rf.out.below hb)
    replace Rs := hid (Rs.out.below hb)
    replace Rx := hid (Rx.out.below hb)
    replace Ry := hid (Ry.out.below hb)
    replace Rt := hid (Rt.out.below hb)
    replace Rz := hid (Rz.out.below hb)
    replace Rq := hid (Rq.out.below hb)
    clear hb
    have h1 := ord_inv HQO.out
    generalize hE : inv q = k at h1 ho ⊢
    have HKE := hid hE
    clear hE
    obtain ⟨Ak, ck, rfl, hck, _, rk⟩ := OI.shp ho
    have HCk := hid hck
    have Rk := hid rk
    clear rk ho hck
    have HKS := hid (h1.shuf HN.out)
    have HKL := hid h1.1
    clear h1
    have CC := i_ShuffleLanes w11 b Aq cq q Aa ca a (by have := HQL.out; omega) Rq.out (by have := HAL.out; omega) Ra.out
    rw [show m_ShuffleLanes b q a = (pick a q, true) by unfold m_ShuffleLanes; rw [HQS.out, HAV.out]; simp [HQL.out, HAL.out]] at CC
    have CC := hid CC
    go_wp2_with fail
    refine CC.out.mono ?_
    rintro e w12 ⟨v, rfl, ho, hb⟩
    clear CC
    replace BW := hid (bthen BW.out hb)
    replace Ra := hid (Ra.out.below hb)
    replace Rf := hid (Rf.out.below hb)
    replace Rs := hid (Rs.out.below hb)
    replace Rx := hid (Rx.out.below hb)
    replace Ry := hid (Ry.out.below hb)
    replace Rt := hid (Rt.out.below hb)
    replace Rz := hid (Rz.out.below hb)
    replace Rq := hid (Rq.out.below hb)
    replace Rk := hid (Rk.out.below hb)
    clear hb
    have h1 : vecB b (pick a q) = true := pick_vec HQS.out HAV.out (by have := HQL.out; have := HAL.out; omega)
    have h2 : (pick a q).length = n := by rw [pick_length]; exact HQL.out
    generalize hE : pick a q = u at h1 h2 ho ⊢
    have HUE := hid hE
    clear hE
    obtain ⟨Au, cu, rfl, hcu, _, ru⟩ := OI.shp ho
    have HCu := hid hcu
    have Ru := hid ru
    clear ru ho hcu
    have HUV := hid h1
    have HUL := hid h2
    clear h1 h2
    have CC := i_ShuffleLanes w12 b Ak ck k Au cu u (by have := HKL.out; omega) Rk.out (by have := HUL.out; omega) Ru.out
    rw [show m_ShuffleLanes b k u = (pick u k, true) by unfold m_ShuffleLanes; rw [HKS.out, HUV.out]; simp [HKL.out, HUL.out]] at CC
    have CC := hid CC
    go_wp2_with fail
    refine CC.out.mono ?_
    rintro e w13 ⟨v, rfl, ho, hb⟩
    clear CC
    replace BW := hid (bthen BW.out hb)
    replace Ra := hid (Ra.out.below hb)
    replace Rf := hid (Rf.out.below hb)
    replace Rs := hid (Rs.out.below hb)
    replace Rx := hid (Rx.out.below hb)
    replace Ry := hid (Ry.out.below hb)
    replace Rt := hid (Rt.out.below hb)
    replace Rz := hid (Rz.out.below hb)
    replace Rq := hid (Rq.out.below hb)
    replace Rk := hid (Rk.out.below hb)
    replace Ru := hid (Ru.out.below hb)
    clear hb
    have h1 : vecB b (pick u k) = true := pick_vec HKS.out HUV.out (by have := HKL.out; have := HUL.out; omega)
    have h2 : (pick u k).length = n := by rw [pick_length]; exact HKL.out
    generalize hE : pick u k = g at h1 h2 ho ⊢
    have HGE := hid hE
    clear hE
    obtain ⟨Ag, cg, rfl, hcg, _, rg⟩ := OI.shp ho
    have HCg := hid hcg
    have Rg := hid rg
    clear rg ho hcg
    have HGV := hid h1
    have HGL := hid h2
    clear h1 h2
    have HYZ : Hid (y = z) := hid (by rw [← HYE.out, ← HXE.out, ← HZE.out, ← HTE.out]; exact pick_pick HSS.out (by have := HFL.out; have := HSL.out; omega))
    have HGA : Hid (g = a) := hid (by rw [← HGE.out, ← HUE.out, ← HKE.out]; exact pick_back HQO.out HAL.out)
    have CC := l_r8Same w13 Ay Az cy cz y z (by have := HYL.out; omega) (by have := HZL.out; omega) Ry.out Rz.out
    rw [show decide (y = z) = true by rw [HYZ.out]; simp] at CC
    have CC := hid CC
    go_wp2_with fail
    refine CC.out.mono ?_
    rintro e w14 ⟨rfl, hb⟩
    clear CC
    replace BW := hid (bthen BW.out hb)
    replace Ra := hid (Ra.out.below hb)
    replace Rf := hid (Rf.out.below hb)
    replace Rs := hid (Rs.out.below hb)
    replace Rx := hid (Rx.out.below hb)
    replace Ry := hid (Ry.out.below hb)
    replace Rt := hid (Rt.out.below hb)
    replace Rz := hid (Rz.out.below hb)
    replace Rq := hid (Rq.out.below hb)
    replace Rk := hid (Rk.out.below hb)
    replace Ru := hid (Ru.out.below hb)
    replace Rg := hid (Rg.out.below hb)
    clear hb
    have CC := l_r8Same w14 Ag Aa cg ca g a (by have := HGL.out; omega) (by have := HAL.out; omega) Rg.out Ra.out
    rw [show decide (g = a) = true by rw [HGA.out]; simp] at CC
    have CC := hid CC
    go_wp2_with fail
    refine CC.out.mono ?_
    rintro e w15 ⟨rfl, hb⟩
    clear CC
    replace BW := hid (bthen BW.out hb)
    replace Ra := hid (Ra.out.below hb)
    replace Rf := hid (Rf.out.below hb)
    replace Rs := hid (Rs.out.below hb)
    replace Rx := hid (Rx.out.below hb)
    replace Ry := hid (Ry.out.below hb)
    replace Rt := hid (Rt.out.below hb)
    replace Rz := hid (Rz.out.below hb)
    replace Rq := hid (Rq.out.below hb)
    replace Rk := hid (Rk.out.below hb)
    replace Ru := hid (Ru.out.below hb)
    replace Rg := hid (Rg.out.below hb)
    clear hb
    have CC := i_IsShuffle w15 At ct t (by have := HTL.out; omega) Rt.out
    rw [HTS.out] at CC
    have CC := hid CC
    go_wp2_with fail
    refine CC.out.mono ?_
    rintro e w16 ⟨rfl, hb⟩
    clear CC
    replace BW := hid (bthen BW.out hb)
    replace Ra := hid (Ra.out.below hb)
    replace Rf := hid (Rf.out.below hb)
    replace Rs := hid (Rs.out.below hb)
    replace Rx := hid (Rx.out.below hb)
    replace Ry := hid (Ry.out.below hb)
    replace Rt := hid (Rt.out.below hb)
    replace Rz := hid (Rz.out.below hb)
    replace Rq := hid (Rq.out.below hb)
    replace Rk := hid (Rk.out.below hb)
    replace Ru := hid (Ru.out.below hb)
    replace Rg := hid (Rg.out.below hb)
    clear hb
    clear Rx HCx
    clear Ry HCy
    clear Rt HCt
    clear Rz HCz
    clear Rq HCq
    clear Rk HCk
    clear Rg HCg
    clear Rs HCs
    clear HXE HYE HTE HZE HKE HUE HGE HYZ HGA HXV HXL HYV HYL HTS HTL HZV HZL HQO HQS HQL HKS HKL HGV HGL HSS HSL HU0 HU1
    have hown := Own.of (World.ownsRow_lit (base := w16.heap.size) (e := 2) (size := 1) w16 #[] 0 (Nat.le_refl _) (by simp [maxLen]) rfl)
    have HOW := hid hown
    clear hown
    go_wp2_with fail
    go_loopg [25, 26] n (fun gg v s wr => ∃ k : Nat, k ≤ n ∧ n - k ≤ gg ∧ s = .int .i64 k ∧ Aside (Below w16.heap.size w16 wr) ∧ Aside (OwnI wr w16.heap.size wr.heap.size 2 v (bothL f n k)))
    case atStart => exact ⟨0, Nat.zero_le _, by omega, rfl, ballocw _ _, by simpa [Aside, OwnI, bothL, ints] using HOW.out⟩
    case round =>
      obtain ⟨j, hj, hg, rfl, BJ, OJ⟩ := hrel
      clear HOW
      by_cases hlt : j < n
      · have hlt' : (j : Int) < (n : Int) := by omega
        obtain ⟨bf, off, e', hcf⟩ := (Rf.out.below BJ.out).get (k := j) (by have := HFL.out; omega)
        subst e'
        have hfr := shufB_el HFS.out (k := j) (by have := HFL.out; omega)
        obtain ⟨hf0, hf1⟩ := hfr
        rw [HFL.out] at hf1
        have hjf : (j : Int) < (f.length : Int) := by have := HFL.out; omega
        have hfl16 : f.length ≤ 16 := by have := HFL.out; omega
        have HSN := hid (bothL_snoc f n j)
        have hbl : (bothL f n j).length ≤ 16 := by rw [bothL_length]; omega
        have hz := BJ.out.size
        have hm : (j : Int) % 2 = 0 ∨ (j : Int) % 2 = 1 := by omega
        have hmul : 0 ≤ (n : Int) * ((j : Int) % 2) ∧ (n : Int) * ((j : Int) % 2) ≤ 16 := by rcases hm with h | h <;> rw [h] <;> omega
        obtain ⟨hmul0, hmul1⟩ := hmul
        clear hm Ra Rf Ru HBI HN HNN HAL HAV HFS HFL HUV HUL BW
        generalize hgf : el f j = fj at *
        generalize hgm : (n : Int) * ((j : Int) % 2) = mj at *
        go_wp2_with (at_builtin; refine wp_append1 w16.heap.size rfl _ _ 24 2 (.int .i64 0) 8 rfl Try.underlying24 infoInt rfl u25 (bothL f n j).length _ (.int .i64 (fj + mj)) rfl rfl rfl OJ.out hz (by omega) (by omega) ?_; intro v1 w40 hown1 hbel1)
        go_roundg (n - (j + 1))
        case measure => omega
        case rel =>
          refine ⟨j + 1, by omega, by omega, by go_num, ?_, ?_⟩
          · show Below _ _ _; exact BJ.out.trans hbel1
          · show OwnI _ _ _ _ _ _; rw [HSN.out]; unfold OwnI; rw [ints_append, List.length_append]; exact hown1
      · have : j = n := by omega
        subst this
        have hnlt : ¬ ((j : Nat) : Int) < ((j : Nat) : Int) := by omega
        have hz := BJ.out.size
        obtain ⟨Ap, cp, e', hcp, _, rp⟩ := Own.int OJ.out
        subst e'
        have BW2 := hid (bthen BW.out BJ.out)
        have Ra2 := hid (Ra.out.below BJ.out)
        have Rf2 := hid (Rf.out.below BJ.out)
        have Ru2 := hid (Ru.out.below BJ.out)
        have CC := i_PickLanes wr b Ap cp (bothL f j j) Aa ca a Au cu u (by rw [bothL_length]; omega) hcp rp (by have := HAL.out; omega) HCa.out Ra2.out (by have := HUL.out; omega) HCu.out Ru2.out
        rw [both_pick HFS.out HFL.out HAV.out HAL.out HUV.out HUL.out] at CC
        have CC := hid CC
        have HEL := hid (fun i hi => both_el (a := a) (u := u) HFS.out HFL.out HAL.out (i := i) hi)
        have hwl : (pick (a ++ u) (bothL f j j)).length = j := by rw [pick_length, bothL_length]
        have hpl16 : (bothL f j j).length ≤ 16 := by rw [bothL_length]; omega
        clear Ra Rf Ru OJ BJ rp hcp BW
        generalize bothL f j j = p at *
        generalize pick (a ++ u) p = q at *
        go_wp2_with fail
        refine CC.out.mono ?_
        rintro e w50 ⟨v, rfl, ho, hb⟩
        obtain ⟨Aq, cq, rfl, _, _, rq⟩ := OI.shp ho
        have BW3 := hid (bthen BW2.out hb)
        have Ra3 := hid (Ra2.out.below hb)
        have Rf3 := hid (Rf2.out.below hb)
        have Ru3 := hid (Ru2.out.below hb)
        have Rq := hid rq
        have hne : ((q.length : Int) != (a.length : Int)) = false := by rw [hwl, HAL.out]; simp
        have HWL := hid hwl
        clear CC ho hb rq hwl Ra2 Rf2 Ru2 BW2
        go_wp2_with fail
        clear hne
        go_loopg [29] j (fun gg s wr => ∃ i : Nat, i ≤ j ∧ j - i ≤ gg ∧ s = .int .i64 i ∧ Aside (Below w50.heap.size w50 wr))
        case atStart => exact ⟨0, Nat.zero_le _, by omega, rfl, Below.refl _ _⟩
        case round =>
          obtain ⟨i, hi, hgi, rfl, BI⟩ := hrel
          by_cases hli : i < j
          · have hli' : (i : Int) < (j : Int) := by omega
            have hel := HEL.out i hli
            have hfr := shufB_el HFS.out (k := i) (by have := HFL.out; omega)
            rw [HFL.out] at hfr
            obtain ⟨d, hd⟩ : ∃ d : Nat, el f i = d := ⟨(el f i).toNat, by omega⟩
            rw [hd, Int.toNat_natCast] at hel
            obtain ⟨b1, o1, rfl, hc1⟩ := (Rq.out.below BI.out).get (k := i) (by have := HWL.out; omega)
            obtain ⟨b2, o2, rfl, hc2⟩ := (Rf3.out.below BI.out).get (k := i) (by have := HFL.out; omega)
            obtain ⟨b3, o3, rfl, hc3⟩ := (Ra3.out.below BI.out).get (k := d) (by have := HAL.out; omega)
            obtain ⟨b4, o4, rfl, hc4⟩ := (Ru3.out.below BI.out).get (k := d) (by have := HUL.out; omega)
            rw [hd] at hc2
            rw [hel] at hc1
            have g1 : (i : Int) < (q.length : Int) := by have := HWL.out; omega
            have g2 : (i : Int) < (f.length : Int) := by have := HFL.out; omega
            have g3 : (d : Int) < (a.length : Int) := by have := HAL.out; omega
            have g4 : (d : Int) < (u.length : Int) := by have := HUL.out; omega
            have l1 : q.length ≤ 16 := by have := HWL.out; omega
            have l2 : f.length ≤ 16 := by have := HFL.out; omega
            have l3 : a.length ≤ 16 := by have := HAL.out; omega
            have l4 : u.length ≤ 16 := by have := HUL.out; omega
            have BI2 := hid (fun m => bdrewN BI.out m)
            clear hel hfr hd HEL HFS HFL HAV HAL HUV HUL HWL Rq Rf3 Ra3 Ru3 BI HBI HN HNN
            rcases (show (i : Int) % 2 = 0 ∨ (i : Int) % 2 = 1 by omega) with hm | hm
            · have hm2 : IntKind.i64.wrap ((i : Int).tmod 2) = 0 := by rw [Int.tmod_eq_emod_of_nonneg (by omega), hm]; rfl
              rw [if_pos hm] at hc1
              generalize el a d = x1 at *
              generalize el u d = x2 at *
              go_wp2
              go_quiet (fail)
              go_wp2
              go_roundg (j - (i + 1))
              case measure => omega
              case rel => exact ⟨i + 1, by omega, by omega, by go_num, BI2.out _⟩
            · have hm2 : IntKind.i64.wrap ((i : Int).tmod 2) = 1 := by rw [Int.tmod_eq_emod_of_nonneg (by omega), hm]; rfl
              rw [if_neg (by omega)] at hc1
              generalize el a d = x1 at *
              generalize el u d = x2 at *
              go_wp2
              go_quiet (fail)
              go_wp2
              go_roundg (j - (i + 1))
              case measure => omega
              case rel => exact ⟨i + 1, by omega, by omega, by go_num, BI2.out _⟩
          · have : i = j := by omega
            subst this
            have hnlt2 : ¬ ((i : Nat) : Int) < ((i : Nat) : Int) := by omega
            have BF := hid (bthen BW3.out BI.out)
            clear HEL HFS HFL HAV HAL HUV HUL HWL Rq Rf3 Ra3 Ru3 BI HBI HN HNN
            go_wp2
            go_ret
            exact ⟨rfl, BF.out⟩
end Go.Proofs.Ythgfcoafngddgaa
