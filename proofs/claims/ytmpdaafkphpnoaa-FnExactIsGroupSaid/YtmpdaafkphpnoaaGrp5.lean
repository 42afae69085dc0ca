import Derived.Test.YtmpdaafkphpnoaaGrp4
import Derived.IntWalk
set_option linter.unusedVariables false
set_option linter.unusedSimpArgs false
namespace Go.Proofs.Ytmpdaafkphpnoaa
open Go.RowKit

/-! ### The reference's groups: the walk -/
def hkB (cs : List SmV) (g : List Int) (k : Nat) : Bool :=
  inB (el g k) 0 ((cs.length : Int) - 1) && (!hasB (g.take k) (el g k) && (((stAt cs g k).o == (stAt cs g 0).o) && allN k (fun j => !folB (stAt cs g j) (stAt cs g k))))
def headB (cs : List SmV) (g : List Int) : Bool := allN g.length (hkB cs g)
def endB (la : Int) (xs : List Int) : Bool := (Lib.maxOf xs - Lib.minOf xs) == la - 1
def grp2B (la : Int) (cs : List SmV) (g : List Int) : Bool :=
  ((g.length : Int) == la) && (headB cs g && (spanB la (cls SmV.a cs g) && (spanB la (cls SmV.b cs g) && endB la (cls SmV.d cs g))))
theorem head_in {cs : List SmV} {g : List Int} (h : headB cs g = true) : InC cs g := fun k hk => by
  have := allN_at h hk
  unfold hkB at this
  simp only [Bool.and_eq_true] at this
  have := inB_iff.1 this.1; omega
theorem el_takeN {xs : List Int} {i k : Nat} (h : k < i) : el (xs.take i) k = el xs k := by
  unfold el; rw [List.getD_eq_getElem?_getD, List.getD_eq_getElem?_getD, List.getElem?_take_of_lt h]
theorem RdI.take {w : World} {A : Option Addr} {xs : List Int} (h : RdI w A xs) (i : Nat) : RdI w A (xs.take i) := fun k hk => by
  rw [List.length_take] at hk
  obtain ⟨b, off, e, hc⟩ := RdI.get h (k := k) (by omega)
  refine ⟨b, off, e, ?_⟩
  rw [hc, ← el_takeN (xs := xs) (i := i) (by omega)]
theorem s_GRa (w : World) (B : Nat) (la : Int) (A A' : Option Addr) (n c m c' : Nat) (hm : m ≤ 1048576) (h0 : w.cell? ⟨B, 0, none⟩ = some (.int .i64 la)) (h : ((m : Int) != la) = true) :
    Calls Try.prog 33 #[.pointer (some ⟨B, 0, none⟩), .slice A n c, .slice A' m c'] w fun e w' => e = .returned (.bool false) ∧ Below w.heap.size w w' := by
  go_enter Try.func33, Try.ntmps33
  go_wp2
  go_ret
  exact ⟨rfl, Below.refl _ _⟩
set_option maxRecDepth 100000 in
set_option maxHeartbeats 8000000 in
theorem s_GRc (w : World) (B : Nat) (A A' : Option Addr) (c c' : Nat) (cs : List SmV) (g : List Int) (hcs : codeB cs = true) (h2 : 2 ≤ g.length) (h4 : g.length ≤ 4) (hcap : g.length ≤ c') (hm0 : w.cell? ⟨B, 0, none⟩ = some (.int .i64 (g.length : Nat))) (hR : RdC w A cs) (hG : RdI w A' g) :
    Calls Try.prog 33 #[.pointer (some ⟨B, 0, none⟩), .slice A cs.length c, .slice A' g.length c'] w fun e w' => e = .returned (.bool (grp2B g.length cs g)) ∧ Below w.heap.size w w' := by
  have hne : ((g.length : Int) != (g.length : Int)) = false := by simp
  have HGB : Hid (grp2B g.length cs g = (headB cs g && (spanB g.length (cls SmV.a cs g) && (spanB g.length (cls SmV.b cs g) && endB g.length (cls SmV.d cs g))))) := hid (by unfold grp2B; simp)
  have HCS := hid hcs
  have HR := hid hR
  have HG := hid hG
  have HM := hid hm0
  have hcl := codeB_len hcs
  clear hcs hR hG
  generalize grp2B g.length cs g = res at *
  go_enter Try.func33, Try.ntmps33
  go_wp2
  clear hm0 hne
  go_loopg [7] g.length (fun gg s wr => ∃ i : Nat, i ≤ g.length ∧ g.length - i ≤ gg ∧ s = .int .i64 i ∧ Aside (Below w.heap.size w wr) ∧ Aside (∀ j, j < i → hkB cs g j = true))
  case atStart => exact ⟨0, Nat.zero_le _, by omega, rfl, Below.refl _ _, fun j hj => absurd hj (Nat.not_lt_zero _)⟩
  case round =>
    obtain ⟨i, hi, hg, rfl, BW, AL⟩ := hrel
    obtain ⟨wo, rfl⟩ : ∃ wo : World, wo = wr := ⟨_, rfl⟩
    by_cases hlt : i < g.length
    · obtain ⟨bg, og, rfl, kg⟩ := (RdI.below HG.out BW.out).get hlt
      have HNO : Hid (hkB cs g i = false → res = false) := hid (fun h => by rw [HGB.out, show headB cs g = false from allN_false hlt h]; rfl)
      have CI := hid (fun W => s_l00In (el g i) 0 ((cs.length : Int) - 1) W)
      have e1 : IntKind.i64.wrap ((cs.length : Int) - 1) = (cs.length : Int) - 1 := IntWalk.i64_in _ (by omega)
      cases hin : inB (el g i) 0 ((cs.length : Int) - 1) with
      | false =>
        rw [hin] at CI
        have HN := hid (HNO.out (by unfold hkB; rw [hin]; rfl))
        clear hin HNO AL
        generalize el g i = z at *
        have kg := lcell kg
        go_wp2
        refine wp_region_calm (by kernel_rfl) (by kernel_rfl) ?_
        repeat (go_big_quiet_step (exact calm_same (CI.out _)))
        refine wpQuiet_nil ?_
        intro _ hw'
        obtain ⟨xq, hw''⟩ := hw'
        subst hw''
        clear e1
        go_wp2
        go_ret
        exact ⟨ret_b (by rw [HN.out]), bthen BW.out xq.below⟩
      | true =>
        rw [hin] at CI
        have hii := inB_iff.1 hin
        obtain ⟨p, hp⟩ : ∃ p : Nat, el g i = p := ⟨(el g i).toNat, by omega⟩
        have CH := hid (fun (x : Lat wo) => by
          have h := s_l00Has x.val (some ⟨bg, og, none⟩) c' (g.take i) (p : Int) (by rw [List.length_take]; omega) (RdI.take (RdI.below HG.out (bthen BW.out x.below)) i)
          rw [List.length_take, Nat.min_eq_left (by omega)] at h
          exact h)
        have HP := hid hp
        rw [hp] at kg hii CI
        have hpl : p < cs.length := by omega
        have HIN := hid hin
        clear hin hii
        have kg := lcell kg
        cases hh : hasB (g.take i) (p : Int) with
        | true =>
          rw [hh] at CH
          have HN := hid (HNO.out (by unfold hkB; rw [HP.out, hh]; simp))
          clear hh HNO AL HIN
          go_wp2
          refine wp_region_calm (by kernel_rfl) (by kernel_rfl) ?_
          repeat (go_big_quiet_step (first | (go_at_call 59; exact calm_same (CI.out _)) | (go_at_call 60; exact calm_same (CH.out _))))
          refine wpQuiet_nil ?_
          intro _ hw'
          obtain ⟨xq, hw''⟩ := hw'
          subst hw''
          clear e1
          go_wp2
          go_ret
          exact ⟨ret_b (by rw [HN.out]), bthen BW.out xq.below⟩
        | false =>
          rw [hh] at CH
          have h00 : 0 ≤ el g 0 ∧ el g 0 < cs.length := by
            by_cases e : i = 0
            · subst e; rw [HP.out]; omega
            · have := AL.out 0 (by omega)
              unfold hkB at this
              simp only [Bool.and_eq_true] at this
              have := inB_iff.1 this.1; omega
          obtain ⟨q, hq⟩ : ∃ q : Nat, el g 0 = q := ⟨(el g 0).toNat, by omega⟩
          obtain ⟨bg', og', e, k0⟩ := (RdI.below HG.out BW.out).get (k := 0) (by omega)
          cases e
          rw [hq] at k0 h00
          have k0 : wo.cell? ⟨bg, og, none⟩ = some (.int .i64 (q : Nat)) := by simpa using k0
          have k0 := lcell k0
          have hql : q < cs.length := by omega
          obtain ⟨ba, oa, rfl, hRR⟩ := HR.out.at (by omega)
          obtain ⟨x0, _, _, _⟩ := (hRR p hpl).below BW.out
          obtain ⟨y0, _, _, _⟩ := (hRR q hql).below BW.out
          have HRR := hid hRR
          have HSO : Hid (((stAt cs g i).o == (stAt cs g 0).o) = ((sel cs p).o == (sel cs q).o)) := hid (by unfold stAt; rw [HP.out, hq]; simp)
          have HHH := hid hh
          clear hRR h00 hq hh
          have HXY := hid (show ((sel cs p).o == (sel cs q).o) = decide ((sel cs p).o = (sel cs q).o) from by rw [Bool.eq_iff_iff]; simp)
          rw [HXY.out] at HSO
          clear HXY
          obtain ⟨xo, hxo⟩ : ∃ z, (sel cs p).o = z := ⟨_, rfl⟩
          obtain ⟨yo, hyo⟩ : ∃ z, (sel cs q).o = z := ⟨_, rfl⟩
          rw [hxo] at x0 HSO
          rw [hyo] at y0 HSO
          clear hxo hyo
          have x0 := lcell x0
          have y0 := lcell y0
          by_cases hxy : xo = yo
          · have hd : (xo != yo) = false := by simpa using hxy
            have HS1 : Hid (((stAt cs g i).o == (stAt cs g 0).o) = true) := hid (by rw [HSO.out]; simpa using hxy)
            clear HSO hxy
            go_wp2
            refine wp_region_calm (by kernel_rfl) (by kernel_rfl) ?_
            repeat (go_big_quiet_step (first | (go_at_call 59; exact calm_same (CI.out _)) | (go_at_call 60; exact calm_same (CH.out _))))
            refine wpQuiet_nil ?_
            intro _ hw'
            obtain ⟨xq, hw''⟩ := hw'
            subst hw''
            clear e1 k0 x0 y0 CI CH kg hd
            have BW1 := hid (bthen BW.out xq.below)
            have hxqb := xq.below
            clear BW
            generalize xq.val = w5 at *
            go_wp2
            go_loopg [8] i (fun gg s wr => ∃ k : Nat, k ≤ i ∧ i - k ≤ gg ∧ s = .int .i64 k ∧ Aside (Below w.heap.size w wr) ∧ Aside (∀ j, j < k → folB (stAt cs g j) (stAt cs g i) = false))
            case atStart => exact ⟨0, Nat.zero_le _, by omega, rfl, BW1.out, fun j hj => absurd hj (Nat.not_lt_zero _)⟩
            case round =>
              obtain ⟨k, hk, hg2, rfl, BW2, AL2⟩ := hrel
              clear BW1 hxqb
              by_cases hlk : k < i
              · obtain ⟨bg', og', e, kk⟩ := (RdI.below HG.out BW2.out).get (k := k) (by omega)
                cases e
                obtain ⟨bg', og', e, ki⟩ := (RdI.below HG.out BW2.out).get (k := i) (by omega)
                cases e
                have hik : 0 ≤ el g k ∧ el g k < cs.length := by
                  have := AL.out k hlk
                  unfold hkB at this
                  simp only [Bool.and_eq_true] at this
                  have := inB_iff.1 this.1; omega
                obtain ⟨r, hr⟩ : ∃ r : Nat, el g k = r := ⟨(el g k).toNat, by omega⟩
                rw [hr] at kk hik
                rw [HP.out] at ki
                have hrl : r < cs.length := by omega
                have CM := hid (fun (x : Lat wr) => s_l03Must x.val ba (oa + r * 4) ba (oa + p * 4) (sel cs r) (sel cs p) ((HRR.out r hrl).below (bthen BW2.out x.below)) ((HRR.out p hpl).below (bthen BW2.out x.below)))
                have HST : Hid (folB (stAt cs g k) (stAt cs g i) = folB (sel cs r) (sel cs p)) := hid (by unfold stAt; rw [HP.out, hr]; simp)
                have kk := lcell kk
                have ki := lcell ki
                cases hf : folB (sel cs r) (sel cs p) with
                | true =>
                  rw [hf] at CM
                  have HN := hid (HNO.out (by unfold hkB; rw [show allN i (fun j => !folB (stAt cs g j) (stAt cs g i)) = false from allN_false hlk (by rw [HST.out, hf]; rfl)]; simp))
                  clear hf HST hr hik AL AL2 HNO
                  go_wp2
                  refine wp_region_calm (by kernel_rfl) (by kernel_rfl) ?_
                  repeat (go_big_quiet_step (exact calm_of (CM.out _)))
                  refine wpQuiet_nil ?_
                  intro _ hw'
                  obtain ⟨xq, hw''⟩ := hw'
                  subst hw''
                  go_wp2
                  go_ret
                  exact ⟨ret_b (by rw [HN.out]), bthen BW2.out xq.below⟩
                | false =>
                  rw [hf] at CM
                  have AL3 : Aside (∀ j, j < k + 1 → folB (stAt cs g j) (stAt cs g i) = false) := fun j hj => by
                    by_cases e : j = k
                    · subst e; rw [HST.out, hf]
                    · exact AL2.out j (by omega)
                  clear hf HST hr hik AL2
                  go_wp2
                  refine wp_region_calm (by kernel_rfl) (by kernel_rfl) ?_
                  repeat (go_big_quiet_step (exact calm_of (CM.out _)))
                  refine wpQuiet_nil ?_
                  intro _ hw'
                  obtain ⟨xq, hw''⟩ := hw'
                  subst hw''
                  have BW3 := hid (bthen BW2.out xq.below)
                  go_wp2
                  go_roundg (i - (k + 1))
                  case measure => omega
                  case rel => exact ⟨k + 1, by omega, by omega, by go_num, BW3.out, AL3⟩
              · obtain rfl : k = i := by omega
                have AL3 : Aside (∀ j, j < k + 1 → hkB cs g j = true) := fun j hj => by
                  by_cases e : j = k
                  · subst e
                    unfold hkB
                    rw [HIN.out, HP.out, HHH.out, HS1.out, allN_true fun m hm => by rw [AL2.out m hm]; rfl]; rfl
                  · exact AL.out j (by omega)
                clear AL AL2 HNO
                go_wp2
                go_roundg (g.length - (k + 1))
                case measure => omega
                case rel => exact ⟨k + 1, by omega, by omega, by go_num, BW2.out, AL3⟩
          · have hd : (xo != yo) = true := by simpa using hxy
            have HN := hid (HNO.out (by unfold hkB; rw [HSO.out, show decide (xo = yo) = false by simpa using hxy]; simp))
            clear HSO hxy HNO AL
            go_wp2
            refine wp_region_calm (by kernel_rfl) (by kernel_rfl) ?_
            repeat (go_big_quiet_step (first | (go_at_call 59; exact calm_same (CI.out _)) | (go_at_call 60; exact calm_same (CH.out _))))
            refine wpQuiet_nil ?_
            intro _ hw'
            obtain ⟨xq, hw''⟩ := hw'
            subst hw''
            clear e1
            go_wp2
            go_ret
            exact ⟨ret_b (by rw [HN.out]), bthen BW.out xq.below⟩
    · obtain rfl : i = g.length := by omega
      have hhd : headB cs g = true := allN_true AL.out
      have HIN := hid (head_in hhd)
      rw [hhd, Bool.true_and] at HGB
      clear AL hhd hlt
      have HB := hid BW.out
      clear BW
      have hz := HB.out.size
      replace HM := hid (bcell HB.out HM.out)
      replace HR := hid (HR.out.below HB.out)
      replace HG := hid (RdI.below HG.out HB.out)
      go_wp2
      go_loopg [9] 3 (fun gg s wr => ∃ k : Nat, 1 ≤ k ∧ k ≤ 3 ∧ 3 - k ≤ gg ∧ s = .int .i64 k ∧ Aside (Below wo.heap.size wo wr) ∧ Aside ((2 ≤ k → spanB g.length (cls SmV.a cs g) = true) ∧ (3 ≤ k → spanB g.length (cls SmV.b cs g) = true)))
      case atStart => exact ⟨1, Nat.le_refl _, by omega, by omega, rfl, Below.refl _ _, ⟨fun h => by omega, fun h => by omega⟩⟩
      case round =>
        obtain ⟨k, hk1, hk, hg3, rfl, BW, SP⟩ := hrel
        by_cases hk2 : k ≤ 2
        · have hk2' : (k : Int) ≤ 2 := by omega
          obtain ⟨f, hf, hsm, hyes, hno⟩ : ∃ (f : SmV → Int), (∀ x : SmV, ([x.d, x.a, x.b] : List Int)[k]? = some (f x)) ∧
              (∀ j, j < cs.length → 0 ≤ f (sel cs j) ∧ f (sel cs j) ≤ 31) ∧ (spanB g.length (cls f cs g) = true → (2 ≤ k + 1 → spanB g.length (cls SmV.a cs g) = true) ∧ (3 ≤ k + 1 → spanB g.length (cls SmV.b cs g) = true)) ∧ (spanB g.length (cls f cs g) = false → res = false) := by
            rcases (show k = 1 ∨ k = 2 by omega) with rfl | rfl
            · exact ⟨SmV.a, fun x => rfl, fun j hj => (codeB_at HCS.out hj).2.2.1, fun h => ⟨fun _ => h, fun h => by omega⟩, fun h => by rw [HGB.out, h]; rfl⟩
            · exact ⟨SmV.b, fun x => rfl, fun j hj => (codeB_at HCS.out hj).2.2.2, fun h => ⟨fun _ => SP.out.1 (by omega), fun _ => h⟩, fun h => by rw [HGB.out, SP.out.1 (by omega), h]; rfl⟩
          have CC := hid (s_l07Cells wr A A' c c' cs g k f (by omega) hf HIN.out (by omega) (by omega) (HR.out.below BW.out) (RdI.below HG.out BW.out))
          have hsp := span_small (g := g) HIN.out hsm (by omega)
          have HLN := hid (cls_length f cs g)
          have HYES : Hid (Lib.maxOf (cls f cs g) - Lib.minOf (cls f cs g) < 2 * (g.length : Int) → _) := hid (fun h => hyes (by unfold spanB; simpa using h))
          have HNO : Hid (¬ Lib.maxOf (cls f cs g) - Lib.minOf (cls f cs g) < 2 * (g.length : Int) → res = false) := hid (fun h => hno (by unfold spanB; simpa using h))
          have HM6 := hid (bcell BW.out HM.out)
          clear hf hsm hyes hno SP HR
          generalize cls f cs g = xs at *
          go_wp2_with fail
          refine CC.out.mono ?_
          rintro e w6 ⟨v, rfl, ho, hb6⟩
          obtain ⟨A1, c1, rfl, _, _, ra⟩ := Own.int ho
          have BW6 := hid (bthen BW.out hb6)
          have CE := hid (s_l07Ends w6 A1 c1 xs (by have := HLN.out; omega) (by have := HLN.out; omega) ra)
          have hm6 := bcell hb6 HM6.out
          obtain ⟨⟨m1, m2⟩, n1, n2⟩ := hsp
          clear ho ra hb6 CC HM6
          generalize Lib.maxOf xs = M at *
          generalize Lib.minOf xs = N at *
          by_cases hlt : M - N < 2 * (g.length : Int)
          · have hd : decide (2 * (g.length : Int) ≤ M - N) = false := by simp; omega
            have SP2 : Aside _ := HYES.out hlt
            clear HYES HNO hlt
            go_wp2_with fail
            refine CE.out.mono ?_
            rintro e w7 ⟨rfl, rfl⟩
            go_wp2_with fail
            go_roundg (3 - (k + 1))
            case measure => omega
            case rel => exact ⟨k + 1, by omega, by omega, by omega, by go_num, BW6.out, SP2⟩
          · have hd : decide (2 * (g.length : Int) ≤ M - N) = true := by simp; omega
            have HN := hid (HNO.out (by omega))
            clear HYES HNO hlt
            go_wp2_with fail
            refine CE.out.mono ?_
            rintro e w7 ⟨rfl, rfl⟩
            go_wp2_with fail
            go_ret
            exact ⟨ret_b (by rw [HN.out]), bthen HB.out BW6.out⟩
        · obtain rfl : k = 3 := by omega
          have hk2' : ¬ ((3 : Nat) : Int) ≤ 2 := by omega
          rw [SP.out.1 (by omega), SP.out.2 (by omega), Bool.true_and, Bool.true_and] at HGB
          have hcc := fun j (hj : j < cs.length) => codeB_at HCS.out hj
          have CC := s_l07Cells wr A A' c c' cs g 0 SmV.d (by omega) (fun x => rfl) HIN.out (by omega) (by omega) (HR.out.below BW.out) (RdI.below HG.out BW.out)
          rw [show (((0 : Nat) : Int)) = 0 from rfl] at CC
          replace CC := hid CC
          have hsp := span_small (g := g) HIN.out (fun j hj => (hcc j hj).2.1) (by omega)
          have HLN := hid (cls_length SmV.d cs g)
          have HB2 := hid (bthen HB.out BW.out)
          have HM6 := hid (bcell BW.out HM.out)
          have HEN : Hid (res = ((Lib.maxOf (cls SmV.d cs g) - Lib.minOf (cls SmV.d cs g)) == (g.length : Int) - 1)) := hid (by rw [HGB.out]; rfl)
          clear hcc SP HR HM HG HB BW hk2 hk hg3 HGB
          generalize cls SmV.d cs g = xs at *
          go_wp2_with fail
          refine CC.out.mono ?_
          rintro e w6 ⟨v, rfl, ho, hb6⟩
          obtain ⟨A1, c1, rfl, _, _, ra⟩ := Own.int ho
          have BW6 := hid (bthen HB2.out hb6)
          have CE := hid (s_l07Ends w6 A1 c1 xs (by have := HLN.out; omega) (by have := HLN.out; omega) ra)
          have hm6 := bcell hb6 HM6.out
          obtain ⟨⟨m1, m2⟩, n1, n2⟩ := hsp
          clear ho ra hb6 CC HM6
          generalize Lib.maxOf xs = M at *
          generalize Lib.minOf xs = N at *
          go_wp2_with fail
          refine CE.out.mono ?_
          rintro e w7 ⟨rfl, rfl⟩
          go_wp2_with fail
          go_ret
          exact ⟨ret_b (by rw [HEN.out]), BW6.out⟩
end Go.Proofs.Ytmpdaafkphpnoaa
