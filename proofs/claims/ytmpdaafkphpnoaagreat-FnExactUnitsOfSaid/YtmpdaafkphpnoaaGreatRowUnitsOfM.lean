import Derived.Test.YtmpdaafkphpnoaaGreatGrp4
import Derived.IntWalk
import Derived.Test.YtmpdaafkphpnoaaGreatGrp
import Derived.Test.YtmpdaafkphpnoaaGreatShuf3
import Derived.Test.YtmpdaafkphpnoaaGreatRws
import Derived.Maps.Own
import Derived.Maps.Views
import Derived.Test.YtmpdaafkphpnoaaGreatUnt4
import Derived.Test.YtmpdaafkphpnoaaGreatRws3
import Derived.Test.YtmpdaafkphpnoaaGreatRwsA
import Derived.Test.YtmpdaafkphpnoaaGreatCalm
import Derived.Test.YtmpdaafkphpnoaaGreatRange
import Derived.Test.YtmpdaafkphpnoaaGreatMach
import Derived.Test.YtmpdaafkphpnoaaGreatLawO
import Derived.Deep.RegionHeld3
import Derived.Test.YtmpdaafkphpnoaaGreatStm2
import Derived.Maps.AppendAt
import Derived.Test.YtmpdaafkphpnoaaGreatBase
import Derived.WalkKit
import Derived.ProofKit
import Derived.OpenShut
import Derived.Test.YtmpdaafkphpnoaaGreatStm
import Derived.Deep.SlicePairs
import Derived.Deep.Strs
import Derived.Lib.SmallJoins
import Derived.Deep.Matrix
import Derived.Test.YtmpdaafkphpnoaaGreatRows
import Derived.ShutString
import Derived.ChangeOld
import Derived.Below
set_option linter.unusedVariables false
set_option linter.unusedSimpArgs false
namespace Go.Proofs.YtmpdaafkphpnoaaGreat
open Go.RowKit

/-! ### The reference's groups: the walk -/
def hkB (cs : List SmV) (g : List Int) (k : Nat) : Bool :=
  inB (el g k) 0 ((cs.length : Int) - 1) && (!hasB (g.take k) (el g k) && (((stAt cs g k).o == (stAt cs g 0).o) && allN k (fun j => !folB (stAt cs g j) (stAt cs g k))))
def headB (cs : List SmV) (g : List Int) : Bool := allN g.length (hkB cs g)
def endB (la : Int) (xs : List Int) : Bool := (Lib.maxOf xs - Lib.minOf xs) == la - 1
def grp2B (la : Int) (cs : List SmV) (g : List Int) : Bool :=
  ((g.length : Int) == la) && (headB cs g && (spanB la (cls SmV.a cs g) && (spanB la (cls SmV.b cs g) && endB la (cls SmV.d cs g))))
theorem head_in {cs : List SmV} {g : List Int} (h : headB cs g = true) : InC cs g := fun k hk => by
  have := allN_at h hk
  unfold hkB at this
  simp only [Bool.and_eq_true] at this
  have := inB_iff.1 this.1; omega
theorem el_takeN {xs : List Int} {i k : Nat} (h : k < i) : el (xs.take i) k = el xs k := by
  unfold el; rw [List.getD_eq_getElem?_getD, List.getD_eq_getElem?_getD, List.getElem?_take_of_lt h]
theorem RdI.take {w : World} {A : Option Addr} {xs : List Int} (h : RdI w A xs) (i : Nat) : RdI w A (xs.take i) := fun k hk => by
  rw [List.length_take] at hk
  obtain ⟨b, off, e, hc⟩ := RdI.get h (k := k) (by omega)
  refine ⟨b, off, e, ?_⟩
  rw [hc, ← el_takeN (xs := xs) (i := i) (by omega)]
theorem s_GRa (w : World) (B : Nat) (la : Int) (A A' : Option Addr) (n c m c' : Nat) (hm : m ≤ 1048576) (h0 : w.cell? ⟨B, 0, none⟩ = some (.int .i64 la)) (h : ((m : Int) != la) = true) :
    Calls Tryz.prog 123 #[.pointer (some ⟨B, 0, none⟩), .slice A n c, .slice A' m c'] w fun e w' => e = .returned (.bool false) ∧ Below w.heap.size w w' := by
  go_enter Tryz.func123, Tryz.ntmps123
  go_wp2
  go_ret
  exact ⟨rfl, Below.refl _ _⟩
set_option maxRecDepth 100000 in
set_option maxHeartbeats 8000000 in
theorem s_GRc (w : World) (B : Nat) (A A' : Option Addr) (c c' : Nat) (cs : List SmV) (g : List Int) (hcs : codeB cs = true) (h2 : 2 ≤ g.length) (h4 : g.length ≤ 4) (hcap : g.length ≤ c') (hm0 : w.cell? ⟨B, 0, none⟩ = some (.int .i64 (g.length : Nat))) (hR : RdC w A cs) (hG : RdI w A' g) :
    Calls Tryz.prog 123 #[.pointer (some ⟨B, 0, none⟩), .slice A cs.length c, .slice A' g.length c'] w fun e w' => e = .returned (.bool (grp2B g.length cs g)) ∧ Below w.heap.size w w' := by
  have hne : ((g.length : Int) != (g.length : Int)) = false := by simp
  have HGB : Hid (grp2B g.length cs g = (headB cs g && (spanB g.length (cls SmV.a cs g) && (spanB g.length (cls SmV.b cs g) && endB g.length (cls SmV.d cs g))))) := hid (by unfold grp2B; simp)
  have HCS := hid hcs
  have HR := hid hR
  have HG := hid hG
  have HM := hid hm0
  have hcl := codeB_len hcs
  clear hcs hR hG
  generalize grp2B g.length cs g = res at *
  go_enter Tryz.func123, Tryz.ntmps123
  go_wp2
  clear hm0 hne
  go_loopg [7] g.length (fun gg s wr => ∃ i : Nat, i ≤ g.length ∧ g.length - i ≤ gg ∧ s = .int .i64 i ∧ Aside (Below w.heap.size w wr) ∧ Aside (∀ j, j < i → hkB cs g j = true))
  case atStart => exact ⟨0, Nat.zero_le _, by omega, rfl, Below.refl _ _, fun j hj => absurd hj (Nat.not_lt_zero _)⟩
  case round =>
    obtain ⟨i, hi, hg, rfl, BW, AL⟩ := hrel
    obtain ⟨wo, rfl⟩ : ∃ wo : World, wo = wr := ⟨_, rfl⟩
    by_cases hlt : i < g.length
    · obtain ⟨bg, og, rfl, kg⟩ := (RdI.below HG.out BW.out).get hlt
      have HNO : Hid (hkB cs g i = false → res = false) := hid (fun h => by rw [HGB.out, show headB cs g = false from allN_false hlt h]; rfl)
      have CI := hid (fun W => s_l00In (el g i) 0 ((cs.length : Int) - 1) W)
      have e1 : IntKind.i64.wrap ((cs.length : Int) - 1) = (cs.length : Int) - 1 := IntWalk.i64_in _ (by omega)
      cases hin : inB (el g i) 0 ((cs.length : Int) - 1) with
      | false =>
        rw [hin] at CI
        have HN := hid (HNO.out (by unfold hkB; rw [hin]; rfl))
        clear hin HNO AL
        generalize el g i = z at *
        have kg := lcell kg
        go_wp2
        refine wp_region_calm (by kernel_rfl) (by kernel_rfl) ?_
        repeat (go_big_quiet_step (exact calm_same (CI.out _)))
        refine wpQuiet_nil ?_
        intro _ hw'
        obtain ⟨xq, hw''⟩ := hw'
        subst hw''
        clear e1
        go_wp2
        go_ret
        exact ⟨ret_b (by rw [HN.out]), bthen BW.out xq.below⟩
      | true =>
        rw [hin] at CI
        have hii := inB_iff.1 hin
        obtain ⟨p, hp⟩ : ∃ p : Nat, el g i = p := ⟨(el g i).toNat, by omega⟩
        have CH := hid (fun (x : Lat wo) => by
          have h := s_l00Has x.val (some ⟨bg, og, none⟩) c' (g.take i) (p : Int) (by rw [List.length_take]; omega) (RdI.take (RdI.below HG.out (bthen BW.out x.below)) i)
          rw [List.length_take, Nat.min_eq_left (by omega)] at h
          exact h)
        have HP := hid hp
        rw [hp] at kg hii CI
        have hpl : p < cs.length := by omega
        have HIN := hid hin
        clear hin hii
        have kg := lcell kg
        cases hh : hasB (g.take i) (p : Int) with
        | true =>
          rw [hh] at CH
          have HN := hid (HNO.out (by unfold hkB; rw [HP.out, hh]; simp))
          clear hh HNO AL HIN
          go_wp2
          refine wp_region_calm (by kernel_rfl) (by kernel_rfl) ?_
          repeat (go_big_quiet_step (first | (go_at_call 104; exact calm_same (CI.out _)) | (go_at_call 125; exact calm_same (CH.out _))))
          refine wpQuiet_nil ?_
          intro _ hw'
          obtain ⟨xq, hw''⟩ := hw'
          subst hw''
          clear e1
          go_wp2
          go_ret
          exact ⟨ret_b (by rw [HN.out]), bthen BW.out xq.below⟩
        | false =>
          rw [hh] at CH
          have h00 : 0 ≤ el g 0 ∧ el g 0 < cs.length := by
            by_cases e : i = 0
            · subst e; rw [HP.out]; omega
            · have := AL.out 0 (by omega)
              unfold hkB at this
              simp only [Bool.and_eq_true] at this
              have := inB_iff.1 this.1; omega
          obtain ⟨q, hq⟩ : ∃ q : Nat, el g 0 = q := ⟨(el g 0).toNat, by omega⟩
          obtain ⟨bg', og', e, k0⟩ := (RdI.below HG.out BW.out).get (k := 0) (by omega)
          cases e
          rw [hq] at k0 h00
          have k0 : wo.cell? ⟨bg, og, none⟩ = some (.int .i64 (q : Nat)) := by simpa using k0
          have k0 := lcell k0
          have hql : q < cs.length := by omega
          obtain ⟨ba, oa, rfl, hRR⟩ := HR.out.at (by omega)
          obtain ⟨x0, _, _, _⟩ := (hRR p hpl).below BW.out
          obtain ⟨y0, _, _, _⟩ := (hRR q hql).below BW.out
          have HRR := hid hRR
          have HSO : Hid (((stAt cs g i).o == (stAt cs g 0).o) = ((sel cs p).o == (sel cs q).o)) := hid (by unfold stAt; rw [HP.out, hq]; simp)
          have HHH := hid hh
          clear hRR h00 hq hh
          have HXY := hid (show ((sel cs p).o == (sel cs q).o) = decide ((sel cs p).o = (sel cs q).o) from by rw [Bool.eq_iff_iff]; simp)
          rw [HXY.out] at HSO
          clear HXY
          obtain ⟨xo, hxo⟩ : ∃ z, (sel cs p).o = z := ⟨_, rfl⟩
          obtain ⟨yo, hyo⟩ : ∃ z, (sel cs q).o = z := ⟨_, rfl⟩
          rw [hxo] at x0 HSO
          rw [hyo] at y0 HSO
          clear hxo hyo
          have x0 := lcell x0
          have y0 := lcell y0
          by_cases hxy : xo = yo
          · have hd : (xo != yo) = false := by simpa using hxy
            have HS1 : Hid (((stAt cs g i).o == (stAt cs g 0).o) = true) := hid (by rw [HSO.out]; simpa using hxy)
            clear HSO hxy
            go_wp2
            refine wp_region_calm (by kernel_rfl) (by kernel_rfl) ?_
            repeat (go_big_quiet_step (first | (go_at_call 104; exact calm_same (CI.out _)) | (go_at_call 125; exact calm_same (CH.out _))))
            refine wpQuiet_nil ?_
            intro _ hw'
            obtain ⟨xq, hw''⟩ := hw'
            subst hw''
            clear e1 k0 x0 y0 CI CH kg hd
            have BW1 := hid (bthen BW.out xq.below)
            have hxqb := xq.below
            clear BW
            generalize xq.val = w5 at *
            go_wp2
            go_loopg [8] i (fun gg s wr => ∃ k : Nat, k ≤ i ∧ i - k ≤ gg ∧ s = .int .i64 k ∧ Aside (Below w.heap.size w wr) ∧ Aside (∀ j, j < k → folB (stAt cs g j) (stAt cs g i) = false))
            case atStart => exact ⟨0, Nat.zero_le _, by omega, rfl, BW1.out, fun j hj => absurd hj (Nat.not_lt_zero _)⟩
            case round =>
              obtain ⟨k, hk, hg2, rfl, BW2, AL2⟩ := hrel
              clear BW1 hxqb
              by_cases hlk : k < i
              · obtain ⟨bg', og', e, kk⟩ := (RdI.below HG.out BW2.out).get (k := k) (by omega)
                cases e
                obtain ⟨bg', og', e, ki⟩ := (RdI.below HG.out BW2.out).get (k := i) (by omega)
                cases e
                have hik : 0 ≤ el g k ∧ el g k < cs.length := by
                  have := AL.out k hlk
                  unfold hkB at this
                  simp only [Bool.and_eq_true] at this
                  have := inB_iff.1 this.1; omega
                obtain ⟨r, hr⟩ : ∃ r : Nat, el g k = r := ⟨(el g k).toNat, by omega⟩
                rw [hr] at kk hik
                rw [HP.out] at ki
                have hrl : r < cs.length := by omega
                have CM := hid (fun (x : Lat wr) => s_l03Must x.val ba (oa + r * 4) ba (oa + p * 4) (sel cs r) (sel cs p) ((HRR.out r hrl).below (bthen BW2.out x.below)) ((HRR.out p hpl).below (bthen BW2.out x.below)))
                have HST : Hid (folB (stAt cs g k) (stAt cs g i) = folB (sel cs r) (sel cs p)) := hid (by unfold stAt; rw [HP.out, hr]; simp)
                have kk := lcell kk
                have ki := lcell ki
                cases hf : folB (sel cs r) (sel cs p) with
                | true =>
                  rw [hf] at CM
                  have HN := hid (HNO.out (by unfold hkB; rw [show allN i (fun j => !folB (stAt cs g j) (stAt cs g i)) = false from allN_false hlk (by rw [HST.out, hf]; rfl)]; simp))
                  clear hf HST hr hik AL AL2 HNO
                  go_wp2
                  refine wp_region_calm (by kernel_rfl) (by kernel_rfl) ?_
                  repeat (go_big_quiet_step (exact calm_of (CM.out _)))
                  refine wpQuiet_nil ?_
                  intro _ hw'
                  obtain ⟨xq, hw''⟩ := hw'
                  subst hw''
                  go_wp2
                  go_ret
                  exact ⟨ret_b (by rw [HN.out]), bthen BW2.out xq.below⟩
                | false =>
                  rw [hf] at CM
                  have AL3 : Aside (∀ j, j < k + 1 → folB (stAt cs g j) (stAt cs g i) = false) := fun j hj => by
                    by_cases e : j = k
                    · subst e; rw [HST.out, hf]
                    · exact AL2.out j (by omega)
                  clear hf HST hr hik AL2
                  go_wp2
                  refine wp_region_calm (by kernel_rfl) (by kernel_rfl) ?_
                  repeat (go_big_quiet_step (exact calm_of (CM.out _)))
                  refine wpQuiet_nil ?_
                  intro _ hw'
                  obtain ⟨xq, hw''⟩ := hw'
                  subst hw''
                  have BW3 := hid (bthen BW2.out xq.below)
                  go_wp2
                  go_roundg (i - (k + 1))
                  case measure => omega
                  case rel => exact ⟨k + 1, by omega, by omega, by go_num, BW3.out, AL3⟩
              · obtain rfl : k = i := by omega
                have AL3 : Aside (∀ j, j < k + 1 → hkB cs g j = true) := fun j hj => by
                  by_cases e : j = k
                  · subst e
                    unfold hkB
                    rw [HIN.out, HP.out, HHH.out, HS1.out, allN_true fun m hm => by rw [AL2.out m hm]; rfl]; rfl
                  · exact AL.out j (by omega)
                clear AL AL2 HNO
                go_wp2
                go_roundg (g.length - (k + 1))
                case measure => omega
                case rel => exact ⟨k + 1, by omega, by omega, by go_num, BW2.out, AL3⟩
          · have hd : (xo != yo) = true := by simpa using hxy
            have HN := hid (HNO.out (by unfold hkB; rw [HSO.out, show decide (xo = yo) = false by simpa using hxy]; simp))
            clear HSO hxy HNO AL
            go_wp2
            refine wp_region_calm (by kernel_rfl) (by kernel_rfl) ?_
            repeat (go_big_quiet_step (first | (go_at_call 104; exact calm_same (CI.out _)) | (go_at_call 125; exact calm_same (CH.out _))))
            refine wpQuiet_nil ?_
            intro _ hw'
            obtain ⟨xq, hw''⟩ := hw'
            subst hw''
            clear e1
            go_wp2
            go_ret
            exact ⟨ret_b (by rw [HN.out]), bthen BW.out xq.below⟩
    · obtain rfl : i = g.length := by omega
      have hhd : headB cs g = true := allN_true AL.out
      have HIN := hid (head_in hhd)
      rw [hhd, Bool.true_and] at HGB
      clear AL hhd hlt
      have HB := hid BW.out
      clear BW
      have hz := HB.out.size
      replace HM := hid (bcell HB.out HM.out)
      replace HR := hid (HR.out.below HB.out)
      replace HG := hid (RdI.below HG.out HB.out)
      go_wp2
      go_loopg [9] 3 (fun gg s wr => ∃ k : Nat, 1 ≤ k ∧ k ≤ 3 ∧ 3 - k ≤ gg ∧ s = .int .i64 k ∧ Aside (Below wo.heap.size wo wr) ∧ Aside ((2 ≤ k → spanB g.length (cls SmV.a cs g) = true) ∧ (3 ≤ k → spanB g.length (cls SmV.b cs g) = true)))
      case atStart => exact ⟨1, Nat.le_refl _, by omega, by omega, rfl, Below.refl _ _, ⟨fun h => by omega, fun h => by omega⟩⟩
      case round =>
        obtain ⟨k, hk1, hk, hg3, rfl, BW, SP⟩ := hrel
        by_cases hk2 : k ≤ 2
        · have hk2' : (k : Int) ≤ 2 := by omega
          obtain ⟨f, hf, hsm, hyes, hno⟩ : ∃ (f : SmV → Int), (∀ x : SmV, ([x.d, x.a, x.b] : List Int)[k]? = some (f x)) ∧
              (∀ j, j < cs.length → 0 ≤ f (sel cs j) ∧ f (sel cs j) ≤ 31) ∧ (spanB g.length (cls f cs g) = true → (2 ≤ k + 1 → spanB g.length (cls SmV.a cs g) = true) ∧ (3 ≤ k + 1 → spanB g.length (cls SmV.b cs g) = true)) ∧ (spanB g.length (cls f cs g) = false → res = false) := by
            rcases (show k = 1 ∨ k = 2 by omega) with rfl | rfl
            · exact ⟨SmV.a, fun x => rfl, fun j hj => (codeB_at HCS.out hj).2.2.1, fun h => ⟨fun _ => h, fun h => by omega⟩, fun h => by rw [HGB.out, h]; rfl⟩
            · exact ⟨SmV.b, fun x => rfl, fun j hj => (codeB_at HCS.out hj).2.2.2, fun h => ⟨fun _ => SP.out.1 (by omega), fun _ => h⟩, fun h => by rw [HGB.out, SP.out.1 (by omega), h]; rfl⟩
          have CC := hid (s_l07Cells wr A A' c c' cs g k f (by omega) hf HIN.out (by omega) (by omega) (HR.out.below BW.out) (RdI.below HG.out BW.out))
          have hsp := span_small (g := g) HIN.out hsm (by omega)
          have HLN := hid (cls_length f cs g)
          have HYES : Hid (Lib.maxOf (cls f cs g) - Lib.minOf (cls f cs g) < 2 * (g.length : Int) → _) := hid (fun h => hyes (by unfold spanB; simpa using h))
          have HNO : Hid (¬ Lib.maxOf (cls f cs g) - Lib.minOf (cls f cs g) < 2 * (g.length : Int) → res = false) := hid (fun h => hno (by unfold spanB; simpa using h))
          have HM6 := hid (bcell BW.out HM.out)
          clear hf hsm hyes hno SP HR
          generalize cls f cs g = xs at *
          go_wp2_with fail
          refine CC.out.mono ?_
          rintro e w6 ⟨v, rfl, ho, hb6⟩
          obtain ⟨A1, c1, rfl, _, _, ra⟩ := Own.int ho
          have BW6 := hid (bthen BW.out hb6)
          have CE := hid (s_l07Ends w6 A1 c1 xs (by have := HLN.out; omega) (by have := HLN.out; omega) ra)
          have hm6 := bcell hb6 HM6.out
          obtain ⟨⟨m1, m2⟩, n1, n2⟩ := hsp
          clear ho ra hb6 CC HM6
          generalize Lib.maxOf xs = M at *
          generalize Lib.minOf xs = N at *
          by_cases hlt : M - N < 2 * (g.length : Int)
          · have hd : decide (2 * (g.length : Int) ≤ M - N) = false := by simp; omega
            have SP2 : Aside _ := HYES.out hlt
            clear HYES HNO hlt
            go_wp2_with fail
            refine CE.out.mono ?_
            rintro e w7 ⟨rfl, rfl⟩
            go_wp2_with fail
            go_roundg (3 - (k + 1))
            case measure => omega
            case rel => exact ⟨k + 1, by omega, by omega, by omega, by go_num, BW6.out, SP2⟩
          · have hd : decide (2 * (g.length : Int) ≤ M - N) = true := by simp; omega
            have HN := hid (HNO.out (by omega))
            clear HYES HNO hlt
            go_wp2_with fail
            refine CE.out.mono ?_
            rintro e w7 ⟨rfl, rfl⟩
            go_wp2_with fail
            go_ret
            exact ⟨ret_b (by rw [HN.out]), bthen HB.out BW6.out⟩
        · obtain rfl : k = 3 := by omega
          have hk2' : ¬ ((3 : Nat) : Int) ≤ 2 := by omega
          rw [SP.out.1 (by omega), SP.out.2 (by omega), Bool.true_and, Bool.true_and] at HGB
          have hcc := fun j (hj : j < cs.length) => codeB_at HCS.out hj
          have CC := s_l07Cells wr A A' c c' cs g 0 SmV.d (by omega) (fun x => rfl) HIN.out (by omega) (by omega) (HR.out.below BW.out) (RdI.below HG.out BW.out)
          rw [show (((0 : Nat) : Int)) = 0 from rfl] at CC
          replace CC := hid CC
          have hsp := span_small (g := g) HIN.out (fun j hj => (hcc j hj).2.1) (by omega)
          have HLN := hid (cls_length SmV.d cs g)
          have HB2 := hid (bthen HB.out BW.out)
          have HM6 := hid (bcell BW.out HM.out)
          have HEN : Hid (res = ((Lib.maxOf (cls SmV.d cs g) - Lib.minOf (cls SmV.d cs g)) == (g.length : Int) - 1)) := hid (by rw [HGB.out]; rfl)
          clear hcc SP HR HM HG HB BW hk2 hk hg3 HGB
          generalize cls SmV.d cs g = xs at *
          go_wp2_with fail
          refine CC.out.mono ?_
          rintro e w6 ⟨v, rfl, ho, hb6⟩
          obtain ⟨A1, c1, rfl, _, _, ra⟩ := Own.int ho
          have BW6 := hid (bthen HB2.out hb6)
          have CE := hid (s_l07Ends w6 A1 c1 xs (by have := HLN.out; omega) (by have := HLN.out; omega) ra)
          have hm6 := bcell hb6 HM6.out
          obtain ⟨⟨m1, m2⟩, n1, n2⟩ := hsp
          clear ho ra hb6 CC HM6
          generalize Lib.maxOf xs = M at *
          generalize Lib.minOf xs = N at *
          go_wp2_with fail
          refine CE.out.mono ?_
          rintro e w7 ⟨rfl, rfl⟩
          go_wp2_with fail
          go_ret
          exact ⟨ret_b (by rw [HEN.out]), BW6.out⟩
end Go.Proofs.YtmpdaafkphpnoaaGreat
set_option linter.unusedVariables false
set_option linter.unusedSimpArgs false
namespace Go.Proofs.YtmpdaafkphpnoaaGreat
open Go.RowKit

/-! ### Both groups are one -/
theorem folB_comm (x y : SmV) : folB x y = folB y x := by
  unfold folB
  rw [Bool.eq_iff_iff]
  simp only [Bool.or_eq_true, beq_iff_eq]
  constructor <;> (intro h; rcases h with h | h | h | h | h <;> simp [h])
theorem folB_d {x y : SmV} (h : folB x y = false) : x.d ≠ y.d := by
  unfold folB at h; simp at h; exact h.2.2.1
/-- Numbers in order: the last is the greatest, the first the least; one apart and different means a run. -/
theorem sortI_perm (xs : List Int) : (sortI xs).Perm xs := List.mergeSort_perm xs _
theorem sortI_le (xs : List Int) : (sortI xs).Pairwise (· ≤ ·) := by
  have := List.pairwise_mergeSort (le := fun x y : Int => decide (x ≤ y)) (by intro a b c; simp; omega) (by intro a b; simp; omega) xs
  unfold sortI
  exact this.imp (by intro a b h; simpa using h)
theorem sortI_el {xs : List Int} {i j : Nat} (hij : i < j) (hj : j < xs.length) : el (sortI xs) i ≤ el (sortI xs) j := by
  have h := List.pairwise_iff_getElem.1 (sortI_le xs) i j (by rw [sortI_length]; omega) (by rw [sortI_length]; omega) hij
  have e1 := el_get (xs := sortI xs) (k := i) (by rw [sortI_length]; omega)
  have e2 := el_get (xs := sortI xs) (k := j) (by rw [sortI_length]; omega)
  rw [List.getElem?_eq_getElem (by rw [sortI_length]; omega)] at e1 e2
  rw [Option.some.inj e1, Option.some.inj e2] at h
  exact h
theorem el_inj_of_nodup {xs : List Int} (h : xs.Nodup) {i j : Nat} (hi : i < xs.length) (hj : j < xs.length) (e : el xs i = el xs j) : i = j := by
  have h' := List.pairwise_iff_getElem.1 h
  have e1 := el_get hi
  have e2 := el_get hj
  rw [List.getElem?_eq_getElem hi] at e1
  rw [List.getElem?_eq_getElem hj] at e2
  have e3 : xs[i] = xs[j] := by rw [Option.some.inj e1, Option.some.inj e2, e]
  rcases Nat.lt_trichotomy i j with q | q | q
  · exact absurd e3 (h' i j hi hj q)
  · exact q
  · exact absurd e3.symm (h' j i hj hi q)
theorem nodup_of_el {xs : List Int} (h : ∀ i j, i < j → j < xs.length → el xs i ≠ el xs j) : xs.Nodup := by
  apply List.pairwise_iff_getElem.2
  intro i j hi hj hij
  have e1 := el_get hi
  have e2 := el_get hj
  rw [List.getElem?_eq_getElem hi] at e1
  rw [List.getElem?_eq_getElem hj] at e2
  rw [Option.some.inj e1, Option.some.inj e2]
  exact h i j hij hj
theorem setN_iff {xs : List Int} : ∀ k, k ≤ xs.length → (setN xs k = true ↔ ∀ i, i + 1 < k → el xs i < el xs (i + 1)) := by
  intro k
  induction k with
  | zero => intro _; simp [setN]
  | succ k ih =>
    intro hk
    simp only [setN, Bool.and_eq_true, Bool.or_eq_true, decide_eq_true_eq]
    rw [ih (by omega)]
    constructor
    · rintro ⟨h1, h2⟩ i hi
      by_cases e : i + 1 = k
      · rcases h2 with h2 | h2
        · omega
        · rw [show k - 1 = i by omega] at h2; rw [e]; exact h2
      · exact h1 i (by omega)
    · intro h
      refine ⟨fun i hi => h i (by omega), ?_⟩
      by_cases e : k = 0
      · exact .inl e
      · right; have := h (k - 1) (by omega); rwa [show k - 1 + 1 = k by omega] at this
theorem setN_sort (xs : List Int) : setN (sortI xs) xs.length = true ↔ xs.Nodup := by
  rw [setN_iff _ (by rw [sortI_length]; exact Nat.le_refl _), ← (sortI_perm xs).nodup_iff]
  constructor
  · intro h
    have hlt : ∀ d i, i + d + 1 < xs.length → el (sortI xs) i < el (sortI xs) (i + d + 1) := by
      intro d
      induction d with
      | zero => intro i hi; exact h i (by omega)
      | succ d ih =>
        intro i hi
        have h1 := ih i (by omega)
        have h2 := h (i + d + 1) (by omega)
        rw [show i + (d + 1) + 1 = i + d + 1 + 1 by omega]; omega
    refine nodup_of_el fun i j hij hj => ?_
    rw [sortI_length] at hj
    have := hlt (j - i - 1) i (by omega)
    rw [show i + (j - i - 1) + 1 = j by omega] at this; omega
  · intro hn i hi
    have h1 := sortI_el (xs := xs) (i := i) (j := i + 1) (by omega) (by omega)
    have h2 : el (sortI xs) i ≠ el (sortI xs) (i + 1) := fun e => by
      have := el_inj_of_nodup hn (by rw [sortI_length]; omega) (by rw [sortI_length]; omega) e; omega
    omega
theorem run_sort {xs : List Int} (h1 : 1 ≤ xs.length) (hn : xs.Nodup) : runB (sortI xs) = endB xs.length xs := by
  have hmx := maxOf_mem h1
  have hmn := minOf_mem h1
  have hmem : ∀ k, k < xs.length → el (sortI xs) k ∈ xs := fun k hk => (sortI_perm xs).mem_iff.1 (el_mem (by rw [sortI_length]; exact hk))
  have hex : ∀ x ∈ xs, ∃ k, k < xs.length ∧ el (sortI xs) k = x := fun x hx => by
    obtain ⟨k, hk, e⟩ := List.getElem_of_mem ((sortI_perm xs).mem_iff.2 hx)
    have e1 := el_get hk
    rw [List.getElem?_eq_getElem hk] at e1
    exact ⟨k, by rw [sortI_length] at hk; exact hk, by rw [← Option.some.inj e1, e]⟩
  have hlast : el (sortI xs) (xs.length - 1) = Lib.maxOf xs := by
    obtain ⟨k, hk, e⟩ := hex _ hmx.1
    have h2 := hmx.2 _ (hmem (xs.length - 1) (by omega))
    by_cases q : k = xs.length - 1
    · rw [← e, q]
    · have := sortI_el (xs := xs) (i := k) (j := xs.length - 1) (by omega) (by omega); omega
  have hfirst : el (sortI xs) 0 = Lib.minOf xs := by
    obtain ⟨k, hk, e⟩ := hex _ hmn.1
    have h2 := hmn.2 _ (hmem 0 (by omega))
    by_cases q : k = 0
    · rw [← e, q]
    · have := sortI_el (xs := xs) (i := 0) (j := k) (by omega) (by omega); omega
  have hs := (setN_iff xs.length (by rw [sortI_length]; exact Nat.le_refl _)).1 ((setN_sort xs).2 hn)
  rw [Bool.eq_iff_iff, runB_iff, sortI_length]
  unfold endB
  rw [beq_iff_eq, ← hlast, ← hfirst]
  constructor
  · intro h
    have := h (xs.length - 1) (by omega); omega
  · intro h
    have hge : ∀ k, k < xs.length → el (sortI xs) 0 + k ≤ el (sortI xs) k := by
      intro k
      induction k with
      | zero => intro _; omega
      | succ k ih => intro hk; have := ih (by omega); have := hs k (by omega); omega
    have hle : ∀ d, d < xs.length → el (sortI xs) (xs.length - 1 - d) ≤ el (sortI xs) (xs.length - 1) - d := by
      intro d
      induction d with
      | zero => intro _; simp
      | succ d ih =>
        intro hd
        have h1 := ih (by omega)
        have h2 := hs (xs.length - 1 - (d + 1)) (by omega)
        rw [show xs.length - 1 - (d + 1) + 1 = xs.length - 1 - d by omega] at h2; omega
    intro k hk
    have h1 := hge k hk
    have h2 := hle (xs.length - 1 - k) (by omega)
    rw [show xs.length - 1 - (xs.length - 1 - k) = k by omega] at h2
    omega
theorem head_nodup {cs : List SmV} {g : List Int} (h : headB cs g = true) : g.Nodup := nodup_of_el fun i j hij hj e => by
  have := allN_at h hj
  unfold hkB at this
  simp only [Bool.and_eq_true, Bool.not_eq_true'] at this
  have h2 := this.2.1
  rw [← Bool.not_eq_true, hasB_iff] at h2
  apply h2
  rw [← e, ← el_takeN (xs := g) hij]
  exact el_mem (by rw [List.length_take]; omega)
theorem cls_nodup {cs : List SmV} {g : List Int} (h : ∀ i j, i < j → j < g.length → folB (stAt cs g i) (stAt cs g j) = false) : (cls SmV.d cs g).Nodup := nodup_of_el fun i j hij hj => by
  rw [cls_length] at hj
  rw [cls_el (by omega), cls_el hj]
  exact folB_d (h i j hij hj)
theorem grp_eq {la : Int} {cs : List SmV} {g : List Int} (hla : 2 ≤ la) : groupB la cs g = grp2B la cs g := by
  unfold groupB grp2B
  by_cases hl : ((g.length : Int) == la) = true
  · rw [hl, Bool.true_and, Bool.true_and]
    have hle : (g.length : Int) = la := by simpa using hl
    rw [Bool.eq_iff_iff]
    simp only [Bool.and_eq_true]
    have hclen := cls_length SmV.d cs g
    have hend : ∀ hn : (cls SmV.d cs g).Nodup, runB (sortI (cls SmV.d cs g)) = endB la (cls SmV.d cs g) := fun hn => by
      rw [run_sort (by rw [hclen]; omega) hn, hclen, hle]
    constructor
    · rintro ⟨h1, h2, h3, h4, h5, h6⟩
      have hnd := (setN_sort g).1 h6
      have hin := grpIn_at h1
      have hpair : ∀ i j, i < j → j < g.length → folB (stAt cs g i) (stAt cs g j) = false := fun i j hij hj => by
        have hne : el g i ≠ el g j := fun e => by have := el_inj_of_nodup hnd (by omega) hj e; omega
        rcases (show el g i < el g j ∨ el g j < el g i by omega) with q | q
        · have := allN_at h2 (show i < g.length by omega)
          simp only [Bool.and_eq_true] at this
          have := allN_at this.1 hj
          simpa [q] using this
        · have := allN_at h2 hj
          simp only [Bool.and_eq_true] at this
          have := allN_at this.1 (show i < g.length by omega)
          rw [folB_comm]
          simpa [q] using this
      refine ⟨allN_true fun k hk => ?_, h3, h4, by rw [← hend (cls_nodup hpair)]; exact h5⟩
      unfold hkB
      have hik := hin k hk
      have hop := allN_at h2 hk
      simp only [Bool.and_eq_true] at hop
      rw [inB_iff.2 ⟨hik.1, by omega⟩, show ((stAt cs g k).o == (stAt cs g 0).o) = true from hop.2, allN_true fun j hj => by rw [hpair j k hj hk]; rfl, Bool.true_and, Bool.true_and, Bool.and_true, Bool.not_eq_true', ← Bool.not_eq_true, hasB_iff]
      intro hm
      obtain ⟨j, hj, e⟩ := List.getElem_of_mem hm
      have hj' : j < k := by rw [List.length_take] at hj; omega
      have e1 := el_get hj
      rw [List.getElem?_eq_getElem hj] at e1
      have e2 : el g j = el g k := by rw [← el_takeN (xs := g) hj', ← Option.some.inj e1, e]
      have := el_inj_of_nodup hnd (by omega) hk e2; omega
    · rintro ⟨h1, h2, h3, h4⟩
      have hnd := head_nodup h1
      have hin := head_in h1
      have hpair : ∀ i j, i < j → j < g.length → folB (stAt cs g i) (stAt cs g j) = false := fun i j hij hj => by
        have := allN_at h1 hj
        unfold hkB at this
        simp only [Bool.and_eq_true] at this
        have := allN_at this.2.2.2 hij
        simpa using this
      refine ⟨?_, allN_true fun i hi => ?_, h2, h3, by rw [hend (cls_nodup hpair)]; exact h4, (setN_sort g).2 hnd⟩
      · unfold grpIn
        rw [List.all_eq_true]
        intro x hx
        obtain ⟨k, hk, e⟩ := List.getElem_of_mem hx
        have e1 := el_get hk
        rw [List.getElem?_eq_getElem hk] at e1
        rw [← e, Option.some.inj e1]
        have := hin k hk
        exact inB_iff.2 ⟨this.1, by omega⟩
      · have hop := allN_at h1 hi
        unfold hkB at hop
        simp only [Bool.and_eq_true] at hop
        rw [show opB cs g i = true from hop.2.2.1, Bool.and_true]
        refine allN_true fun k hk => ?_
        by_cases q : el g i < el g k
        · have hne : i ≠ k := fun e => by subst e; omega
          rcases (show i < k ∨ k < i by omega) with r | r
          · rw [hpair i k r hk]; simp
          · rw [folB_comm, hpair k i r hi]; simp
        · simp [q]
  · rw [show ((g.length : Int) == la) = false by simpa using hl]; rfl
theorem s_l07Group (w : World) (B : Nat) (la bi : Int) (A A' : Option Addr) (c c' : Nat) (cs : List SmV) (g : List Int) (hla : la ≤ 4) (hm : machB la bi = true) (hcs : codeB cs = true) (hl : g.length ≤ 1048576) (hcap : g.length ≤ c') (h0 : w.cell? ⟨B, 0, none⟩ = some (.int .i64 la)) (hR : RdC w A cs) (hG : RdI w A' g) :
    Calls Tryz.prog 123 #[.pointer (some ⟨B, 0, none⟩), .slice A cs.length c, .slice A' g.length c'] w fun e w' => e = .returned (.bool (groupB la cs g)) ∧ Below w.heap.size w w' := by
  have h24 : la = 2 ∨ la = 4 := by
    simp only [machB, Bool.and_eq_true] at hm
    have := lanesB_or hm.1; omega
  rw [grp_eq (by omega)]
  by_cases h : ((g.length : Int) == la) = true
  · obtain rfl : (g.length : Int) = la := by simpa using h
    exact s_GRc w B A A' c c' cs g hcs (by omega) (by omega) hcap h0 hR hG
  · have h' : ((g.length : Int) == la) = false := by simpa using h
    rw [show grp2B la cs g = false by unfold grp2B; rw [h']; rfl]
    exact s_GRa w B la A A' cs.length c g.length c' hl h0 (by simpa using h)

end Go.Proofs.YtmpdaafkphpnoaaGreat
set_option linter.unusedVariables false
set_option linter.unusedSimpArgs false
namespace Go.Proofs.YtmpdaafkphpnoaaGreat
open Go.RowKit

/-! ### Groups in order, apart from one another -/
def seqB : List Int → List Int → Bool
  | _, [] => true
  | s, x :: r => !hasB s x && seqB (s ++ [x]) r
def formG (gB : List Int → Bool) : Int → List Int → List (List Int) → Bool
  | _, _, [] => true
  | l, s, g :: r => gB g && (decide (l < Lib.minOf g) && (seqB s g && formG gB (Lib.minOf g) (s ++ g) r))
theorem seqB_step {s g : List Int} {k : Nat} (h : k < g.length) : seqB (s ++ g.take k) (g.drop k) = (!hasB (s ++ g.take k) (el g k) && seqB (s ++ g.take (k + 1)) (g.drop (k + 1))) := by
  rw [el_drop h, el_take h, ← List.append_assoc]; rfl
theorem formG_step {gB : List Int → Bool} {l : Int} {s : List Int} {gs : List (List Int)} {k : Nat} (h : k < gs.length) :
    formG gB l s (gs.drop k) = (gB (rw_ gs k) && (decide (l < Lib.minOf (rw_ gs k)) && (seqB s (rw_ gs k) && formG gB (Lib.minOf (rw_ gs k)) (s ++ rw_ gs k) (gs.drop (k + 1))))) := by
  have e : gs.drop k = rw_ gs k :: gs.drop (k + 1) := by
    rw [List.drop_eq_getElem_cons h]; congr 1; unfold rw_; rw [List.getD_eq_getElem?_getD, List.getElem?_eq_getElem h]; rfl
  rw [e]; rfl
theorem plainElem_bool_inv {e : TypeId} (he : Tryz.prog.underlying e = some .bool) {v : Value} {z : DataW Unit × List MemPlace} (h : plainElem Tryz.prog e v = some z) : ∃ x, v = .bool x ∧ z = (.lit (.bool x), []) := by
  unfold plainElem at h
  rw [he] at h
  cases v <;> simp at h
  subst h
  exact ⟨_, rfl, rfl⟩
/-- Block b is a map that holds the numbers S. -/
def SeenM (w : World) (b n : Nat) (S : List Int) : Prop := ∃ D : DataW Unit, w.ownsMap Tryz.prog 2 (plainElem Tryz.prog 4) b n D ∧ Go.Maps.IsMap D ∧ ∀ i : Int, D.atKey (.int .i64 i) (.lit (.bool false)) = .lit (.bool (hasB S i))
theorem SeenM.made (w : World) : SeenM (w.alloc (.map #[] 0)) w.heap.size 0 [] := ⟨.map [], World.ownsMap_made w _ _ _, Go.Maps.isMap_empty, fun i => rfl⟩
theorem SeenM.keep {w w' : World} {b n : Nat} {S : List Int} (h : SeenM w b n S) (hq : w'.heap[b]? = w.heap[b]?) : SeenM w' b n S := by
  obtain ⟨D, ⟨es, clock, hb, F, hs, hD⟩, h2, h3⟩ := h
  exact ⟨D, ⟨es, clock, hq.trans hb, F, hs, hD⟩, h2, h3⟩
theorem SeenM.lt {w : World} {b n : Nat} {S : List Int} (h : SeenM w b n S) : b < w.heap.size := by
  obtain ⟨D, h1, _⟩ := h
  exact h1.lt
theorem SeenM.below {w w' : World} {b n : Nat} {S : List Int} (h : SeenM w b n S) (hb : Below w.heap.size w w') : SeenM w' b n S := h.keep (hb.block b h.lt)
theorem wf_small {i : Int} (h : 0 ≤ i ∧ i < 64) : (Lit.int .i64 i).wf = true := by
  have e1 : IntKind.i64.min = -9223372036854775808 := by decide
  have e2 : IntKind.i64.max = 9223372036854775807 := by decide
  simp [Lit.wf, e1, e2]; omega
theorem SeenM.look {w : World} {b n : Nat} {S : List Int} (h : SeenM w b n S) {i : Int} (hi : 0 ≤ i ∧ i < 64) : (Instr.lookup 140 (.map (some b)) (.int .i64 i) false).run Tryz.prog w = .ok (.bool (hasB S i)) w := by
  obtain ⟨D, h1, h2, h3⟩ := h
  obtain ⟨v, ps, hrun, hv⟩ := h1.lookup (Go.Maps.int_keyed Tryz.underlying2) Tryz.underlying140 (z := .bool false) (by kernel_rfl) (plainElem_bool Tryz.underlying4 false) (Go.Maps.keyOf_int_mk Tryz.underlying2 (wf_small hi))
  rw [h3] at hv
  obtain ⟨x, rfl, hx⟩ := plainElem_bool_inv Tryz.underlying4 hv
  simp only [Prod.mk.injEq, DataW.lit.injEq, Lit.bool.injEq] at hx
  rw [hrun, ← hx.1]
theorem wp_seen {ops : Array Oper} {rest : List Oper} {o : Oper} {a : Act} {Q : Exit → Act → World → Prop} {W : World} (hg : o.guard = none) (m x v : Operand) (hop : o.op = Op.mapUpdate 140 m x v)
    (b n : Nat) (S : List Int) (i : Int) (hm : a.eval m = .map (some b)) (hx : a.eval x = .int .i64 i) (hv : a.eval v = .bool true) (hS : SeenM W b n S) (hn : n < 4194304) (hi : 0 ≤ i ∧ i < 64)
    (h : ∀ w1, SeenM w1 b (n + 1) (S ++ [i]) → Chg b (b + 1) W w1 → wpList Tryz.prog ops Q rest (a.put o.dst undef) w1) : wpList Tryz.prog ops Q (o :: rest) a W := by
  obtain ⟨D, h1, h2, h3⟩ := hS
  refine wpList_mapUpdate_own W hg m x v 140 hop 2 4 (Go.Maps.int_keyed Tryz.underlying2) Tryz.underlying140 _ b n D hm h1 (by simp only [maxLen]; omega) _ _ (.int .i64 i) hx hv (Go.Maps.keyOf_int_mk Tryz.underlying2 (wf_small hi)) (.lit (.bool true)) [] (plainElem_bool Tryz.underlying4 true) ?_
  intro w1 ho hgr
  refine h w1 ⟨_, ho, h2.put _ _, fun j => ?_⟩ ⟨hgr.os, hgr.tape, hgr.output, hgr.size, fun k hk hkk => hgr.block k hk (by simp; omega)⟩
  by_cases e : j = i
  · subst e
    rw [Go.Maps.atKey_put_same h2 (show WideAt.IsKeyLit (.int .i64 j) from trivial)]
    simp [hasB]
  · rw [Go.Maps.atKey_put_other (by simpa using e), h3]
    simp [hasB, Ne.symm e]
end Go.Proofs.YtmpdaafkphpnoaaGreat
set_option linter.unusedVariables false
set_option linter.unusedSimpArgs false
namespace Go.Proofs.YtmpdaafkphpnoaaGreat
open Go.RowKit

theorem rtot_le {gs : List (List Int)} {k : Nat} (h : rsz gs ≤ 1048576) (hk : k ≤ gs.length) : rtot gs k ≤ 1048576 := by
  have := rtot_mono gs hk; unfold rsz at h; omega
/-- The three blocks. -/
abbrev FW (w : World) (la bi : Int) (G : Option Addr) (n c : Nat) : World := ((w.alloc (.cells #[.int .i64 la, .int .i64 bi] 25)).alloc (.cells #[.slice G n c] 58)).alloc (.map #[] 0)
theorem FW.facts (w : World) (la bi : Int) (G : Option Addr) (n c : Nat) : Below w.heap.size w (FW w la bi G n c) ∧ (FW w la bi G n c).heap.size = w.heap.size + 3 ∧ SeenM (FW w la bi G n c) (w.heap.size + 2) 0 [] ∧
    (FW w la bi G n c).cell? ⟨w.heap.size, 0, none⟩ = some (.int .i64 la) ∧ (FW w la bi G n c).cell? ⟨w.heap.size, 1, none⟩ = some (.int .i64 bi) ∧ (FW w la bi G n c).cell? ⟨w.heap.size + 1, 0, none⟩ = some (.slice G n c) := by
  have b1 := ballocw w (.cells #[.int .i64 la, .int .i64 bi] 25)
  have b2 := ballocw (w.alloc (.cells #[.int .i64 la, .int .i64 bi] 25)) (.cells #[.slice G n c] 58)
  have b3 := ballocw ((w.alloc (.cells #[.int .i64 la, .int .i64 bi] 25)).alloc (.cells #[.slice G n c] 58)) (.map #[] 0)
  have c0 : (w.alloc (.cells #[.int .i64 la, .int .i64 bi] 25)).cell? ⟨w.heap.size, 0, none⟩ = some (.int .i64 la) := cell_of_row _ _ _ _ _ _ (heap_alloc_new _ _)
  have c1 : (w.alloc (.cells #[.int .i64 la, .int .i64 bi] 25)).cell? ⟨w.heap.size, 1, none⟩ = some (.int .i64 bi) := cell_of_row _ _ _ _ _ _ (heap_alloc_new _ _)
  have z1 : (w.alloc (.cells #[.int .i64 la, .int .i64 bi] 25)).heap.size = w.heap.size + 1 := by simp
  have c2 : ((w.alloc (.cells #[.int .i64 la, .int .i64 bi] 25)).alloc (.cells #[.slice G n c] 58)).cell? ⟨w.heap.size + 1, 0, none⟩ = some (.slice G n c) := by
    rw [← z1]; exact cell_of_row _ _ _ _ _ _ (heap_alloc_new _ _)
  have s := SeenM.made ((w.alloc (.cells #[.int .i64 la, .int .i64 bi] 25)).alloc (.cells #[.slice G n c] 58))
  rw [show ((w.alloc (.cells #[.int .i64 la, .int .i64 bi] 25)).alloc (.cells #[.slice G n c] 58)).heap.size = w.heap.size + 2 by simp] at s
  exact ⟨bthen (bthen b1 b2) b3, by simp, s, bcell (bthen b2 b3) c0, bcell (bthen b2 b3) c1, bcell b3 c2⟩
set_option maxRecDepth 100000 in
set_option maxHeartbeats 1000000 in
theorem i_isForm (w : World) (la bi : Int) (A G : Option Addr) (n c c' : Nat) (gs : List (List Int)) (gB : List Int → Bool) (hsz : rsz gs ≤ 1048576) (hR : RdR w G gs)
    (HG : Hid (∀ k, k < gs.length → gB (rw_ gs k) = true → 1 ≤ (rw_ gs k).length ∧ ∀ j, j < (rw_ gs k).length → 0 ≤ el (rw_ gs k) j ∧ el (rw_ gs k) j < 64))
    (CG : Hid (∀ W k A' cr, Below w.heap.size w W → k < gs.length → RdI W A' (rw_ gs k) → Calls Tryz.prog 130 #[mv la bi, .slice A n c, .slice A' (rw_ gs k).length cr] W fun e w' => e = .returned (.bool (gB (rw_ gs k))) ∧ Below W.heap.size W w')) :
    Calls Tryz.prog 84 #[mv la bi, .slice A n c, .agg #[.slice G gs.length c']] w fun e w' => e = .returned (.bool (formG gB (-1) [] gs)) ∧ Below w.heap.size w w' := by
  have hp0 := (FW.facts w la bi G gs.length c').2.2.2.2.2
  obtain ⟨W0, hW0, hB0, hz0, hS0, hm0, hm1⟩ : ∃ W0, ((w.alloc (.cells #[.int .i64 la, .int .i64 bi] 25)).alloc (.cells #[.slice G gs.length c'] 58)).alloc (.map #[] 0) = W0 ∧ Below w.heap.size w W0 ∧ W0.heap.size = w.heap.size + 3 ∧ SeenM W0 (w.heap.size + 2) 0 [] ∧ W0.cell? ⟨w.heap.size, 0, none⟩ = some (.int .i64 la) ∧ W0.cell? ⟨w.heap.size, 1, none⟩ = some (.int .i64 bi) :=
    ⟨_, rfl, (FW.facts w la bi G gs.length c').1, (FW.facts w la bi G gs.length c').2.1, (FW.facts w la bi G gs.length c').2.2.1, (FW.facts w la bi G gs.length c').2.2.2.1, (FW.facts w la bi G gs.length c').2.2.2.2.1⟩
  have HW0 := hid hW0
  clear hW0
  have HR := hid hR
  have HSZ := hid hsz
  have hgl : gs.length ≤ 1048576 := rsz_len hsz
  have HB0 := hid hB0
  have HS0 := hid hS0
  have HM0 := hid hm0
  have HM1 := hid hm1
  have HZ0 := hid hz0
  clear hR hsz hB0 hS0 hm0 hm1 hz0
  have hmm := @run_makeMap Tryz.prog
  go_enter Tryz.func84, Tryz.ntmps84
  go_wp2
  clear hp0 hmm
  rw [HW0.out]
  clear HW0
  go_loopg [8, 17] gs.length (fun gg s8 s17 wr => ∃ (k : Nat) (l : Int) (S : List Int), k ≤ gs.length ∧ gs.length - k ≤ gg ∧ s17 = .int .i64 k ∧ s8 = .int .i64 l ∧ Aside (S.length = rtot gs k) ∧ Aside (SeenM wr (w.heap.size + 2) S.length S) ∧ Aside (Chg (w.heap.size + 2) (w.heap.size + 3) W0 wr) ∧ Aside (formG gB (-1) [] gs = formG gB l S (gs.drop k)))
  case atStart => exact ⟨0, -1, [], Nat.zero_le _, by omega, rfl, rfl, rfl, HS0.out, Chg.refl _ _ _, rfl⟩
  case round =>
    obtain ⟨k, l, S, hk, hg, rfl, rfl, SL, SM, CW, IX⟩ := hrel
    obtain ⟨wk, rfl⟩ : ∃ wk : World, wk = wr := ⟨_, rfl⟩
    clear HS0
    by_cases hlt : k < gs.length
    · have hBk := HB0.out.trans (CW.out.below (B := w.heap.size) (by omega) (by have := HZ0.out; omega))
      obtain ⟨b, off, A', cr, rfl, hc, hcl, hri⟩ := HR.out.get hlt
      have hcW := bcell hBk hc
      have k0 : wk.cell? ⟨w.heap.size, 0, none⟩ = some (.int .i64 la) := (World.cell?_of_block (CW.out.block _ (by have := HZ0.out; show w.heap.size < _; omega) (.inl (by show w.heap.size < w.heap.size + 2; omega)))).trans HM0.out
      have k1 : wk.cell? ⟨w.heap.size, 1, none⟩ = some (.int .i64 bi) := (World.cell?_of_block (CW.out.block _ (by have := HZ0.out; show w.heap.size < _; omega) (.inl (by show w.heap.size < w.heap.size + 2; omega)))).trans HM1.out
      have C := hid (CG.out wk k A' cr hBk hlt (hri.below hBk))
      have HRI := hid hri
      have HBk := hid hBk
      have HFs := hid (formG_step (gB := gB) (l := l) (s := S) hlt)
      have HGk := hid (HG.out k hlt)
      have hglen : (rw_ gs k).length ≤ 1048576 := rsz_row HSZ.out hlt
      have HST : Hid (rtot gs (k + 1) = rtot gs k + (rw_ gs k).length) := hid rfl
      have HT1 := hid (rtot_le HSZ.out (k := k + 1) (by omega))
      have HKL := hid hlt
      have HKG := hid hg
      have hltz : (k : Int) < (gs.length : Int) := by omega
      have SL' := hid SL.out
      clear HR CG HG hc hri hBk hlt hg hk SL
      generalize rw_ gs k = g at *
      cases hgb : gB g with
      | false =>
        rw [hgb] at C
        have HX : Hid (formG gB (-1) [] gs = false) := hid (by rw [IX.out, HFs.out, hgb]; rfl)
        clear hgb HFs IX HGk
        go_wp2_with (go_at_call 130; go_loud (refine C.out.mono ?_; rintro e w2 ⟨rfl, hb2⟩; have HB2 := hid hb2; clear hb2))
        go_ret
        exact ⟨by rw [HX.out]; rfl, bthen HBk.out HB2.out⟩
      | true =>
        rw [hgb] at C
        obtain ⟨h1, hel⟩ := HGk.out hgb
        have HEL := hid hel
        have CM := hid (fun W (hW : Below w.heap.size w W) => g_Min W A' cr g hglen h1 (HRI.out.below hW))
        rw [hgb, Bool.true_and] at HFs
        clear HGk hgb hel
        generalize hmn : Lib.minOf g = mn at *
        clear hmn
        by_cases hle : mn ≤ l
        · have HX : Hid (formG gB (-1) [] gs = false) := hid (by rw [IX.out, HFs.out, decide_eq_false (by omega)]; rfl)
          clear HFs IX
          go_wp2_with (first
            | (go_at_call 130; go_loud (refine C.out.mono ?_; rintro e w2 ⟨rfl, hb2⟩; have HB2 := hid hb2; have HBw := hid (bthen HBk.out hb2); clear hb2))
            | (go_at_call 131; go_loud (refine (CM.out _ HBw.out).mono ?_; rintro e w3 ⟨rfl, rfl⟩)))
          go_ret
          exact ⟨by rw [HX.out]; rfl, HBw.out⟩
        · have HFn : Hid (formG gB (-1) [] gs = (seqB S g && formG gB mn (S ++ g) (gs.drop (k + 1)))) := hid (by rw [IX.out, HFs.out, decide_eq_true (by omega)]; rfl)
          clear HFs IX
          go_wp2_with (first
            | (go_at_call 130; go_loud (refine C.out.mono ?_; rintro e w2 ⟨rfl, hb2⟩; have HB2 := hid hb2; have HBw := hid (bthen HBk.out hb2); clear hb2))
            | (go_at_call 131; go_loud (refine (CM.out _ HBw.out).mono ?_; rintro e w3 ⟨rfl, rfl⟩)))
          have HC2 := hid (CW.out.trans (Chg.of HB2.out (Nat.le_refl _)))
          have HS2 := hid (SM.out.below HB2.out)
          clear CM C SM CW k0 k1 hcW HB2 HBw HBk
          go_loopg [36] g.length (fun gg s36 wr => ∃ j : Nat, j ≤ g.length ∧ g.length - j ≤ gg ∧ s36 = .int .i64 j ∧ Aside (SeenM wr (w.heap.size + 2) (S ++ g.take j).length (S ++ g.take j)) ∧ Aside (Chg (w.heap.size + 2) (w.heap.size + 3) W0 wr) ∧ Aside (seqB S g = seqB (S ++ g.take j) (g.drop j)))
          case atStart => exact ⟨0, Nat.zero_le _, by omega, rfl, by rw [List.take_zero, List.append_nil]; exact HS2.out, HC2.out, by rw [List.take_zero, List.append_nil]; rfl⟩
          case round =>
            obtain ⟨j, hj, hgj, rfl, SJ, CJ, IJ⟩ := hrel
            obtain ⟨wj, rfl⟩ : ∃ wj : World, wj = wr := ⟨_, rfl⟩
            clear HS2 HC2
            have hBj := HB0.out.trans (CJ.out.below (B := w.heap.size) (by omega) (by have := HZ0.out; omega))
            by_cases hjl : j < g.length
            · obtain ⟨b', off', rfl, hcj⟩ := (HRI.out.below hBj).get hjl
              have hlk := SJ.out.look (HEL.out j hjl)
              have HSJ := hid (seqB_step (s := S) hjl)
              have HJ := hid (HEL.out j hjl)
              have HTK : Hid (S ++ g.take (j + 1) = (S ++ g.take j) ++ [el g j]) := hid (by rw [el_take hjl, List.append_assoc])
              have HLN : Hid ((S ++ g.take j).length < 4194304) := hid (by have := SL'.out; have := HST.out; have := HT1.out; simp; omega)
              have HBj := hid hBj
              have HJL := hid hjl
              have HJG := hid hgj
              have hjz : (j : Int) < (g.length : Int) := by omega
              clear hBj hjl hgj hj HEL HRI
              generalize hx : el g j = x at *
              clear hx
              generalize S ++ g.take j = Sj at *
              cases hh : hasB Sj x with
              | true =>
                rw [hh] at hlk HSJ
                have HX : Hid (formG gB (-1) [] gs = false) := hid (by rw [HFn.out, IJ.out, HSJ.out]; rfl)
                clear hh HSJ IJ HFn
                go_wp2
                go_ret
                exact ⟨by rw [HX.out]; rfl, HBj.out⟩
              | false =>
                rw [hh] at hlk HSJ
                have IJ2 := hid (IJ.out.trans (HSJ.out.trans (Bool.true_and _)))
                clear hh HSJ IJ
                go_wp2_with (at_mapUpdate; go_loud (refine wp_seen rfl _ _ _ rfl (w.heap.size + 2) Sj.length Sj x rfl rfl rfl SJ.out HLN.out HJ.out ?_; intro w4 hs4 hc4; have HS4 := hid hs4; have HC4 := hid (CJ.out.trans hc4); clear hs4 hc4))
                go_roundg (g.length - (j + 1))
                case measure => have := HJL.out; have := HJG.out; go_light; omega
                case rel => exact ⟨j + 1, HJL.out, Nat.le_refl _, by have := HJL.out; go_num, by rw [HTK.out, List.length_append]; exact HS4.out, HC4.out, IJ2.out⟩
            · obtain rfl : j = g.length := by omega
              have hjz : ¬ (g.length : Int) < (g.length : Int) := by omega
              have HS9 : Hid (SeenM wj (w.heap.size + 2) (S ++ g).length (S ++ g)) := hid (by have := SJ.out; rwa [List.take_length] at this)
              have HX : Hid (formG gB (-1) [] gs = formG gB mn (S ++ g) (gs.drop (k + 1))) := hid (by rw [HFn.out, IJ.out, List.drop_length]; rfl)
              have HL9 : Hid ((S ++ g).length = rtot gs (k + 1)) := hid (by rw [List.length_append, HST.out, SL'.out])
              clear IJ SJ HFn HEL HRI
              go_wp2
              go_roundg (gs.length - (k + 1))
              case measure => have := HKL.out; have := HKG.out; go_light; omega
              case rel => exact ⟨k + 1, mn, S ++ g, HKL.out, Nat.le_refl _, by have := HKL.out; go_num, rfl, HL9.out, HS9.out, CJ.out, HX.out⟩
    · obtain rfl : k = gs.length := by omega
      have hltz : ¬ (gs.length : Int) < (gs.length : Int) := by omega
      have HX : Hid (formG gB (-1) [] gs = true) := hid (by rw [IX.out, List.drop_length]; rfl)
      clear IX HR CG HG
      go_wp2
      go_ret
      exact ⟨by rw [HX.out]; rfl, HB0.out.trans (CW.out.below (by omega) (by have := HZ0.out; omega))⟩
end Go.Proofs.YtmpdaafkphpnoaaGreat
set_option linter.unusedVariables false
set_option linter.unusedSimpArgs false
namespace Go.Proofs.YtmpdaafkphpnoaaGreat
open Go.RowKit

theorem OwnI.emp (w : World) (t : TypeId) : OwnI (w.alloc (.cells #[] t)) w.heap.size (w.alloc (.cells #[] t)).heap.size t (.slice (some ⟨w.heap.size, 0, none⟩) 0 0) [] := by
  have := Own.of (World.ownsRow_lit (base := w.heap.size) (e := t) (size := 1) w #[] 0 (Nat.le_refl _) (by simp [maxLen]) rfl)
  simpa [OwnI, ints] using this
theorem ints_snoc (xs : List Int) (x : Int) : ints (xs ++ [x]) = ints xs ++ [.int .i64 x] := by simp [ints]
set_option maxRecDepth 100000 in
set_option maxHeartbeats 2000000 in
theorem s_l07Form (w : World) (B P : Nat) (A G : Option Addr) (n c c' : Nat) (gs : List (List Int)) (gB : List Int → Bool) (hsz : rsz gs ≤ 1048576) (hR : RdR w G gs) (hp : w.cell? ⟨P, 0, none⟩ = some (.slice G gs.length c'))
    (HG : Hid (∀ k, k < gs.length → gB (rw_ gs k) = true → 1 ≤ (rw_ gs k).length ∧ ∀ j, j < (rw_ gs k).length → 0 ≤ el (rw_ gs k) j ∧ el (rw_ gs k) j < 64))
    (CG : Hid (∀ W k A' cr, Below w.heap.size w W → k < gs.length → (rw_ gs k).length ≤ cr → RdI W A' (rw_ gs k) → Calls Tryz.prog 123 #[.pointer (some ⟨B, 0, none⟩), .slice A n c, .slice A' (rw_ gs k).length cr] W fun e w' => e = .returned (.bool (gB (rw_ gs k))) ∧ Below W.heap.size W w'))
    (CE : Hid (∀ W k A' cr, k < gs.length → 1 ≤ (rw_ gs k).length → RdI W A' (rw_ gs k) → Calls Tryz.prog 124 #[.slice A' (rw_ gs k).length cr] W fun e w' => e = .returned (.tuple #[.int .i64 (Lib.minOf (rw_ gs k)), .int .i64 (Lib.maxOf (rw_ gs k))]) ∧ W = w')) :
    Calls Tryz.prog 79 #[.pointer (some ⟨B, 0, none⟩), .slice A n c, .pointer (some ⟨P, 0, none⟩)] w fun e w' => e = .returned (.bool (formG gB (-1) [] gs)) ∧ Below w.heap.size w w' := by
  have HR := hid hR
  have HSZ := hid hsz
  have hgl : gs.length ≤ 1048576 := rsz_len hsz
  have HP := hid hp
  have HO0 := hid (OwnI.emp w 2)
  have HB0 := hid (ballocw w (.cells #[] 2))
  clear hR hsz hp
  go_enter Tryz.func79, Tryz.ntmps79
  go_wp2
  go_loopg [7, 8, 9] gs.length (fun gg s7 s8 s9 wr => ∃ (k : Nat) (l : Int) (S : List Int), k ≤ gs.length ∧ gs.length - k ≤ gg ∧ s9 = .int .i64 k ∧ s8 = .int .i64 l ∧ Aside (S.length = rtot gs k) ∧ Aside (OwnI wr w.heap.size wr.heap.size 2 s7 S) ∧ Aside (Below w.heap.size w wr) ∧ Aside (formG gB (-1) [] gs = formG gB l S (gs.drop k)))
  case atStart => exact ⟨0, -1, [], Nat.zero_le _, by omega, rfl, rfl, rfl, HO0.out, HB0.out, rfl⟩
  case round =>
    obtain ⟨k, l, S, hk, hg, rfl, rfl, SL, SM, BW, IX⟩ := hrel
    obtain ⟨wk, rfl⟩ : ∃ wk : World, wk = wr := ⟨_, rfl⟩
    clear HO0 HB0
    have hpk := bcell BW.out HP.out
    by_cases hlt : k < gs.length
    · obtain ⟨b, off, A', cr, rfl, hc, hcl, hri⟩ := HR.out.get hlt
      have hcW := bcell BW.out hc
      have C := hid (CG.out wk k A' cr BW.out hlt hcl (hri.below BW.out))
      have HRI := hid hri
      have HCK := hid hc
      have HFs := hid (formG_step (gB := gB) (l := l) (s := S) hlt)
      have HGk := hid (HG.out k hlt)
      have hglen : (rw_ gs k).length ≤ 1048576 := rsz_row HSZ.out hlt
      have HST : Hid (rtot gs (k + 1) = rtot gs k + (rw_ gs k).length) := hid rfl
      have HT1 := hid (rtot_le HSZ.out (k := k + 1) (by omega))
      have CE' := hid (fun W A'' cr' => CE.out W k A'' cr' hlt)
      have HKL := hid hlt
      have HKG := hid hg
      have hltz : (k : Int) < (gs.length : Int) := by omega
      have SL' := hid SL.out
      clear HR CG CE HG hc hri hlt hg hk SL hcl
      generalize rw_ gs k = g at *
      cases hgb : gB g with
      | false =>
        rw [hgb] at C
        have HX : Hid (formG gB (-1) [] gs = false) := hid (by rw [IX.out, HFs.out, hgb]; rfl)
        clear hgb HFs IX HGk
        go_wp2_with (go_at_call 123; go_loud (refine C.out.mono ?_; rintro e w2 ⟨rfl, hb2⟩; have HB2 := hid hb2; clear hb2))
        go_ret
        exact ⟨by rw [HX.out]; rfl, bthen BW.out HB2.out⟩
      | true =>
        rw [hgb] at C
        obtain ⟨h1, hel⟩ := HGk.out hgb
        have HEL := hid hel
        have CM := hid (fun W (hW : Below w.heap.size w W) => CE'.out W A' cr h1 (HRI.out.below hW))
        rw [hgb, Bool.true_and] at HFs
        clear HGk hgb hel CE' h1
        generalize hmn : Lib.minOf g = mn at *
        clear hmn
        generalize Lib.maxOf g = mx at *
        by_cases hle : mn ≤ l
        · have HX : Hid (formG gB (-1) [] gs = false) := hid (by rw [IX.out, HFs.out, decide_eq_false (by omega)]; rfl)
          clear HFs IX
          go_wp2_with (first
            | (go_at_call 123; go_loud (refine C.out.mono ?_; rintro e w2 ⟨rfl, hb2⟩; have HBw := hid (bthen BW.out hb2); have hp2 := bcell HBw.out HP.out; have hc2 := bcell HBw.out HCK.out; clear hb2))
            | (go_at_call 124; go_loud (refine (CM.out _ HBw.out).mono ?_; rintro e w3 ⟨rfl, rfl⟩)))
          go_ret
          exact ⟨by rw [HX.out]; rfl, HBw.out⟩
        · have HFn : Hid (formG gB (-1) [] gs = (seqB S g && formG gB mn (S ++ g) (gs.drop (k + 1)))) := hid (by rw [IX.out, HFs.out, decide_eq_true (by omega)]; rfl)
          clear HFs IX
          go_wp2_with (first
            | (go_at_call 123; go_loud (refine C.out.mono ?_; rintro e w2 ⟨rfl, hb2⟩; have HB2 := hid hb2; have HBw := hid (bthen BW.out hb2); have hp2 := bcell HBw.out HP.out; have hc2 := bcell HBw.out HCK.out; clear hb2))
            | (go_at_call 124; go_loud (refine (CM.out _ HBw.out).mono ?_; rintro e w3 ⟨rfl, rfl⟩)))
          have HS2 := hid ((Own.eqv SM.out (Eqv.of HB2.out (Nat.le_refl _))).wide (Nat.le_refl _) HB2.out.size)
          clear CM C SM BW HB2 hpk hcW hp2 hc2
          go_loopg [7, 12] g.length (fun gg s7 s12 wr => ∃ j : Nat, j ≤ g.length ∧ g.length - j ≤ gg ∧ s12 = .int .i64 j ∧ Aside (OwnI wr w.heap.size wr.heap.size 2 s7 (S ++ g.take j)) ∧ Aside (Below w.heap.size w wr) ∧ Aside (seqB S g = seqB (S ++ g.take j) (g.drop j)))
          case atStart => exact ⟨0, Nat.zero_le _, by omega, rfl, by rw [List.take_zero, List.append_nil]; exact HS2.out, HBw.out, by rw [List.take_zero, List.append_nil]; rfl⟩
          case round =>
            obtain ⟨j, hj, hgj, rfl, SJ, CJ, IJ⟩ := hrel
            obtain ⟨wj, rfl⟩ : ∃ wj : World, wj = wr := ⟨_, rfl⟩
            clear HS2 HBw
            have hpj := bcell CJ.out HP.out
            have hcj2 := bcell CJ.out HCK.out
            by_cases hjl : j < g.length
            · obtain ⟨b', off', rfl, hcj⟩ := (HRI.out.below CJ.out).get hjl
              have HSJ := hid (seqB_step (s := S) hjl)
              have HTK : Hid (S ++ g.take (j + 1) = (S ++ g.take j) ++ [el g j]) := hid (by rw [el_take hjl, List.append_assoc])
              have HLN : Hid ((S ++ g.take j).length + 1 ≤ 1048577) := hid (by have := SL'.out; have := HST.out; have := HT1.out; simp; omega)
              have HB1 := hid (show (S ++ g.take j).length + 1 ≤ 9223372036854775807 by have := HLN.out; omega)
              have HB2 := hid (show ((S ++ g.take j).length + 1) * 8 ≤ 140737488355328 by have := HLN.out; omega)
              obtain ⟨A7, c7, rfl, _, _, hR7⟩ := Own.int SJ.out
              have CH := hid (s_l00Has wj A7 c7 (S ++ g.take j) (el g j) (by have := HLN.out; omega) hR7)
              have SJ' := hid SJ.out
              have HJL := hid hjl
              have HJG := hid hgj
              have hjz : (j : Int) < (g.length : Int) := by omega
              clear hjl hgj hj HEL HRI hR7 SJ
              generalize hx : el g j = x at *
              clear hx
              generalize S ++ g.take j = Sj at *
              cases hh : hasB Sj x with
              | true =>
                rw [hh] at CH HSJ
                have HX : Hid (formG gB (-1) [] gs = false) := hid (by rw [HFn.out, IJ.out, HSJ.out]; rfl)
                clear hh HSJ IJ HFn
                go_wp2_with (go_at_call 125; go_loud (refine CH.out.mono ?_; rintro e w4 ⟨rfl, rfl⟩))
                go_ret
                exact ⟨by rw [HX.out]; rfl, CJ.out⟩
              | false =>
                rw [hh] at CH HSJ
                have IJ2 := hid (IJ.out.trans (HSJ.out.trans (Bool.true_and _)))
                have HSZJ := hid CJ.out.size
                clear hh HSJ IJ
                go_wp2_with (first
                  | (go_at_call 125; go_loud (refine CH.out.mono ?_; rintro e w4 ⟨rfl, rfl⟩))
                  | (at_builtin; go_loud (refine wp_append1 w.heap.size rfl _ _ 28 2 (.int .i64 0) 8 rfl Tryz.underlying28 infoInt rfl (.slice A7 Sj.length c7) Sj.length _ (.int .i64 x) rfl rfl rfl SJ'.out HSZJ.out HB1.out HB2.out ?_; intro v1 w5 hown1 hbel1; have HO5 := hid hown1; have HB5 := hid (CJ.out.trans hbel1); clear hown1 hbel1)))
                go_roundg (g.length - (j + 1))
                case measure => have := HJL.out; have := HJG.out; go_light; omega
                case rel => exact ⟨j + 1, HJL.out, Nat.le_refl _, by have := HJL.out; go_num, by rw [HTK.out]; show Own _ _ _ _ _ _ _ _; rw [ints_snoc, List.length_append]; exact HO5.out, HB5.out, IJ2.out⟩
            · obtain rfl : j = g.length := by omega
              have hjz : ¬ (g.length : Int) < (g.length : Int) := by omega
              have HS9 : Hid (OwnI wj w.heap.size wj.heap.size 2 u7 (S ++ g)) := hid (by have := SJ.out; rwa [List.take_length] at this)
              have HX : Hid (formG gB (-1) [] gs = formG gB mn (S ++ g) (gs.drop (k + 1))) := hid (by rw [HFn.out, IJ.out, List.drop_length]; rfl)
              have HL9 : Hid ((S ++ g).length = rtot gs (k + 1)) := hid (by rw [List.length_append, HST.out, SL'.out])
              clear IJ SJ HFn HEL HRI
              go_wp2
              go_roundg (gs.length - (k + 1))
              case measure => have := HKL.out; have := HKG.out; go_light; omega
              case rel => exact ⟨k + 1, mn, S ++ g, HKL.out, Nat.le_refl _, by have := HKL.out; go_num, rfl, HL9.out, HS9.out, CJ.out, HX.out⟩
    · obtain rfl : k = gs.length := by omega
      have hltz : ¬ (gs.length : Int) < (gs.length : Int) := by omega
      have HX : Hid (formG gB (-1) [] gs = true) := hid (by rw [IX.out, List.drop_length]; rfl)
      clear IX HR CG HG CE
      go_wp2
      go_ret
      exact ⟨by rw [HX.out]; rfl, BW.out⟩
end Go.Proofs.YtmpdaafkphpnoaaGreat
set_option linter.unusedVariables false
set_option linter.unusedSimpArgs false
namespace Go.Proofs.YtmpdaafkphpnoaaGreat
open Go.RowKit

def qB (cs : List SmV) (D u : List Int) (x i : Nat) : Bool := !(folB (sel cs i) (sel cs x) && (!hasB D (i : Int) && !hasB u (i : Int)))
theorem rdyB_all {cs : List SmV} {D u : List Int} (h : ∀ k, k < u.length → ∀ i, i < (el u k).toNat → qB cs D u (el u k).toNat i = true) : rdyB cs D u = true := by
  unfold rdyB
  rw [List.all_eq_true]
  intro x hx
  obtain ⟨k, hk, rfl⟩ := List.getElem_of_mem hx
  have e := el_get hk
  rw [List.getElem?_eq_getElem hk] at e
  rw [Option.some.inj e, List.all_eq_true]
  intro i hi
  exact h k hk i (List.mem_range.1 hi)
theorem rdyB_not {cs : List SmV} {D u : List Int} {k i : Nat} (hk : k < u.length) (hi : i < (el u k).toNat) (h : qB cs D u (el u k).toNat i = false) : rdyB cs D u = false := by
  unfold rdyB
  rw [List.all_eq_false]
  refine ⟨el u k, el_mem hk, ?_⟩
  rw [Bool.not_eq_true, List.all_eq_false]
  exact ⟨i, List.mem_range.2 hi, by rw [Bool.not_eq_true]; exact h⟩
set_option maxRecDepth 100000 in
set_option maxHeartbeats 1000000 in
theorem s_l07Ready (w : World) (A Au Ad : Option Addr) (c cu cd : Nat) (cs : List SmV) (u D : List Int) (hU : InU cs u) (hul : u.length ≤ 1048576) (hdl : D.length ≤ 1048576) (hR : RdC w A cs) (hu : RdI w Au u) (hd : RdI w Ad D) :
    Calls Tryz.prog 127 #[.slice A cs.length c, .slice Au u.length cu, .slice Ad D.length cd] w fun e w' => e = .returned (.bool (rdyB cs D u)) ∧ Below w.heap.size w w' := by
  have HR := hid hR
  have HU := hid hU
  have HRU := hid hu
  have HRD := hid hd
  have HDL := hid hdl
  clear hR hU hu hd hdl
  go_enter Tryz.func127, Tryz.ntmps127
  go_wp2
  go_loopg [7] u.length (fun gg s7 wr => ∃ k : Nat, k ≤ u.length ∧ u.length - k ≤ gg ∧ s7 = .int .i64 k ∧ Aside (Below w.heap.size w wr) ∧ Aside (∀ j, j < k → ∀ i, i < (el u j).toNat → qB cs D u (el u j).toNat i = true))
  case atStart => exact ⟨0, Nat.zero_le _, by omega, rfl, Below.refl _ _, fun j hj => absurd hj (Nat.not_lt_zero _)⟩
  case round =>
    obtain ⟨k, hk, hg, rfl, BW, AL⟩ := hrel
    obtain ⟨wk, rfl⟩ : ∃ wk : World, wk = wr := ⟨_, rfl⟩
    by_cases hlt : k < u.length
    · have hltz : (k : Int) < (u.length : Int) := by omega
      obtain ⟨x, hx16, hxc, he⟩ := HU.out.at_ hlt
      have HE := hid he
      have HKL := hid hlt
      have HKG := hid hg
      go_wp2
      go_loopg [8] x (fun gg s8 wr => ∃ i : Nat, i ≤ x ∧ x - i ≤ gg ∧ s8 = .int .i64 i ∧ Aside (Below w.heap.size w wr) ∧ Aside (∀ j, j < i → qB cs D u x j = true))
      case atStart => exact ⟨0, Nat.zero_le _, by omega, rfl, BW.out, fun j hj => absurd hj (Nat.not_lt_zero _)⟩
      case round =>
        obtain ⟨i, hi, hgi, rfl, BJ, AJ⟩ := hrel
        obtain ⟨wi, rfl⟩ : ∃ wi : World, wi = wr := ⟨_, rfl⟩
        obtain ⟨bu, ou, rfl, hcu⟩ := (HRU.out.below BJ.out).get hlt
        rw [he] at hcu
        have hcu2 := lcell hcu
        by_cases hil : i < x
        · obtain ⟨ba, oa, rfl, hat⟩ := HR.out.at (by omega)
          have hi16 : (i : Int) < 16 := by omega
          have hiz : (i : Int) < (x : Int) := by omega
          have hic : (i : Int) < (cs.length : Int) := by omega
          have hxcz : (x : Int) < (cs.length : Int) := by omega
          have CM := hid (fun (z : Lat wi) => s_l03Must z.val ba (oa + i * 4) ba (oa + x * 4) (sel cs i) (sel cs x) ((hat i (by omega)).below (bthen BJ.out z.below)) ((hat x hxc).below (bthen BJ.out z.below)))
          have CD := hid (fun (z : Lat wi) => s_l00Has z.val Ad cd D (i : Int) (by have := HDL.out; omega) (HRD.out.below (bthen BJ.out z.below)))
          have CU := hid (fun (z : Lat wi) => s_l00Has z.val (some ⟨bu, ou, none⟩) cu u (i : Int) (by omega) (HRU.out.below (bthen BJ.out z.below)))
          have HIL := hid hil
          have HIG := hid hgi
          have HQ : Hid (qB cs D u x i = !(folB (sel cs i) (sel cs x) && (!hasB D (i : Int) && !hasB u (i : Int)))) := hid rfl
          have HOK := hid (fun (h : qB cs D u x i = true) => (show ∀ j, j < i + 1 → qB cs D u x j = true from fun j hj => by
            by_cases e : j = i
            · subst e; exact h
            · exact AJ.out j (by omega)))
          have HNO := hid (fun (h : qB cs D u x i = false) => rdyB_not (cs := cs) (D := D) (i := i) HKL.out (by rw [HE.out, Int.toNat_natCast]; exact HIL.out) (by rw [HE.out, Int.toNat_natCast]; exact h))
          clear hat hil hgi hi he AJ AL hlt hk hg
          generalize folB (sel cs i) (sel cs x) = r1 at *
          generalize hasB D (i : Int) = r2 at *
          generalize hasB u (i : Int) = r3 at *
          cases r1 with
          | false =>
            have AX := hid (HOK.out (by rw [HQ.out]; rfl))
            clear HQ HOK HNO
            go_wp2
            refine wp_region_calm (by kernel_rfl) (by kernel_rfl) ?_
            repeat (go_big_quiet_step (first | (go_at_call 177; exact calm_of (CM.out _)) | (go_at_call 125; first | with_reducible exact calm_same (CD.out _) | with_reducible exact calm_same (CU.out _))))
            refine wpQuiet_nil ?_
            intro _ hw'
            obtain ⟨xq, hw''⟩ := hw'
            subst hw''
            have BX := hid (bthen BJ.out xq.below)
            go_wp2
            go_roundg (x - (i + 1))
            case measure => have := HIL.out; have := HIG.out; go_light; omega
            case rel => exact ⟨i + 1, HIL.out, Nat.le_refl _, by have := HIL.out; go_num, BX.out, AX.out⟩
          | true =>
            cases r2 with
            | true =>
              have AX := hid (HOK.out (by rw [HQ.out]; rfl))
              clear HQ HOK HNO
              go_wp2
              refine wp_region_calm (by kernel_rfl) (by kernel_rfl) ?_
              repeat (go_big_quiet_step (first | (go_at_call 177; exact calm_of (CM.out _)) | (go_at_call 125; first | with_reducible exact calm_same (CD.out _) | with_reducible exact calm_same (CU.out _))))
              refine wpQuiet_nil ?_
              intro _ hw'
              obtain ⟨xq, hw''⟩ := hw'
              subst hw''
              have BX := hid (bthen BJ.out xq.below)
              go_wp2
              go_roundg (x - (i + 1))
              case measure => have := HIL.out; have := HIG.out; go_light; omega
              case rel => exact ⟨i + 1, HIL.out, Nat.le_refl _, by have := HIL.out; go_num, BX.out, AX.out⟩
            | false =>
              cases r3 with
              | true =>
                have AX := hid (HOK.out (by rw [HQ.out]; rfl))
                clear HQ HOK HNO
                go_wp2
                refine wp_region_calm (by kernel_rfl) (by kernel_rfl) ?_
                repeat (go_big_quiet_step (first | (go_at_call 177; exact calm_of (CM.out _)) | (go_at_call 125; first | with_reducible exact calm_same (CD.out _) | with_reducible exact calm_same (CU.out _))))
                refine wpQuiet_nil ?_
                intro _ hw'
                obtain ⟨xq, hw''⟩ := hw'
                subst hw''
                have BX := hid (bthen BJ.out xq.below)
                go_wp2
                go_roundg (x - (i + 1))
                case measure => have := HIL.out; have := HIG.out; go_light; omega
                case rel => exact ⟨i + 1, HIL.out, Nat.le_refl _, by have := HIL.out; go_num, BX.out, AX.out⟩
              | false =>
                have NX := hid (HNO.out (by rw [HQ.out]; rfl))
                clear HQ HOK HNO
                go_wp2
                refine wp_region_calm (by kernel_rfl) (by kernel_rfl) ?_
                repeat (go_big_quiet_step (first | (go_at_call 177; exact calm_of (CM.out _)) | (go_at_call 125; first | with_reducible exact calm_same (CD.out _) | with_reducible exact calm_same (CU.out _))))
                refine wpQuiet_nil ?_
                intro _ hw'
                obtain ⟨xq, hw''⟩ := hw'
                subst hw''
                have BX := hid (bthen BJ.out xq.below)
                go_wp2
                go_ret
                exact ⟨by rw [NX.out]; rfl, BX.out⟩
        · obtain rfl : i = x := by omega
          have hiz : ¬ (i : Int) < (i : Int) := by omega
          have AX := hid (show ∀ j, j < k + 1 → ∀ y, y < (el u j).toNat → qB cs D u (el u j).toNat y = true from fun j hj y hy => by
            by_cases e : j = k
            · subst e; rw [HE.out, Int.toNat_natCast] at hy ⊢; exact AJ.out y hy
            · exact AL.out j (by omega) y hy)
          clear AJ AL hcu2
          go_wp2
          go_roundg (u.length - (k + 1))
          case measure => have := HKL.out; have := HKG.out; go_light; omega
          case rel => exact ⟨k + 1, HKL.out, Nat.le_refl _, by have := HKL.out; go_num, BJ.out, AX.out⟩
    · obtain rfl : k = u.length := by omega
      have hltz : ¬ (u.length : Int) < (u.length : Int) := by omega
      have NX := hid (rdyB_all AL.out)
      clear AL
      go_wp2
      go_ret
      exact ⟨by rw [NX.out]; rfl, BW.out⟩
end Go.Proofs.YtmpdaafkphpnoaaGreat
set_option linter.unusedVariables false
set_option linter.unusedSimpArgs false
namespace Go.Proofs.YtmpdaafkphpnoaaGreat
open Go.RowKit

/-- append(v, x...) onto a row of the call's own: all that changes told. -/
theorem wp_appendG {P : Program} {ops : Array Oper} {rest : List Oper} {o : Oper} {a : Act} {Q : Exit → Act → World → Prop} {W : World} (lo : Nat) (hgd : o.guard = none) (s x : Operand) (t e : TypeId) (z : Value) (bytes : Nat)
    (ho : o.op = .call { callee := .builtin .append, args := #[s, x], argTypes := #[t, t] })
    (ht : P.underlying t = some (.slice e)) (hinfo : (P.info? e).map (fun i => (i.zero, i.size, i.bytes)) = some (some z, 1, bytes)) (hz : z.cells.size = 1)
    (v : Value) (n : Nat) (cs : List Value) (A : Option Addr) (m c : Nat) (cs' : List Value) (hlen : cs'.length = m) (hs : a.eval s = v) (hx : a.eval x = .slice A m c)
    (HO : Own W lo W.heap.size e 1 v n cs) (hR : ∀ j u, cs'[j]? = some u → ∃ ad, A = some ad ∧ W.cell? (ad.add j) = some u) (h1 : ∀ u ∈ cs', u.oneCell' = true) (hlo : lo ≤ W.heap.size) (hl : n + m ≤ 9223372036854775807) (hby : (n + m) * bytes ≤ 140737488355328)
    (h : ∀ v1 w1, Own w1 lo w1.heap.size e 1 v1 (n + m) (cs ++ cs') → W.grownBy w1 v.ownBlock → (v1.ownBlock = v.ownBlock ∨ v1.ownBlock = some W.heap.size) → wpList P ops Q rest (a.put o.dst v1) w1) :
    wpList P ops Q (o :: rest) a W := by
  obtain ⟨i0, hi, hzz⟩ := Option.map_eq_some_iff.1 hinfo
  simp only [Prod.mk.injEq] at hzz
  obtain ⟨hz0, hz1, hz2⟩ := hzz
  cases A with
  | some ad =>
    refine wpList_append_own_at W hgd s x t ho lo e i0 z 1 bytes ht hi hz0 hz1 hz2 hz (by omega) v n cs hs HO.1 ad m c cs' hx (by simpa using hlen) (fun j u hu => by
      obtain ⟨ad', e', hc⟩ := hR j u hu
      cases e'; exact hc) h1 (by simp only [maxLen]; omega) hby hlo ?_
    intro v1 w1 hown hg _ hblk
    exact h v1 w1 (Own.of hown) hg hblk
  | none =>
    have hnil : cs' = [] := by
      cases cs' with
      | nil => rfl
      | cons y ys => obtain ⟨ad, e', _⟩ := hR 0 y rfl; cases e'
    subst hnil
    obtain rfl : m = 0 := by simpa using hlen.symm
    have hrun : (Builtin.append_ #[t, t] o.type #[v, .slice none 0 c]).run P W = .ok v W := by
      rcases HO.1.2 with ⟨rfl, rfl⟩ | ⟨g, cap, cur, rfl, _, _, hnc, _⟩
      · simp [Builtin.append_, run_underlying ht, sizeOf, typeInfo, hi, Builtin.lenOf, Builtin.firstCells]
      · simp [Builtin.append_, run_underlying ht, sizeOf, typeInfo, hi, Builtin.lenOf, Builtin.firstCells, hnc, storeCells]
    refine wpList_plain hgd fun K hK => ?_
    unfold Oper.wp execOp
    simp only [ho, resolve, invoke, builtin, Sem.run_bind, Sem.run_pure, Result.andThen_ok, List.map_toArray, List.map_cons, List.map_nil, hs, hx]
    rw [hrun]
    exact hK _ _ (h v W (by simpa using HO) ⟨rfl, rfl, rfl, Nat.le_refl _, fun _ _ _ => rfl⟩ (.inl rfl))
/-- Rows that grow, and numbers beside them. -/
structure SA (w : World) (lo : Nat) (R : List (List Int)) (f : Nat → Value) (vo vg : Value) (g : List Int) : Prop where
  tb : TB w lo w.heap.size R f
  ls : LS w lo w.heap.size f vo (List.range R.length)
  apt : Apt R f vo
  ow : OwnI w lo w.heap.size 2 vg g
  apg : Apt R f vg
  sep : ∀ a, vo.ownBlock = some a → vg.ownBlock ≠ some a
theorem SA.below {w w' : World} {lo : Nat} {R : List (List Int)} {f : Nat → Value} {vo vg : Value} {g : List Int} (h : SA w lo R f vo vg g) (hb : Below w.heap.size w w') : SA w' lo R f vo vg g :=
  ⟨⟨fun k hk => ((h.tb.row k hk).eqv (Eqv.of hb (Nat.le_refl _))).wide (Nat.le_refl _) hb.size, h.tb.apart⟩, (Own.eqv h.ls (Eqv.of hb (Nat.le_refl _))).wide (Nat.le_refl _) hb.size, h.apt, (Own.eqv h.ow (Eqv.of hb (Nat.le_refl _))).wide (Nat.le_refl _) hb.size, h.apg, h.sep⟩
theorem LS.cong {w : World} {lo hi : Nat} {f f' : Nat → Value} {v : Value} {L : List Nat} (h : LS w lo hi f v L) (he : ∀ x ∈ L, f' x = f x) : LS w lo hi f' v L := by
  unfold LS at *
  rw [List.map_congr_left he]; exact h
/-- A row of one's own is added; w: before the row was made. -/
theorem SA.push {w W w1 : World} {lo : Nat} {R : List (List Int)} {f : Nat → Value} {vo vg v1 vr : Value} {g row : List Int} (h : SA w lo R f vo vg g) (hlo : lo ≤ w.heap.size) (hb : Below w.heap.size w W) (hr : OwnI W w.heap.size W.heap.size 2 vr row)
    (hown : Own w1 lo w1.heap.size 28 1 v1 (R.length + 1) ((List.range R.length).map f ++ [vr])) (hg : W.grownBy w1 vo.ownBlock) (hblk : v1.ownBlock = vo.ownBlock ∨ v1.ownBlock = some W.heap.size) :
    SA w1 lo (R ++ [row]) (upd f R.length vr) v1 vg g := by
  have hW := h.below hb
  have hsz := hg.size
  have hsz2 := hb.size
  have hvo : ∀ a, vo.ownBlock = some a → a < w.heap.size := fun a ha => (own_at h.ls ha).2.2
  have hfr : ∀ a, vr.ownBlock = some a → w.heap.size ≤ a ∧ a < W.heap.size := fun a ha => by have := own_at hr ha; omega
  have hrl : (R ++ [row]).length = R.length + 1 := by simp
  refine ⟨⟨fun k hk => ?_, fun i j a b hij hj ha hb' => ?_⟩, ?_, fun k a b hk ha hb' => ?_, ?_, fun k a b hk ha hb' => ?_, fun a ha => ?_⟩
  · rw [hrl] at hk
    by_cases e : k = R.length
    · subst e
      rw [upd_at, rw_last]
      exact (own_blk hr fun a ha => hg.block a (hfr a ha).2 (fun q => by have := hvo a q.symm; have := (hfr a ha).1; omega)).wide hlo hsz
    · have hk' : k < R.length := by omega
      rw [upd_ne _ _ e, rw_snoc _ _ _ hk']
      exact (own_blk (hW.tb.row k hk') fun a ha => hg.block a (hW.tb.lt hk' ha).2.2 (fun q => h.apt k a a hk' q.symm ha rfl)).wide (Nat.le_refl _) hsz
  · rw [hrl] at hj
    rw [upd_ne _ _ (by omega)] at ha
    by_cases e : j = R.length
    · rw [e, upd_at] at hb'
      have := (h.tb.lt (show i < R.length by omega) ha).2.2
      have := (hfr b hb').1
      omega
    · rw [upd_ne _ _ e] at hb'
      exact h.tb.apart i j a b hij (by omega) ha hb'
  · unfold LS
    rw [List.length_range, hrl, ← range_snoc]; exact hown
  · rw [hrl] at hk
    by_cases e : k = R.length
    · rw [e, upd_at] at hb'
      have h1 := hfr b hb'
      rcases hblk with q | q
      · rw [q] at ha; have := hvo a ha; omega
      · rw [q] at ha; cases ha; omega
    · rw [upd_ne _ _ e] at hb'
      have hk' : k < R.length := by omega
      rcases hblk with q | q
      · rw [q] at ha; exact h.apt k a b hk' ha hb'
      · rw [q] at ha; cases ha
        have := (hW.tb.lt hk' hb').2.2
        omega
  · exact (own_blk hW.ow fun a ha => hg.block a (own_at hW.ow ha).2.2 (fun q => h.sep a q.symm ha)).wide (Nat.le_refl _) hsz
  · rw [hrl] at hk
    by_cases e : k = R.length
    · rw [e, upd_at] at hb'
      have := hfr b hb'
      have := (own_at h.ow ha).2.2
      omega
    · rw [upd_ne _ _ e] at hb'
      exact h.apg k a b (by omega) ha hb'
  · rcases hblk with q | q
    · rw [q] at ha; exact h.sep a ha
    · rw [q] at ha; cases ha
      intro q2
      have := (own_at hW.ow q2).2.2
      omega
/-- Numbers are added. -/
theorem SA.ints {W w1 : World} {lo : Nat} {R : List (List Int)} {f : Nat → Value} {vo vg v1 : Value} {g ys : List Int} (h : SA W lo R f vo vg g)
    (hown : Own w1 lo w1.heap.size 2 1 v1 (g.length + ys.length) (ints g ++ ints ys)) (hg : W.grownBy w1 vg.ownBlock) (hblk : v1.ownBlock = vg.ownBlock ∨ v1.ownBlock = some W.heap.size) :
    SA w1 lo R f vo v1 (g ++ ys) := by
  have hsz := hg.size
  refine ⟨⟨fun k hk => (own_blk (h.tb.row k hk) fun a ha => hg.block a (h.tb.lt hk ha).2.2 (fun q => h.apg k a a hk q.symm ha rfl)).wide (Nat.le_refl _) hsz, h.tb.apart⟩, (own_blk h.ls fun a ha => hg.block a (own_at h.ls ha).2.2 (fun q => h.sep a ha q.symm)).wide (Nat.le_refl _) hsz, h.apt, ?_, fun k a b hk ha hb => ?_, fun a ha q2 => ?_⟩
  · unfold OwnI
    rw [List.length_append]
    have : Go.Proofs.YtmpdaafkphpnoaaGreat.ints (g ++ ys) = Go.Proofs.YtmpdaafkphpnoaaGreat.ints g ++ Go.Proofs.YtmpdaafkphpnoaaGreat.ints ys := by simp [Go.Proofs.YtmpdaafkphpnoaaGreat.ints]
    rw [this]; exact hown
  · rcases hblk with q | q
    · rw [q] at ha; exact h.apg k a b hk ha hb
    · rw [q] at ha; cases ha
      have := (h.tb.lt hk hb).2.2
      omega
  · rcases hblk with q | q
    · rw [q] at q2; exact h.sep a ha q2
    · rw [q] at q2; cases q2
      have := (own_at h.ls ha).2.2
      omega
end Go.Proofs.YtmpdaafkphpnoaaGreat
set_option linter.unusedVariables false
set_option linter.unusedSimpArgs false
namespace Go.Proofs.YtmpdaafkphpnoaaGreat
open Go.RowKit

theorem inG_flat (gs : List (List Int)) (i : Int) : inG gs i = hasB gs.flatten i := by
  unfold inG
  rw [Bool.eq_iff_iff, decide_eq_true_iff, hasB_iff, List.mem_flatten]
  rcases idxN_spec (fun k => hasB (rw_ gs k) i) gs.length with ⟨h1, h2⟩ | ⟨k, hk, h1, h2, _⟩
  · rw [h1]
    constructor
    · intro h; omega
    · rintro ⟨l, hl, hi⟩
      obtain ⟨k, hk, rfl⟩ := List.getElem_of_mem hl
      have := h2 k hk
      unfold rw_ at this
      rw [List.getD_eq_getElem?_getD, List.getElem?_eq_getElem hk] at this
      rw [← Bool.not_eq_true, hasB_iff] at this
      exact absurd hi this
  · rw [h1]
    constructor
    · intro _
      refine ⟨rw_ gs k, ?_, hasB_iff.1 h2⟩
      unfold rw_
      rw [List.getD_eq_getElem?_getD, List.getElem?_eq_getElem hk]
      exact List.getElem_mem hk
    · intro _; omega
theorem flat_take {gs : List (List Int)} {k : Nat} (h : k < gs.length) : (gs.take (k + 1)).flatten = (gs.take k).flatten ++ rw_ gs k := by rw [rw_take h, List.flatten_append]; simp
theorem flat_len (gs : List (List Int)) {k : Nat} (h : k ≤ gs.length) : (gs.take k).flatten.length = rtot gs k := by
  induction k with
  | zero => simp [rtot]
  | succ k ih => rw [flat_take (by omega), List.length_append, ih (by omega)]; rfl
theorem map_rw (R : List (List Int)) : (List.range R.length).map (rw_ R) = R := by
  apply List.ext_getElem?
  intro k
  by_cases hk : k < R.length
  · rw [List.getElem?_map, List.getElem?_range hk]
    simp [rw_, List.getD_eq_getElem?_getD, hk]
  · rw [List.getElem?_eq_none (by simp; omega), List.getElem?_eq_none (by omega)]
theorem cells1 {W : World} {v : Value} {t : TypeId} : ∀ j u, ([v] : List Value)[j]? = some u → ∃ ad, (some ⟨W.heap.size, 0, none⟩ : Option Addr) = some ad ∧ (W.alloc (.cells #[v] t)).cell? (ad.add j) = some u := fun j u hu => by
  cases j with
  | zero =>
    simp at hu; subst hu
    exact ⟨_, rfl, by show (W.alloc _).cell? (Addr.add _ 0) = _; exact cell_of_row _ _ _ _ _ _ (heap_alloc_new _ _)⟩
  | succ j => simp at hu
theorem cellsI {W : World} {A : Option Addr} {xs : List Int} (h : RdI W A xs) : ∀ j u, (ints xs)[j]? = some u → ∃ ad, A = some ad ∧ W.cell? (ad.add j) = some u := fun j u hu => by
  have hj : j < xs.length := by have := (List.getElem?_eq_some_iff.1 hu).1; simpa [ints] using this
  obtain ⟨b, off, e', hc⟩ := h.get hj
  rw [ints_get hj] at hu
  cases hu
  refine ⟨_, e', ?_⟩
  rw [← hc]; congr 1
  unfold Addr.add; split
  · rename_i h; subst h; rfl
  · rfl
theorem SA.init (w : World) : SA ((w.alloc (.cells #[] 28)).alloc (.cells #[] 2)) w.heap.size [] (fun _ => .slice none 0 0) (.slice (some ⟨w.heap.size, 0, none⟩) 0 0) (.slice (some ⟨w.heap.size + 1, 0, none⟩) 0 0) [] := by
  have z : (w.alloc (.cells #[] 28)).heap.size = w.heap.size + 1 := by simp
  have o1 : Own (w.alloc (.cells #[] 28)) w.heap.size (w.alloc (.cells #[] 28)).heap.size 28 1 (.slice (some ⟨w.heap.size, 0, none⟩) 0 0) 0 [] := Own.of (World.ownsRow_lit (base := w.heap.size) (e := 28) (size := 1) w #[] 0 (Nat.le_refl _) (by simp [maxLen]) rfl)
  have o2 := OwnI.emp (w.alloc (.cells #[] 28)) 2
  have hb := ballocw (w.alloc (.cells #[] 28)) (.cells #[] 2)
  rw [z] at o2
  exact ⟨⟨fun k hk => absurd hk (Nat.not_lt_zero _), fun i j a b _ hj => absurd hj (Nat.not_lt_zero _)⟩, (o1.eqv (Eqv.of hb (Nat.le_refl _))).wide (Nat.le_refl _) hb.size, fun k a b hk => absurd hk (Nat.not_lt_zero _), o2.wide (by omega) (Nat.le_refl _), fun k a b hk => absurd hk (Nat.not_lt_zero _), fun a ha hg => by
    simp only [Value.ownBlock, Option.some.injEq] at ha hg; omega⟩
set_option maxRecDepth 100000 in
set_option maxHeartbeats 2000000 in
theorem s_l07All (w : World) (P : Nat) (A G : Option Addr) (c c' : Nat) (cs : List SmV) (gs : List (List Int)) (h16 : cs.length ≤ 16) (hsz : rsz gs ≤ 1048576) (hgl : gs.length ≤ 1000000) (hR : RdR w G gs) (hp : w.cell? ⟨P, 0, none⟩ = some (.slice G gs.length c')) :
    Calls Tryz.prog 126 #[.slice A cs.length c, .pointer (some ⟨P, 0, none⟩)] w fun e w' => ∃ v, e = .returned v ∧ OR w' w.heap.size w'.heap.size v (tabG gs cs.length) ∧ Below w.heap.size w w' := by
  have HR := hid hR
  have HSZ := hid hsz
  have HP := hid hp
  have H16 := hid h16
  have HS0 := hid (SA.init w)
  have HB0 := hid (balloc (ballocw w (.cells #[] 28)) (.cells #[] 2))
  clear hR hsz hp h16
  go_enter Tryz.func126, Tryz.ntmps126
  go_wp2
  go_loopg [5, 6, 7] gs.length (fun gg s5 s6 s7 wr => ∃ (k : Nat) (f : Nat → Value), k ≤ gs.length ∧ gs.length - k ≤ gg ∧ s7 = .int .i64 k ∧ Aside (SA wr w.heap.size (gs.take k) f s5 s6 (gs.take k).flatten) ∧ Aside (Below w.heap.size w wr))
  case atStart => exact ⟨0, _, Nat.zero_le _, by omega, rfl, HS0.out, HB0.out⟩
  case round =>
    obtain ⟨k, f, hk, hg, rfl, SW, BW⟩ := hrel
    obtain ⟨wk, rfl⟩ : ∃ wk : World, wk = wr := ⟨_, rfl⟩
    clear HS0 HB0
    have hpk := bcell BW.out HP.out
    by_cases hlt : k < gs.length
    · obtain ⟨b, off, A', cr, rfl, hc, hcl, hri⟩ := HR.out.get hlt
      have hcW := bcell BW.out hc
      have hrl := rsz_row HSZ.out hlt
      have C := hid (s_l00Own wk A' cr (rw_ gs k) hrl (hri.below BW.out))
      have HRI := hid hri
      have HCK := hid hc
      have HTK := hid (rw_take hlt)
      have HFK := hid (flat_take hlt)
      have hltz : (k : Int) < (gs.length : Int) := by omega
      have HTL : Hid ((gs.take k).length = k) := hid (by simp; omega)
      have HFL : Hid ((gs.take k).flatten.length + (rw_ gs k).length ≤ 1048576) := hid (by
        have h1 := flat_len gs (k := k + 1) (by omega)
        rw [flat_take hlt, List.length_append] at h1
        have := rtot_le HSZ.out (k := k + 1) (by omega)
        omega)
      have HKL := hid hlt
      have HKG := hid hg
      have N1 := hid (show (gs.take k).length + 1 ≤ 9223372036854775807 by rw [HTL.out]; omega)
      have N2 := hid (show ((gs.take k).length + 1) * 24 ≤ 140737488355328 by rw [HTL.out]; omega)
      have N3 := hid (show (gs.take k).flatten.length + (rw_ gs k).length ≤ 9223372036854775807 by have := HFL.out; omega)
      have N4 := hid (show ((gs.take k).flatten.length + (rw_ gs k).length) * 8 ≤ 140737488355328 by have := HFL.out; omega)
      have HZB := hid BW.out.size
      clear HR hc hri hlt hg hk hcl
      generalize rw_ gs k = g at *
      generalize gs.take k = T at *
      generalize T.flatten = F at *
      go_wp2_with (first
        | (go_at_call 91; go_loud (refine C.out.mono ?_; rintro e w2 ⟨v2, rfl, ho2, hb2⟩; obtain ⟨A2, c2, rfl, _, _, _⟩ := Own.int ho2; have HO2 := hid ho2; have HB2 := hid hb2; have HBa := hid (bthen hb2 (ballocw w2 (.cells #[.slice A2 g.length c2] 28))); clear ho2 hb2))
        | (at_builtin; go_loud (refine wp_appendG w.heap.size rfl _ _ 27 28 (.slice none 0 0) 24 rfl Tryz.underlying27 infoRow rfl u5 T.length ((List.range T.length).map f) (some ⟨w2.heap.size, 0, none⟩) 1 1 [.slice A2 g.length c2] rfl rfl rfl (by have := (SW.out.below HBa.out).ls; unfold LS at this; rwa [List.length_range] at this) cells1 (by intro u hu; simp at hu; subst hu; rfl) (Nat.le_trans HZB.out HBa.out.size) N1.out N2.out ?_; intro v3 w3 hown3 hg3 hblk3; have HS3 := hid (SW.out.push HZB.out HBa.out ((Own.eqv HO2.out (Eqv.of (ballocw w2 (.cells #[.slice A2 g.length c2] 28)) (Nat.le_refl _))).wide (Nat.le_refl _) (by simp)) hown3 hg3 hblk3); have HB3 := hid (bthen BW.out HBa.out |>.trans (below_grown hg3 (Nat.le_trans HZB.out HBa.out.size) (fun a ha => (own_at SW.out.ls ha).1))); have kp3 := bcell HB3.out HP.out; have kc3 := bcell HB3.out HCK.out; have HZ3 := hid HB3.out.size; clear hown3 hg3 hblk3))
        | (at_builtin; go_loud (refine wp_appendG w.heap.size rfl _ _ 28 2 (.int .i64 0) 8 rfl Tryz.underlying28 infoInt rfl u6 F.length (ints F) A' g.length cr (ints g) (ints_length g) rfl rfl HS3.out.ow (cellsI (HRI.out.below HB3.out)) (by intro u hu; simp [ints] at hu; obtain ⟨q, _, rfl⟩ := hu; rfl) HZ3.out N3.out N4.out ?_; intro v4 w4 hown4 hg4 hblk4; have HS4 := hid (HS3.out.ints hown4 hg4 hblk4); have HB4 := hid (HB3.out.trans (below_grown hg4 HZ3.out (fun a ha => (own_at HS3.out.ow ha).1))); clear hown4 hg4 hblk4)))
      go_roundg (gs.length - (k + 1))
      case measure => have := HKL.out; have := HKG.out; go_light; omega
      case rel => exact ⟨k + 1, upd f T.length (.slice A2 g.length c2), HKL.out, Nat.le_refl _, by have := HKL.out; go_num, by rw [HFK.out, HTK.out]; exact HS4.out, HB4.out⟩
    · obtain rfl : k = gs.length := by omega
      have hltz : ¬ (gs.length : Int) < (gs.length : Int) := by omega
      obtain ⟨Ag, cg, rfl, _, _, _⟩ := Own.int SW.out.ow
      rw [List.take_length] at SW ⊢
      have HSW := hid SW.out
      have HBW := hid BW.out
      have HFL : Hid (gs.flatten.length ≤ 1048576) := hid (by
        have h1 := flat_len gs (k := gs.length) (Nat.le_refl _)
        rw [List.take_length] at h1
        have := rtot_le HSZ.out (k := gs.length) (Nat.le_refl _)
        omega)
      have HFI := hid (inG_flat gs)
      clear HR HP SW BW hlt hk hg
      generalize gs.flatten = F at *
      go_wp2
      clear hpk hltz
      go_loopg [5, 8] cs.length (fun gg s5 s8 wr => ∃ (j : Nat) (f : Nat → Value), j ≤ cs.length ∧ cs.length - j ≤ gg ∧ s8 = .int .i64 j ∧ Aside (SA wr w.heap.size (gs ++ snG gs j) f s5 (.slice Ag F.length cg) F) ∧ Aside (Below w.heap.size w wr))
      case atStart => exact ⟨0, f, Nat.zero_le _, by omega, rfl, by rw [show gs ++ snG gs 0 = gs from List.append_nil gs]; exact HSW.out, HBW.out⟩
      case round =>
        obtain ⟨j, f2, hj, hgj, rfl, SJ, BJ⟩ := hrel
        obtain ⟨wj, rfl⟩ : ∃ wj : World, wj = wr := ⟨_, rfl⟩
        clear HSW HBW
        by_cases hjl : j < cs.length
        · have hjz : (j : Int) < (cs.length : Int) := by omega
          have hj16 : (j : Int) < 16 := by have := H16.out; omega
          obtain ⟨_, _, eg, _, _, hrg⟩ := Own.int SJ.out.ow
          cases eg
          have CH := hid (s_l00Has wj Ag cg F (j : Int) (by have := HFL.out; omega) hrg)
          have HSN : Hid (snG gs (j + 1) = if hasB F (j : Int) then snG gs j else snG gs j ++ [[(j : Int)]]) := hid (by rw [← HFI.out]; rfl)
          have HJL := hid hjl
          have HJG := hid hgj
          have HTL : Hid ((gs ++ snG gs j).length ≤ 1000016) := hid (by have := snG_len gs j; have := H16.out; simp; omega)
          have N1 := hid (show (gs ++ snG gs j).length + 1 ≤ 9223372036854775807 by have := HTL.out; omega)
          have N2 := hid (show ((gs ++ snG gs j).length + 1) * 24 ≤ 140737488355328 by have := HTL.out; omega)
          have HZB := hid BJ.out.size
          have HAS := hid (fun (row : List Int) => (List.append_assoc gs (snG gs j) [row]))
          clear hrg hjl hgj hj HFI
          generalize hT : gs ++ snG gs j = T at *
          cases hh : hasB F (j : Int) with
          | true =>
            rw [hh] at CH HSN
            have HS2 : Hid (gs ++ snG gs (j + 1) = T) := hid (by rw [HSN.out]; exact hT)
            clear hh HSN hT HAS
            go_wp2_with (go_at_call 125; go_loud (refine CH.out.mono ?_; rintro e w2 ⟨rfl, rfl⟩))
            go_roundg (cs.length - (j + 1))
            case measure => have := HJL.out; have := HJG.out; go_light; omega
            case rel => exact ⟨j + 1, f2, HJL.out, Nat.le_refl _, by have := HJL.out; go_num, by rw [HS2.out]; exact SJ.out, BJ.out⟩
          | false =>
            rw [hh] at CH HSN
            have HS2 : Hid (gs ++ snG gs (j + 1) = T ++ [[(j : Int)]]) := hid (by rw [HSN.out, HAS.out]; rfl)
            have HBa := hid (bthen (ballocw wj (.cells #[.int .i64 (j : Int)] 2)) (ballocw (wj.alloc (.cells #[.int .i64 (j : Int)] 2)) (.cells #[.slice (some ⟨wj.heap.size, 0, none⟩) 1 1] 28)))
            have HOR : Hid (OwnI ((wj.alloc (.cells #[.int .i64 (j : Int)] 2)).alloc (.cells #[.slice (some ⟨wj.heap.size, 0, none⟩) 1 1] 28)) wj.heap.size ((wj.alloc (.cells #[.int .i64 (j : Int)] 2)).alloc (.cells #[.slice (some ⟨wj.heap.size, 0, none⟩) 1 1] 28)).heap.size 2 (.slice (some ⟨wj.heap.size, 0, none⟩) 1 1) [(j : Int)]) := hid ((Own.eqv (own_lit1 wj (j : Int)) (Eqv.of (ballocw (wj.alloc (.cells #[.int .i64 (j : Int)] 2)) (.cells #[.slice (some ⟨wj.heap.size, 0, none⟩) 1 1] 28)) (Nat.le_refl _))).wide (Nat.le_refl _) (by simp))
            have HC1 := hid (cells1 (W := wj.alloc (.cells #[.int .i64 (j : Int)] 2)) (v := .slice (some ⟨wj.heap.size, 0, none⟩) 1 1) (t := 28))
            rw [show (wj.alloc (.cells #[.int .i64 (j : Int)] 2)).heap.size = wj.heap.size + 1 by simp] at HC1
            clear hh HSN hT HAS
            go_wp2_with (first
              | (go_at_call 125; go_loud (refine CH.out.mono ?_; rintro e w2 ⟨rfl, rfl⟩))
              | (at_builtin; go_loud (refine wp_appendG w.heap.size rfl _ _ 27 28 (.slice none 0 0) 24 rfl Tryz.underlying27 infoRow rfl u5 T.length ((List.range T.length).map f2) (some ⟨wj.heap.size + 1, 0, none⟩) 1 1 [.slice (some ⟨wj.heap.size, 0, none⟩) 1 1] rfl rfl rfl (by have := (SJ.out.below HBa.out).ls; unfold LS at this; rwa [List.length_range] at this) HC1.out (by intro u hu; simp at hu; subst hu; rfl) (Nat.le_trans HZB.out HBa.out.size) N1.out N2.out ?_; intro v3 w3 hown3 hg3 hblk3; have HS3 := hid (SJ.out.push HZB.out HBa.out HOR.out hown3 hg3 hblk3); have HB3 := hid ((bthen BJ.out HBa.out).trans (below_grown hg3 (Nat.le_trans HZB.out HBa.out.size) (fun a ha => (own_at SJ.out.ls ha).1))); clear hown3 hg3 hblk3)))
            go_roundg (cs.length - (j + 1))
            case measure => have := HJL.out; have := HJG.out; go_light; omega
            case rel => exact ⟨j + 1, upd f2 T.length (.slice (some ⟨wj.heap.size, 0, none⟩) 1 1), HJL.out, Nat.le_refl _, by have := HJL.out; go_num, by rw [HS2.out]; exact HS3.out, HB3.out⟩
        · obtain rfl : j = cs.length := by omega
          have hjz : ¬ (cs.length : Int) < (cs.length : Int) := by omega
          have HOR := hid (SJ.out.tb.rows SJ.out.ls SJ.out.apt (fun x hx => List.mem_range.1 hx) List.nodup_range)
          rw [map_rw] at HOR
          clear SJ HFI
          go_wp2
          go_ret
          exact ⟨_, rfl, HOR.out, BJ.out⟩
end Go.Proofs.YtmpdaafkphpnoaaGreat
set_option linter.unusedVariables false
set_option linter.unusedSimpArgs false
namespace Go.Proofs.YtmpdaafkphpnoaaGreat
open Go.RowKit

theorem unS_nil (cs : List SmV) (R : List (List Int)) (D : List Int) (O : List Nat) : unS cs R ([] : List Nat).length [] D O = (O, true) := rfl
theorem unS_fail {cs : List SmV} {R : List (List Int)} {L : List Nat} {D : List Int} {O : List Nat} (hL : 0 < L.length) (h : (nxS cs R D L).1 < 0) : unS cs R L.length L D O = ([], false) := by
  obtain ⟨m, hm⟩ : ∃ m, L.length = m + 1 := ⟨L.length - 1, by omega⟩
  rw [hm]; simp only [unS]; rw [if_pos h]
theorem unS_step {cs : List SmV} {R : List (List Int)} {L : List Nat} {D : List Int} {O : List Nat} {k : Nat} (hk : k < L.length) (h : (nxS cs R D L).1 = k) :
    unS cs R L.length L D O = unS cs R (L.eraseIdx k).length (L.eraseIdx k) (D ++ rw_ R (L.getD k 0)) (O ++ [L.getD k 0]) := by
  obtain ⟨m, hm⟩ : ∃ m, L.length = m + 1 := ⟨L.length - 1, by omega⟩
  have e : (L.eraseIdx k).length = m := by rw [List.length_eraseIdx, if_pos hk]; omega
  rw [hm, e]; simp only [unS]; rw [h, if_neg (by omega), Int.toNat_natCast]
theorem nxS_cases (cs : List SmV) (R : List (List Int)) (D : List Int) (L : List Nat) : (nxS cs R D L).1 = -1 ∨ ∃ k : Nat, k < L.length ∧ (nxS cs R D L).1 = k := by
  rcases bstN_spec (fun k => rdyB cs D (rw_ R (L.getD k 0))) (fun k => Lib.minOf (rw_ R (L.getD k 0))) L.length with ⟨h, _⟩ | ⟨k, hk, h, _⟩
  · left; show (bstN _ _ _).1 = _; rw [h]
  · right; exact ⟨k, hk, by show (bstN _ _ _).1 = _; rw [h]⟩
structure SU (w : World) (lo : Nat) (R : List (List Int)) (f : Nat → Value) (vl : Value) (L : List Nat) (vo : Value) (O : List Nat) (vd : Value) (D : List Int) : Prop where
  tb : TB w lo w.heap.size R f
  ll : LS w lo w.heap.size f vl L
  lq : LS w lo w.heap.size f vo O
  od : OwnI w lo w.heap.size 2 vd D
  al : Apt R f vl
  ao : Apt R f vo
  ad : Apt R f vd
  slo : ∀ a, vl.ownBlock = some a → vo.ownBlock ≠ some a
  sld : ∀ a, vl.ownBlock = some a → vd.ownBlock ≠ some a
  sod : ∀ a, vo.ownBlock = some a → vd.ownBlock ≠ some a
theorem SU.below {w w' : World} {lo : Nat} {R : List (List Int)} {f : Nat → Value} {vl vo vd : Value} {L O : List Nat} {D : List Int} (h : SU w lo R f vl L vo O vd D) (hb : Below w.heap.size w w') : SU w' lo R f vl L vo O vd D :=
  ⟨⟨fun k hk => ((h.tb.row k hk).eqv (Eqv.of hb (Nat.le_refl _))).wide (Nat.le_refl _) hb.size, h.tb.apart⟩, (Own.eqv h.ll (Eqv.of hb (Nat.le_refl _))).wide (Nat.le_refl _) hb.size, (Own.eqv h.lq (Eqv.of hb (Nat.le_refl _))).wide (Nat.le_refl _) hb.size,
    (Own.eqv h.od (Eqv.of hb (Nat.le_refl _))).wide (Nat.le_refl _) hb.size, h.al, h.ao, h.ad, h.slo, h.sld, h.sod⟩
theorem SU.appO {W w1 : World} {lo x : Nat} {R : List (List Int)} {f : Nat → Value} {vl vo vd v1 : Value} {L O : List Nat} {D : List Int} (h : SU W lo R f vl L vo O vd D)
    (hown : Own w1 lo w1.heap.size 28 1 v1 (O.length + 1) (O.map f ++ [f x])) (hg : W.grownBy w1 vo.ownBlock) (hblk : v1.ownBlock = vo.ownBlock ∨ v1.ownBlock = some W.heap.size) : SU w1 lo R f vl L v1 (O ++ [x]) vd D := by
  have hsz := hg.size
  refine ⟨⟨fun k hk => (own_blk (h.tb.row k hk) fun a ha => hg.block a (h.tb.lt hk ha).2.2 (fun q => h.ao k a a hk q.symm ha rfl)).wide (Nat.le_refl _) hsz, h.tb.apart⟩,
    (own_blk h.ll fun a ha => hg.block a (own_at h.ll ha).2.2 (fun q => h.slo a ha q.symm)).wide (Nat.le_refl _) hsz, LS.snoc hown, (own_blk h.od fun a ha => hg.block a (own_at h.od ha).2.2 (fun q => h.sod a q.symm ha)).wide (Nat.le_refl _) hsz, h.al, fun k a b hk ha hb => ?_, h.ad, fun a ha q2 => ?_, h.sld, fun a ha q2 => ?_⟩
  · rcases hblk with q | q
    · rw [q] at ha; exact h.ao k a b hk ha hb
    · rw [q] at ha; cases ha
      have := (h.tb.lt hk hb).2.2
      omega
  · rcases hblk with q | q
    · rw [q] at q2; exact h.slo a ha q2
    · rw [q] at q2; cases q2
      have := (own_at h.ll ha).2.2
      omega
  · rcases hblk with q | q
    · rw [q] at ha; exact h.sod a ha q2
    · rw [q] at ha; cases ha
      have := (own_at h.od q2).2.2
      omega
theorem SU.appD {W w1 : World} {lo : Nat} {R : List (List Int)} {f : Nat → Value} {vl vo vd v1 : Value} {L O : List Nat} {D ys : List Int} (h : SU W lo R f vl L vo O vd D)
    (hown : Own w1 lo w1.heap.size 2 1 v1 (D.length + ys.length) (ints D ++ ints ys)) (hg : W.grownBy w1 vd.ownBlock) (hblk : v1.ownBlock = vd.ownBlock ∨ v1.ownBlock = some W.heap.size) : SU w1 lo R f vl L vo O v1 (D ++ ys) := by
  have hsz := hg.size
  have ei : Go.Proofs.YtmpdaafkphpnoaaGreat.ints (D ++ ys) = Go.Proofs.YtmpdaafkphpnoaaGreat.ints D ++ Go.Proofs.YtmpdaafkphpnoaaGreat.ints ys := by simp [Go.Proofs.YtmpdaafkphpnoaaGreat.ints]
  refine ⟨⟨fun k hk => (own_blk (h.tb.row k hk) fun a ha => hg.block a (h.tb.lt hk ha).2.2 (fun q => h.ad k a a hk q.symm ha rfl)).wide (Nat.le_refl _) hsz, h.tb.apart⟩,
    (own_blk h.ll fun a ha => hg.block a (own_at h.ll ha).2.2 (fun q => h.sld a ha q.symm)).wide (Nat.le_refl _) hsz, (own_blk h.lq fun a ha => hg.block a (own_at h.lq ha).2.2 (fun q => h.sod a ha q.symm)).wide (Nat.le_refl _) hsz, ?_, h.al, h.ao, fun k a b hk ha hb => ?_, h.slo, fun a ha q2 => ?_, fun a ha q2 => ?_⟩
  · unfold OwnI; rw [List.length_append, ei]; exact hown
  · rcases hblk with q | q
    · rw [q] at ha; exact h.ad k a b hk ha hb
    · rw [q] at ha; cases ha
      have := (h.tb.lt hk hb).2.2
      omega
  · rcases hblk with q | q
    · rw [q] at q2; exact h.sld a ha q2
    · rw [q] at q2; cases q2
      have := (own_at h.ll ha).2.2
      omega
  · rcases hblk with q | q
    · rw [q] at q2; exact h.sod a ha q2
    · rw [q] at q2; cases q2
      have := (own_at h.lq ha).2.2
      omega
theorem SU.newL {w w1 : World} {lo : Nat} {R : List (List Int)} {f : Nat → Value} {vl vo vd v1 : Value} {L L' O : List Nat} {D : List Int} (h : SU w lo R f vl L vo O vd D) (hlo : lo ≤ w.heap.size) (hb : Below w.heap.size w w1) (hl : LS w1 w.heap.size w1.heap.size f v1 L') : SU w1 lo R f v1 L' vo O vd D := by
  have h1 := h.below hb
  have hn : ∀ a, v1.ownBlock = some a → w.heap.size ≤ a := fun a ha => (own_at hl ha).1
  exact ⟨h1.tb, Own.wide hl hlo (Nat.le_refl _), h1.lq, h1.od, fun k a b hk ha hb' => by have := hn a ha; have := (h.tb.lt hk hb').2.2; omega, h1.ao, h1.ad,
    fun a ha q => by have := hn a ha; have := (own_at h.lq q).2.2; omega, fun a ha q => by have := hn a ha; have := (own_at h.od q).2.2; omega, h1.sod⟩
theorem SU.init {w w1 : World} {R : List (List Int)} {f : Nat → Value} {v : Value} {L : List Nat} (hz : w.heap.size ≤ w1.heap.size) (hT : TB w1 w.heap.size w1.heap.size R f) (hL : LS w1 w.heap.size w1.heap.size f v L) (hA : Apt R f v) :
    SU ((w1.alloc (.cells #[] 28)).alloc (.cells #[] 2)) w.heap.size R f v L (.slice (some ⟨w1.heap.size, 0, none⟩) 0 0) [] (.slice (some ⟨w1.heap.size + 1, 0, none⟩) 0 0) [] := by
  have z : (w1.alloc (.cells #[] 28)).heap.size = w1.heap.size + 1 := by simp
  have b1 := ballocw w1 (.cells #[] 28)
  have b2 := ballocw (w1.alloc (.cells #[] 28)) (.cells #[] 2)
  have b12 := bthen b1 b2
  have o1 : Own (w1.alloc (.cells #[] 28)) w1.heap.size (w1.alloc (.cells #[] 28)).heap.size 28 1 (.slice (some ⟨w1.heap.size, 0, none⟩) 0 0) 0 [] := Own.of (World.ownsRow_lit (base := w1.heap.size) (e := 28) (size := 1) w1 #[] 0 (Nat.le_refl _) (by simp [maxLen]) rfl)
  have o2 := OwnI.emp (w1.alloc (.cells #[] 28)) 2
  rw [z] at o2
  have e1 : Eqv w.heap.size w1.heap.size w1 ((w1.alloc (.cells #[] 28)).alloc (.cells #[] 2)) := Eqv.of b12 (Nat.le_refl _)
  exact ⟨⟨fun k hk => ((hT.row k hk).eqv e1).wide (Nat.le_refl _) b12.size, hT.apart⟩, (Own.eqv hL e1).wide (Nat.le_refl _) b12.size, (o1.eqv (Eqv.of b2 (Nat.le_refl _))).wide hz b2.size, o2.wide (by omega) (Nat.le_refl _), hA,
    fun k a b hk ha hb => by
      simp only [Value.ownBlock, Option.some.injEq] at ha
      have := (hT.lt hk hb).2.2; omega,
    fun k a b hk ha hb => by
      simp only [Value.ownBlock, Option.some.injEq] at ha
      have := (hT.lt hk hb).2.2; omega,
    fun a ha q => by
      simp only [Value.ownBlock, Option.some.injEq] at q
      have := (own_at hL ha).2.2; omega,
    fun a ha q => by
      simp only [Value.ownBlock, Option.some.injEq] at q
      have := (own_at hL ha).2.2; omega,
    fun a ha q => by
      simp only [Value.ownBlock, Option.some.injEq] at ha q
      omega⟩
theorem LS.rd0 {w : World} {lo hi : Nat} {f : Nat → Value} {v : Value} {L : List Nat} (h : LS w lo hi f v L) (hn : 0 < L.length) : ∃ g c, v = .slice (some ⟨g, 0, none⟩) L.length c ∧ L.length ≤ c ∧ c ≤ 9223372036854775807 ∧ ∀ j, j < L.length → w.cell? ⟨g, j, none⟩ = some (f (L.getD j 0)) := by
  obtain ⟨A, c, rfl, h1, h2, h3⟩ := Own.shape h
  rcases h3 with ⟨_, h0⟩ | ⟨g, rfl, _, _, hc, _⟩
  · omega
  · refine ⟨g, c, rfl, h1, h2, fun k hk => ?_⟩
    have := hc k (f (L.getD k 0)) (by rw [List.getElem?_map, List.getElem?_eq_getElem hk]; simp [List.getD_eq_getElem?_getD, List.getElem?_eq_getElem hk])
    simpa using this
theorem LS.cellAt {w : World} {lo hi g n c k : Nat} {f : Nat → Value} {L : List Nat} (h : LS w lo hi f (.slice (some ⟨g, 0, none⟩) n c) L) (hk : k < L.length) : w.cell? ⟨g, k, none⟩ = some (f (L.getD k 0)) := by
  obtain ⟨g', c', e, _, _, hc⟩ := h.rd0 (by omega)
  cases e; exact hc k hk
theorem TB.rowAt {w : World} {lo hi x n c : Nat} {R : List (List Int)} {f : Nat → Value} {A : Option Addr} (h : TB w lo hi R f) (hx : x < R.length) (e : f x = .slice A n c) : RdI w A (rw_ R x) := by
  obtain ⟨A', c', e', _, hr⟩ := h.shp hx
  rw [e] at e'; cases e'; exact hr
theorem own_emp (w : World) (t : TypeId) : Own (w.alloc (.cells #[] t)) w.heap.size (w.alloc (.cells #[] t)).heap.size t 1 (.slice (some ⟨w.heap.size, 0, none⟩) 0 0) 0 [] := Own.of (World.ownsRow_lit (base := w.heap.size) (e := t) (size := 1) w #[] 0 (Nat.le_refl _) (by simp [maxLen]) rfl)
theorem slices_one {R : List (List Int)} {f : Nat → Value} {w : World} {lo hi : Nat} (h : TB w lo hi R f) {M : List Nat} (hM : ∀ x ∈ M, x < R.length) : ∀ u ∈ M.map f, u.oneCell' = true := fun u hu => by
  obtain ⟨x, hx, rfl⟩ := List.mem_map.1 hu
  obtain ⟨A, c, e, _, _⟩ := h.shp (hM x hx)
  rw [e]; rfl
theorem LS.erase {w : World} {lo hi k : Nat} {f : Nat → Value} {v : Value} {L : List Nat} (hk : k < L.length) (h : Own w lo hi 28 1 v (0 + k + (L.length - (k + 1))) ([] ++ ((L.drop 0).take k).map f ++ ((L.drop (k + 1)).take (L.length - (k + 1))).map f)) : LS w lo hi f v (L.eraseIdx k) := by
  unfold LS
  have e1 : (L.eraseIdx k).length = 0 + k + (L.length - (k + 1)) := by rw [List.length_eraseIdx, if_pos hk]; omega
  have e2 : (L.eraseIdx k).map f = [] ++ ((L.drop 0).take k).map f ++ ((L.drop (k + 1)).take (L.length - (k + 1))).map f := by
    rw [List.eraseIdx_eq_take_drop_succ, List.map_append, List.drop_zero, List.nil_append, List.take_of_length_le (l := L.drop (k + 1)) (by rw [List.length_drop]; exact Nat.le_refl _)]
  rw [e1, e2]; exact h
theorem LS.erase0 {w : World} {lo hi k : Nat} {f : Nat → Value} {v : Value} {L : List Nat} (hk : k < L.length) (hz : L.length - (k + 1) = 0) (h : Own w lo hi 28 1 v (0 + k) ([] ++ ((L.drop 0).take k).map f)) : LS w lo hi f v (L.eraseIdx k) :=
  LS.erase hk (by rw [hz]; simpa using h)
theorem LS.cells {w : World} {g d m : Nat} {f : Nat → Value} {L : List Nat} (h : ∀ j, j < L.length → w.cell? ⟨g, j, none⟩ = some (f (L.getD j 0))) : ∀ j u, (((L.drop d).take m).map f)[j]? = some u → ∃ ad, (some ⟨g, d, none⟩ : Option Addr) = some ad ∧ w.cell? (ad.add j) = some u := fun j u hu => by
  rw [List.getElem?_map] at hu
  obtain ⟨x, hx, rfl⟩ := Option.map_eq_some_iff.1 hu
  rw [List.getElem?_take] at hx
  split at hx
  · rw [List.getElem?_drop] at hx
    have hlt := (List.getElem?_eq_some_iff.1 hx).1
    refine ⟨_, rfl, ?_⟩
    have := h (d + j) hlt
    rw [List.getD_eq_getElem?_getD, hx] at this
    have e : w.cell? ⟨g, d + j, none⟩ = some (f x) := this
    rw [← e]
    congr 1
    unfold Addr.add; split
    · rename_i q; subst q; rfl
    · rfl
  · cases hx
set_option maxRecDepth 100000 in
set_option maxHeartbeats 4000000 in
theorem s_l07Units (w : World) (P : Nat) (A : Option Addr) (c : Nat) (cs : List SmV) (R : List (List Int)) (hRL : R.length ≤ 65536) (hR : RdC w A cs) (hU : Hid (∀ k, k < R.length → InU cs (rw_ R k) ∧ (rw_ R k).length ≤ 16 ∧ 1 ≤ (rw_ R k).length))
    (CA : Hid (Calls Tryz.prog 126 #[.slice A cs.length c, .pointer (some ⟨P, 0, none⟩)] w fun e w' => ∃ v, e = .returned v ∧ OR w' w.heap.size w'.heap.size v R ∧ Below w.heap.size w w')) :
    Calls Tryz.prog 80 #[.slice A cs.length c, .pointer (some ⟨P, 0, none⟩)] w (RetRU w ((m_units cs R).1.map (rw_ R)) (m_units cs R).2) := by
  have HR := hid hR
  have HRL := hid hRL
  clear hR hRL
  go_enter Tryz.func80, Tryz.ntmps80
  go_wp2_with (go_at_call 126; go_loud (refine CA.out.mono ?_; rintro e w1 ⟨v1, rfl, ho1, hb1⟩; have HO1 := hid ho1; have HB1 := hid hb1; clear ho1 hb1))
  obtain ⟨f, hL, hT, hA⟩ := HO1.out.parts
  have HSI := hid (SU.init HB1.out.size hT hL hA)
  have HBI := hid (bthen HB1.out (bthen (ballocw w1 (.cells #[] 28)) (ballocw (w1.alloc (.cells #[] 28)) (.cells #[] 2))))
  have HUN : Hid (m_units cs R = unS cs R (List.range R.length).length (List.range R.length) [] []) := hid (by unfold m_units; rw [List.length_range])
  have HL0 : Hid ((List.range R.length).length ≤ R.length ∧ (∀ x ∈ List.range R.length, x < R.length) ∧ (List.range R.length).Nodup) := hid ⟨by rw [List.length_range]; exact Nat.le_refl _, fun x hx => List.mem_range.1 hx, List.nodup_range⟩
  clear CA HO1 HB1 hL hT hA
  generalize List.range R.length = L0 at *
  go_loopg [6, 7, 8] R.length (fun gg s6 s7 s8 wr => ∃ (L O : List Nat) (D : List Int), L.length ≤ gg ∧ Aside (SU wr w.heap.size R f s6 L s7 O s8 D) ∧ Aside (∀ x ∈ D, 0 ≤ x ∧ x < 16) ∧ Aside (Below w.heap.size w wr) ∧ Aside ((∀ x ∈ L, x < R.length) ∧ (∀ x ∈ O, x < R.length) ∧ (O ++ L).Nodup ∧ O.length + L.length ≤ R.length ∧ D.length ≤ O.length * 16) ∧ Aside (m_units cs R = unS cs R L.length L D O))
  case atStart => exact ⟨L0, [], [], HL0.out.1, HSI.out, fun x hx => absurd hx (by simp), HBI.out, ⟨HL0.out.2.1, fun x hx => absurd hx (by simp), HL0.out.2.2, by simpa using HL0.out.1, by simp⟩, HUN.out⟩
  case round =>
    obtain ⟨L, O, D, hg, SW, HDs, BW, MW, IX⟩ := hrel
    obtain ⟨wm, rfl⟩ : ∃ wm : World, wm = wr := ⟨_, rfl⟩
    clear HSI HBI HUN HL0
    by_cases hLn : L = []
    · subst hLn
      obtain ⟨A6, c6, rfl, _, _, _⟩ := SW.out.ll.rd
      have IX' : Hid (m_units cs R = (O, true)) := hid IX.out
      have HOR : Hid (OR wm w.heap.size wm.heap.size u7 (O.map (rw_ R))) := hid (SW.out.tb.rows SW.out.lq SW.out.ao MW.out.2.1 (by have := MW.out.2.2.1; rwa [List.append_nil] at this))
      clear IX SW hU
      go_wp2
      go_ret2
      exact ⟨_, by rw [IX'.out]; rfl, by rw [IX'.out]; exact HOR.out, BW.out⟩
    · have hlp : 0 < L.length := List.length_pos_iff.2 hLn
      have hlz : (0 : Int) < (L.length : Int) := by omega
      obtain ⟨g, c6, rfl, hc1, hc2, hcl0⟩ := SW.out.ll.rd0 hlp
      obtain ⟨Ad, cd, rfl, _, _, _⟩ := Own.int SW.out.od
      have HLG := hid hg
      have HLP := hid hlp
      have HC1 := hid hc1
      have HC2 := hid hc2
      have hlb : (L.length : Int) ≤ 1048576 := by have := MW.out.2.2.2.1; have := HRL.out; omega
      clear hLn hg hcl0 hc1 hc2
      go_wp2
      go_loopg [9, 10, 11] L.length (fun gg s9 s10 s11 wr => ∃ i : Nat, i ≤ L.length ∧ L.length - i ≤ gg ∧ s11 = .int .i64 i ∧ s9 = .int .i64 (bstN (fun k => rdyB cs D (rw_ R (L.getD k 0))) (fun k => Lib.minOf (rw_ R (L.getD k 0))) i).1 ∧ s10 = .int .i64 (bstN (fun k => rdyB cs D (rw_ R (L.getD k 0))) (fun k => Lib.minOf (rw_ R (L.getD k 0))) i).2 ∧ Aside (Below wm.heap.size wm wr))
      case atStart => exact ⟨0, Nat.zero_le _, by omega, rfl, rfl, rfl, Below.refl _ _⟩
      case round =>
        obtain ⟨i, hi, hgi, rfl, rfl, rfl, BI⟩ := hrel
        obtain ⟨wb, rfl⟩ : ∃ wb : World, wb = wr := ⟨_, rfl⟩
        have HSB := hid (SW.out.below BI.out)
        by_cases hil : i < L.length
        · have hiz : (i : Int) < (L.length : Int) := by omega
          obtain ⟨g', c', e', _, _, hcl⟩ := HSB.out.ll.rd0 HLP.out
          cases e'
          have hki := hcl i hil
          have hx := MW.out.1 _ (getD_mem' hil)
          have hbn : bstN (fun k => rdyB cs D (rw_ R (L.getD k 0))) (fun k => Lib.minOf (rw_ R (L.getD k 0))) (i + 1) = if (decide ((bstN (fun k => rdyB cs D (rw_ R (L.getD k 0))) (fun k => Lib.minOf (rw_ R (L.getD k 0))) i).1 < 0) || decide (Lib.minOf (rw_ R (L.getD i 0)) < (bstN (fun k => rdyB cs D (rw_ R (L.getD k 0))) (fun k => Lib.minOf (rw_ R (L.getD k 0))) i).2)) && rdyB cs D (rw_ R (L.getD i 0)) then ((i : Int), Lib.minOf (rw_ R (L.getD i 0))) else bstN (fun k => rdyB cs D (rw_ R (L.getD k 0))) (fun k => Lib.minOf (rw_ R (L.getD k 0))) i := rfl
          generalize hp : (fun k => rdyB cs D (rw_ R (L.getD k 0))) = p at *
          generalize hm : (fun k => Lib.minOf (rw_ R (L.getD k 0))) = m at *
          have HPP := hid hp
          have HMM := hid hm
          clear hp hm
          generalize L.getD i 0 = x at *
          obtain ⟨Au, cu, eu, _, hru⟩ := HSB.out.tb.shp hx
          rw [eu] at hki
          obtain ⟨hUx, hul, hu1⟩ := hU.out x hx
          have CE := hid (s_l07Ends wb Au cu (rw_ R x) (by omega) hu1 hru)
          obtain ⟨_, _, ed, _, _, hrd⟩ := Own.int HSB.out.od
          cases ed
          have CR := hid (s_l07Ready wb A Au Ad c cu cd cs (rw_ R x) D hUx (by omega) (by have := MW.out.2.2.2; have := HRL.out; omega) (HR.out.below (BW.out.trans (BI.out.mono BW.out.size))) hru hrd)
          have HBN := hid hbn
          have HIL := hid hil
          have HIG := hid hgi
          clear hbn hcl hx eu hru hUx hul hu1 hrd hil hgi hi
          generalize rw_ R x = u at *
          generalize Lib.minOf u = mn at *
          generalize Lib.maxOf u = mx at *
          generalize rdyB cs D u = rr at *
          generalize hb0 : bstN p m i = bb at *
          clear hb0
          obtain ⟨bI, lI⟩ := bb
          simp only at HBN ⊢
          by_cases hb : bI < 0
          · cases rr with
            | true =>
              have HN : Hid (bstN p m (i + 1) = ((i : Int), mn)) := hid (by rw [HBN.out]; simp [hb])
              clear HBN
              go_wp2_with (first
                | (go_at_call 124; go_loud (refine CE.out.mono ?_; rintro e w2 ⟨rfl, rfl⟩))
                | (go_at_call 127; go_loud (refine CR.out.mono ?_; rintro e w3 ⟨rfl, hb3⟩; have HB3 := hid (bthen BI.out hb3); clear hb3)))
              go_roundg (L.length - (i + 1))
              case measure => have := HIL.out; have := HIG.out; go_light; omega
              case rel => exact ⟨i + 1, HIL.out, Nat.le_refl _, by have := HIL.out; go_num, by rw [HN.out], by rw [HN.out], HB3.out⟩
            | false =>
              have HN : Hid (bstN p m (i + 1) = (bI, lI)) := hid (by rw [HBN.out]; simp)
              clear HBN
              go_wp2_with (first
                | (go_at_call 124; go_loud (refine CE.out.mono ?_; rintro e w2 ⟨rfl, rfl⟩))
                | (go_at_call 127; go_loud (refine CR.out.mono ?_; rintro e w3 ⟨rfl, hb3⟩; have HB3 := hid (bthen BI.out hb3); clear hb3)))
              go_roundg (L.length - (i + 1))
              case measure => have := HIL.out; have := HIG.out; go_light; omega
              case rel => exact ⟨i + 1, HIL.out, Nat.le_refl _, by have := HIL.out; go_num, by rw [HN.out], by rw [HN.out], HB3.out⟩
          · by_cases hl : mn < lI
            · cases rr with
              | true =>
                have HN : Hid (bstN p m (i + 1) = ((i : Int), mn)) := hid (by rw [HBN.out]; simp [hl])
                clear HBN
                go_wp2_with (first
                  | (go_at_call 124; go_loud (refine CE.out.mono ?_; rintro e w2 ⟨rfl, rfl⟩))
                  | (go_at_call 127; go_loud (refine CR.out.mono ?_; rintro e w3 ⟨rfl, hb3⟩; have HB3 := hid (bthen BI.out hb3); clear hb3)))
                go_roundg (L.length - (i + 1))
                case measure => have := HIL.out; have := HIG.out; go_light; omega
                case rel => exact ⟨i + 1, HIL.out, Nat.le_refl _, by have := HIL.out; go_num, by rw [HN.out], by rw [HN.out], HB3.out⟩
              | false =>
                have HN : Hid (bstN p m (i + 1) = (bI, lI)) := hid (by rw [HBN.out]; simp)
                clear HBN
                go_wp2_with (first
                  | (go_at_call 124; go_loud (refine CE.out.mono ?_; rintro e w2 ⟨rfl, rfl⟩))
                  | (go_at_call 127; go_loud (refine CR.out.mono ?_; rintro e w3 ⟨rfl, hb3⟩; have HB3 := hid (bthen BI.out hb3); clear hb3)))
                go_roundg (L.length - (i + 1))
                case measure => have := HIL.out; have := HIG.out; go_light; omega
                case rel => exact ⟨i + 1, HIL.out, Nat.le_refl _, by have := HIL.out; go_num, by rw [HN.out], by rw [HN.out], HB3.out⟩
            · have HN : Hid (bstN p m (i + 1) = (bI, lI)) := hid (by rw [HBN.out]; simp [hb, hl])
              clear HBN CR
              go_wp2_with (go_at_call 124; go_loud (refine CE.out.mono ?_; rintro e w2 ⟨rfl, rfl⟩))
              go_roundg (L.length - (i + 1))
              case measure => have := HIL.out; have := HIG.out; go_light; omega
              case rel => exact ⟨i + 1, HIL.out, Nat.le_refl _, by have := HIL.out; go_num, by rw [HN.out], by rw [HN.out], BI.out⟩
        · obtain rfl : i = L.length := by omega
          have hiz : ¬ (L.length : Int) < (L.length : Int) := by omega
          have e9 : bstN (fun k => rdyB cs D (rw_ R (L.getD k 0))) (fun k => Lib.minOf (rw_ R (L.getD k 0))) L.length = nxS cs R D L := rfl
          rw [e9]
          clear e9
          rcases nxS_cases cs R D L with hn | ⟨k, hk, hn⟩
          · have HX : Hid (m_units cs R = ([], false)) := hid (IX.out.trans (unS_fail HLP.out (by rw [hn]; decide)))
            rw [hn]
            clear IX hn hU SW
            go_wp2
            go_ret2
            exact ⟨_, by rw [HX.out]; rfl, by rw [HX.out]; exact OR.nil _ _ _, bthen BW.out BI.out⟩
          · have HST := hid (IX.out.trans (unS_step hk hn))
            rw [hn]
            have hx := MW.out.1 _ (getD_mem' hk)
            have HND := hid (nodup_move hk MW.out.2.2.1)
            have HKL := hid hk
            have HX := hid hx
            have HBB := hid (bthen BW.out BI.out)
            have HLO := hid HBB.out.size
            generalize hxd : L.getD k 0 = x at *
            have HXD := hid hxd
            obtain ⟨Au, cu, eu, hcl, hru⟩ := HSB.out.tb.shp hx
            have HEU := hid eu
            have HUx := hid (hU.out x hx)
            have kcb : wb.cell? ⟨g, k, none⟩ = some (.slice Au (rw_ R x).length cu) := by rw [HSB.out.ll.cellAt hk, hxd, eu]
            have hkz : (k : Int) < (L.length : Int) := by omega
            have hkz1 : (k : Int) + 1 ≤ (L.length : Int) := by omega
            have hkc : (k : Int) ≤ (c6 : Int) := by have := HC1.out; omega
            have hkc1 : (k : Int) + 1 ≤ (c6 : Int) := by have := HC1.out; omega
            have HBx := hid (ballocw wb (.cells #[.slice Au (rw_ R x).length cu] 28))
            have HULE : Hid ((rw_ R x).length ≤ 16) := hid HUx.out.2.1
            have N1 := hid (show O.length + 1 ≤ 9223372036854775807 by have := MW.out.2.2.2.1; have := HRL.out; omega)
            have N2 := hid (show (O.length + 1) * 24 ≤ 140737488355328 by have := MW.out.2.2.2.1; have := HRL.out; omega)
            have N3 := hid (show D.length + (rw_ R x).length ≤ 9223372036854775807 by have := MW.out.2.2.2; have := HRL.out; have := HULE.out; omega)
            have N4 := hid (show (D.length + (rw_ R x).length) * 8 ≤ 140737488355328 by have := MW.out.2.2.2; have := HRL.out; have := HULE.out; omega)
            have N5 := hid (show 0 + k ≤ 9223372036854775807 by have := MW.out.2.2.2.1; have := HRL.out; omega)
            have N6 := hid (show (0 + k) * 24 ≤ 140737488355328 by have := MW.out.2.2.2.1; have := HRL.out; omega)
            have N7 := hid (show 0 + k + (L.length - (k + 1)) ≤ 9223372036854775807 by have := MW.out.2.2.2.1; have := HRL.out; omega)
            have N8 := hid (show (0 + k + (L.length - (k + 1))) * 24 ≤ 140737488355328 by have := MW.out.2.2.2.1; have := HRL.out; omega)
            have HTM := hid (fun y (hy : y ∈ (L.drop 0).take k) => MW.out.1 y (List.mem_of_mem_take hy |> fun z => by simpa using z))
            have HDM := hid (fun y (hy : y ∈ (L.drop (k + 1)).take (L.length - (k + 1))) => MW.out.1 y (List.mem_of_mem_drop (List.mem_of_mem_take hy)))
            have HTN : Hid ((((L.drop 0).take k).map f).length = k) := hid (by simp; omega)
            have HDN : Hid ((((L.drop (k + 1)).take (L.length - (k + 1))).map f).length = L.length - (k + 1)) := hid (by simp)
            clear hn IX SW hx hxd eu hcl hru hk
            generalize hu : rw_ R x = u at *
            have HUU := hid hu
            clear hu
            by_cases hce : c6 = k + 1
            · have HLK : Hid (L.length - (k + 1) = 0) := hid (by have := HC1.out; omega)
              have hsub := HLK.out
              subst hce
              go_wp2_with (first
                | (at_builtin; go_loud (refine wp_appendG w.heap.size rfl _ _ 27 28 (.slice none 0 0) 24 rfl Tryz.underlying27 infoRow rfl u7 O.length (O.map f) (some ⟨wb.heap.size, 0, none⟩) 1 1 [.slice Au u.length cu] rfl rfl rfl (HSB.out.below HBx.out).lq cells1 (by intro z hz; simp at hz; subst hz; rfl) (Nat.le_trans HLO.out HBx.out.size) N1.out N2.out ?_; intro v3 w3 hown3 hg3 hblk3; rw [← HEU.out] at hown3; have HS3 := hid ((HSB.out.below HBx.out).appO hown3 hg3 hblk3); have HB3 := hid ((bthen HBB.out HBx.out).trans (below_grown hg3 (Nat.le_trans HLO.out HBx.out.size) (fun a ha => (own_at HSB.out.lq ha).1))); have kc3 := (HS3.out.ll.cellAt HKL.out).trans (congrArg some ((congrArg f HXD.out).trans HEU.out)); have HL3 := hid HB3.out.size; have HR3 := hid (HS3.out.tb.rowAt HX.out HEU.out); rw [HUU.out] at HR3; clear hown3 hg3 hblk3))
                | (at_builtin; go_loud (refine wp_appendG w.heap.size rfl _ _ 28 2 (.int .i64 0) 8 rfl Tryz.underlying28 infoInt rfl (.slice Ad D.length cd) D.length (ints D) Au u.length cu (ints u) (ints_length u) rfl rfl HS3.out.od (cellsI HR3.out) (by intro z hz; simp [ints] at hz; obtain ⟨q, _, rfl⟩ := hz; rfl) HL3.out N3.out N4.out ?_; intro v4 w4 hown4 hg4 hblk4; have HS4 := hid (HS3.out.appD hown4 hg4 hblk4); have HB4 := hid (HB3.out.trans (below_grown hg4 HL3.out (fun a ha => (own_at HS3.out.od ha).1))); clear hown4 hg4 hblk4))
                | (at_builtin; go_loud (refine wp_appendG w4.heap.size rfl _ _ 27 28 (.slice none 0 0) 24 rfl Tryz.underlying27 infoRow rfl (.slice (some ⟨w4.heap.size, 0, none⟩) 0 0) 0 [] (some ⟨g, 0, none⟩) k (k + 1) (((L.drop 0).take k).map f) HTN.out rfl rfl (own_emp w4 _) (LS.cells (fun j hj => (HS4.out.below (ballocw w4 (.cells #[] 28))).ll.cellAt hj)) (slices_one HS4.out.tb HTM.out) (ballocw w4 _).size N5.out N6.out ?_; intro v5 w5 hown5 hg5 hblk5; have HO5 := hid hown5; have HB5 := hid ((ballocw w4 (.cells #[] 28)).trans (below_grown (B := w4.heap.size) hg5 (ballocw w4 _).size (fun a ha => by cases ha; exact Nat.le_refl _))); have HS5 := hid (HS4.out.below HB5.out); clear hown5 hg5 hblk5))
                | (at_builtin; go_loud (refine wp_appendG w4.heap.size rfl _ _ 27 28 (.slice none 0 0) 24 rfl Tryz.underlying27 infoRow rfl v5 (0 + k) ([] ++ ((L.drop 0).take k).map f) (some ⟨g, 0, none⟩) 0 0 [] rfl rfl rfl HO5.out (by intro j z hz; cases hz) (by intro z hz; cases hz) HB5.out.size N5.out N6.out ?_; intro v6 w6 hown6 hg6 hblk6; have HL6 := hid (LS.erase0 HKL.out HLK.out (by simpa using hown6)); have HB6 := hid (HB5.out.trans (below_grown hg6 HB5.out.size (fun a ha => (own_at HO5.out ha).1))); clear hown6 hg6 hblk6)))
              have HS6 := hid (HS4.out.newL HB4.out.size HB6.out HL6.out)
              have HLE : Hid ((L.eraseIdx k).length + 1 = L.length) := hid (by rw [List.length_eraseIdx, if_pos HKL.out]; have := HKL.out; omega)
              have HBF := hid (HB4.out.trans (HB6.out.mono HB4.out.size))
              go_roundg (L.eraseIdx k).length
              case measure => have := HLG.out; have := HLE.out; go_light; omega
              case rel =>
                refine ⟨L.eraseIdx k, O ++ [x], D ++ u, Nat.le_refl _, HS6.out, small_app HDs.out HUx.out.1.small, HBF.out, ⟨fun y hy => MW.out.1 y (List.mem_of_mem_eraseIdx hy), fun y hy => ?_, HND.out, by have := HLE.out; have := MW.out.2.2.2.1; simp; omega, by have := HULE.out; have := MW.out.2.2.2.2; simp; omega⟩, HST.out⟩
                rcases List.mem_append.1 hy with q | q
                · exact MW.out.2.1 y q
                · rw [List.mem_singleton.1 q]; exact HX.out
            · have hce' : ¬ ((c6 : Int) = (k : Int) + 1) := by omega
              go_wp2_with (first
                | (at_builtin; go_loud (refine wp_appendG w.heap.size rfl _ _ 27 28 (.slice none 0 0) 24 rfl Tryz.underlying27 infoRow rfl u7 O.length (O.map f) (some ⟨wb.heap.size, 0, none⟩) 1 1 [.slice Au u.length cu] rfl rfl rfl (HSB.out.below HBx.out).lq cells1 (by intro z hz; simp at hz; subst hz; rfl) (Nat.le_trans HLO.out HBx.out.size) N1.out N2.out ?_; intro v3 w3 hown3 hg3 hblk3; rw [← HEU.out] at hown3; have HS3 := hid ((HSB.out.below HBx.out).appO hown3 hg3 hblk3); have HB3 := hid ((bthen HBB.out HBx.out).trans (below_grown hg3 (Nat.le_trans HLO.out HBx.out.size) (fun a ha => (own_at HSB.out.lq ha).1))); have kc3 := (HS3.out.ll.cellAt HKL.out).trans (congrArg some ((congrArg f HXD.out).trans HEU.out)); have HL3 := hid HB3.out.size; have HR3 := hid (HS3.out.tb.rowAt HX.out HEU.out); rw [HUU.out] at HR3; clear hown3 hg3 hblk3))
                | (at_builtin; go_loud (refine wp_appendG w.heap.size rfl _ _ 28 2 (.int .i64 0) 8 rfl Tryz.underlying28 infoInt rfl (.slice Ad D.length cd) D.length (ints D) Au u.length cu (ints u) (ints_length u) rfl rfl HS3.out.od (cellsI HR3.out) (by intro z hz; simp [ints] at hz; obtain ⟨q, _, rfl⟩ := hz; rfl) HL3.out N3.out N4.out ?_; intro v4 w4 hown4 hg4 hblk4; have HS4 := hid (HS3.out.appD hown4 hg4 hblk4); have HB4 := hid (HB3.out.trans (below_grown hg4 HL3.out (fun a ha => (own_at HS3.out.od ha).1))); clear hown4 hg4 hblk4))
                | (at_builtin; go_loud (refine wp_appendG w4.heap.size rfl _ _ 27 28 (.slice none 0 0) 24 rfl Tryz.underlying27 infoRow rfl (.slice (some ⟨w4.heap.size, 0, none⟩) 0 0) 0 [] (some ⟨g, 0, none⟩) k c6 (((L.drop 0).take k).map f) HTN.out rfl rfl (own_emp w4 _) (LS.cells (fun j hj => (HS4.out.below (ballocw w4 (.cells #[] 28))).ll.cellAt hj)) (slices_one HS4.out.tb HTM.out) (ballocw w4 _).size N5.out N6.out ?_; intro v5 w5 hown5 hg5 hblk5; have HO5 := hid hown5; have HB5 := hid ((ballocw w4 (.cells #[] 28)).trans (below_grown (B := w4.heap.size) hg5 (ballocw w4 _).size (fun a ha => by cases ha; exact Nat.le_refl _))); have HS5 := hid (HS4.out.below HB5.out); clear hown5 hg5 hblk5))
                | (at_builtin; go_loud (refine wp_appendG w4.heap.size rfl _ _ 27 28 (.slice none 0 0) 24 rfl Tryz.underlying27 infoRow rfl v5 (0 + k) ([] ++ ((L.drop 0).take k).map f) (some ⟨g, k + 1, none⟩) (L.length - (k + 1)) (c6 - (k + 1)) (((L.drop (k + 1)).take (L.length - (k + 1))).map f) HDN.out rfl rfl HO5.out (LS.cells (fun j hj => HS5.out.ll.cellAt hj)) (slices_one HS5.out.tb HDM.out) HB5.out.size N7.out N8.out ?_; intro v6 w6 hown6 hg6 hblk6; have HL6 := hid (LS.erase HKL.out hown6); have HB6 := hid (HB5.out.trans (below_grown hg6 HB5.out.size (fun a ha => (own_at HO5.out ha).1))); clear hown6 hg6 hblk6)))
              have HS6 := hid (HS4.out.newL HB4.out.size HB6.out HL6.out)
              have HLE : Hid ((L.eraseIdx k).length + 1 = L.length) := hid (by rw [List.length_eraseIdx, if_pos HKL.out]; have := HKL.out; omega)
              have HBF := hid (HB4.out.trans (HB6.out.mono HB4.out.size))
              go_roundg (L.eraseIdx k).length
              case measure => have := HLG.out; have := HLE.out; go_light; omega
              case rel =>
                refine ⟨L.eraseIdx k, O ++ [x], D ++ u, Nat.le_refl _, HS6.out, small_app HDs.out HUx.out.1.small, HBF.out, ⟨fun y hy => MW.out.1 y (List.mem_of_mem_eraseIdx hy), fun y hy => ?_, HND.out, by have := HLE.out; have := MW.out.2.2.2.1; simp; omega, by have := HULE.out; have := MW.out.2.2.2.2; simp; omega⟩, HST.out⟩
                rcases List.mem_append.1 hy with q | q
                · exact MW.out.2.1 y q
                · rw [List.mem_singleton.1 q]; exact HX.out
end Go.Proofs.YtmpdaafkphpnoaaGreat
set_option linter.unusedVariables false
set_option linter.unusedSimpArgs false
namespace Go.Proofs.YtmpdaafkphpnoaaGreat
open Go.RowKit

/-! ### What a form's groups give the units -/
theorem nodup_len : ∀ (n : Nat) (l : List Int), l.Nodup → (∀ x ∈ l, 0 ≤ x ∧ x < n) → l.length ≤ n := by
  intro n
  induction n with
  | zero =>
    intro l _ h
    cases l with
    | nil => simp
    | cons x r => have := h x (by simp); omega
  | succ n ih =>
    intro l hn h
    by_cases hm : (n : Int) ∈ l
    · have h1 := ih (l.erase n) (hn.erase _) (fun x hx => by
        have := (hn.mem_erase_iff).1 hx
        have := h x this.2
        have := ‹x ≠ (n : Int) ∧ x ∈ l›.1
        omega)
      rw [List.length_erase_of_mem hm] at h1
      omega
    · have := ih l hn (fun x hx => by
        have := h x hx
        have : x ≠ n := fun q => hm (q ▸ hx)
        omega)
      omega
theorem seqB_nodup : ∀ (g S : List Int), seqB S g = true → S.Nodup → (S ++ g).Nodup := by
  intro g
  induction g with
  | nil => intro S _ h; rwa [List.append_nil]
  | cons x r ih =>
    intro S h hS
    simp only [seqB, Bool.and_eq_true, Bool.not_eq_true'] at h
    have hx : x ∉ S := fun q => by
      have := hasB_iff.2 q
      rw [h.1] at this; cases this
    have := ih (S ++ [x]) h.2 (by
      rw [List.nodup_append]
      exact ⟨hS, by simp, fun a ha b hb => by rw [List.mem_singleton.1 hb]; exact fun q => hx (q ▸ ha)⟩)
    rwa [List.append_assoc] at this
theorem formG_facts {gB : List Int → Bool} : ∀ (gs : List (List Int)) (l : Int) (S : List Int), formG gB l S gs = true → S.Nodup → (S ++ gs.flatten).Nodup ∧ ∀ g ∈ gs, gB g = true := by
  intro gs
  induction gs with
  | nil => intro l S _ hS; exact ⟨by simpa using hS, fun g hg => by cases hg⟩
  | cons g r ih =>
    intro l S h hS
    simp only [formG, Bool.and_eq_true] at h
    obtain ⟨h1, _, h3, h4⟩ := h
    obtain ⟨h5, h6⟩ := ih _ _ h4 (seqB_nodup g S h3 hS)
    refine ⟨by rw [List.flatten_cons, ← List.append_assoc]; exact h5, fun x hx => ?_⟩
    rcases List.mem_cons.1 hx with rfl | hx
    · exact h1
    · exact h6 x hx
theorem snG_mem (gs : List (List Int)) (n : Nat) : ∀ r ∈ snG gs n, ∃ i : Nat, i < n ∧ r = [(i : Int)] ∧ inG gs i = false := by
  induction n with
  | zero => intro r hr; cases hr
  | succ n ih =>
    intro r hr
    simp only [snG] at hr
    split at hr
    · obtain ⟨i, hi, h⟩ := ih r hr; exact ⟨i, by omega, h⟩
    · rename_i hq
      rcases List.mem_append.1 hr with hr | hr
      · obtain ⟨i, hi, h⟩ := ih r hr; exact ⟨i, by omega, h⟩
      · exact ⟨n, by omega, List.mem_singleton.1 hr, by simpa using hq⟩
theorem snG_nodup (gs : List (List Int)) (n : Nat) : (snG gs n).flatten.Nodup := by
  induction n with
  | zero => simp [snG]
  | succ n ih =>
    simp only [snG]
    split
    · exact ih
    · rw [List.flatten_append, List.nodup_append]
      refine ⟨ih, by simp, fun a ha b hb => ?_⟩
      simp at hb
      obtain ⟨r, hr, har⟩ := List.mem_flatten.1 ha
      obtain ⟨i, hi, rfl, _⟩ := snG_mem gs n r hr
      rw [List.mem_singleton.1 har, hb]
      omega
theorem tab_nodup {gs : List (List Int)} (n : Nat) (h : gs.flatten.Nodup) : (tabG gs n).flatten.Nodup := by
  unfold tabG
  rw [List.flatten_append, List.nodup_append]
  refine ⟨h, snG_nodup gs n, fun a ha b hb q => ?_⟩
  obtain ⟨r, hr, hbr⟩ := List.mem_flatten.1 hb
  obtain ⟨i, hi, rfl, hn⟩ := snG_mem gs n r hr
  rw [inG_flat] at hn
  have e := List.mem_singleton.1 hbr
  rw [q, e] at ha
  rw [hasB_iff.2 ha] at hn
  cases hn
theorem rw_apart {R : List (List Int)} (h : R.flatten.Nodup) {i j : Nat} (hij : i < j) (hj : j < R.length) {x : Int} (h1 : x ∈ rw_ R i) (h2 : x ∈ rw_ R j) : False := by
  have e : R.flatten = (R.take (j + 1)).flatten ++ (R.drop (j + 1)).flatten := by rw [← List.flatten_append, List.take_append_drop]
  rw [e, flat_take hj, List.append_assoc, List.nodup_append] at h
  refine h.2.2 x ?_ x (List.mem_append_left _ h2) rfl
  refine List.mem_flatten.2 ⟨rw_ R i, ?_, h1⟩
  unfold rw_
  rw [List.getD_eq_getElem?_getD, List.getElem?_eq_getElem (show i < R.length by omega)]
  exact List.mem_take_iff_getElem.2 ⟨i, by omega, rfl⟩
theorem flat_ge : ∀ (gs : List (List Int)), (∀ g ∈ gs, 1 ≤ g.length) → gs.length ≤ gs.flatten.length := by
  intro gs
  induction gs with
  | nil => intro _; simp
  | cons g r ih =>
    intro h
    have := ih fun x hx => h x (by simp [hx])
    have := h g (by simp)
    simp at *; omega
/-- The units' table is as the walks ask. -/
structure UF (cs : List SmV) (gs : List (List Int)) : Prop where
  hU : ∀ k, k < (tabG gs cs.length).length → InU cs (rw_ (tabG gs cs.length) k) ∧ (rw_ (tabG gs cs.length) k).length ≤ 16 ∧ 1 ≤ (rw_ (tabG gs cs.length) k).length
  len : (tabG gs cs.length).length ≤ 32
  gl : gs.length ≤ 16
  inj : ∀ i j, i < (tabG gs cs.length).length → j < (tabG gs cs.length).length → (Lib.minOf (rw_ (tabG gs cs.length) i)).toNat = (Lib.minOf (rw_ (tabG gs cs.length) j)).toNat → i = j
theorem UF.of {la bi : Int} {cs : List SmV} {gs : List (List Int)} (hp : packB la bi cs = true) (hf : formG (groupB la cs) (-1) [] gs = true) : UF cs gs := by
  have hcs : codeB cs = true := by
    unfold packB at hp
    simp only [Bool.and_eq_true] at hp
    exact hp.2.2
  have h24 : la = 2 ∨ la = 4 := by
    unfold packB at hp
    simp only [Bool.and_eq_true, machB, decide_eq_true_eq] at hp
    have := lanesB_or hp.1.1; omega
  have h16 := codeB_len hcs
  obtain ⟨hn, hg⟩ := formG_facts gs _ _ hf List.nodup_nil
  rw [List.nil_append] at hn
  have hgr : ∀ g ∈ gs, (g.length : Int) = la ∧ ∀ x ∈ g, 0 ≤ x ∧ x < cs.length := fun g hgg => by
    have h := hg g hgg
    unfold groupB at h
    simp only [Bool.and_eq_true, beq_iff_eq] at h
    refine ⟨h.1, fun x hx => ?_⟩
    have h2 := h.2.1
    unfold grpIn at h2
    have := inB_iff.1 (List.all_eq_true.1 h2 x hx)
    omega
  have hfl : gs.flatten.length ≤ 16 := nodup_len 16 _ hn (fun x hx => by
    obtain ⟨g, hg1, hx1⟩ := List.mem_flatten.1 hx
    have := (hgr g hg1).2 x hx1; omega)
  have hgl : gs.length ≤ 16 := Nat.le_trans (flat_ge gs fun g hgg => by have := (hgr g hgg).1; omega) hfl
  have hrow : ∀ r ∈ tabG gs cs.length, (∀ x ∈ r, 0 ≤ x ∧ x < cs.length) ∧ r.length ≤ 16 ∧ 1 ≤ r.length := fun r hr => by
    rcases List.mem_append.1 hr with h | h
    · have := hgr r h
      exact ⟨this.2, by omega, by omega⟩
    · obtain ⟨i, hi, rfl, _⟩ := snG_mem gs _ r h
      exact ⟨fun x hx => by rw [List.mem_singleton.1 hx]; omega, by simp, by simp⟩
  have hnd := tab_nodup cs.length hn
  refine ⟨fun k hk => ⟨⟨h16, (hrow _ (rw_mem hk)).1⟩, (hrow _ (rw_mem hk)).2⟩, ?_, hgl, fun i j hi hj he => ?_⟩
  · have := snG_len gs cs.length
    unfold tabG
    rw [List.length_append]; omega
  · have m1 := (minOf_mem (hrow _ (rw_mem hi)).2.2).1
    have m2 := (minOf_mem (hrow _ (rw_mem hj)).2.2).1
    have p1 := (hrow _ (rw_mem hi)).1 _ m1
    have p2 := (hrow _ (rw_mem hj)).1 _ m2
    have e : Lib.minOf (rw_ (tabG gs cs.length) i) = Lib.minOf (rw_ (tabG gs cs.length) j) := by omega
    rcases Nat.lt_trichotomy i j with q | q | q
    · exact (rw_apart hnd q hj m1 (e ▸ m2)).elim
    · exact q
    · exact (rw_apart hnd q hi m2 (e ▸ m1)).elim
end Go.Proofs.YtmpdaafkphpnoaaGreat
set_option linter.unusedVariables false
set_option linter.unusedSimpArgs false
namespace Go.Proofs.YtmpdaafkphpnoaaGreat
open Go.RowKit

theorem i_units (w : World) (A G : Option Addr) (c c' : Nat) (cs : List SmV) (gs : List (List Int)) (h16 : cs.length ≤ 16) (hF : UF cs gs) (hsz : rsz gs ≤ 1048576) (hR : RdC w A cs) (hG : RdR w G gs) :
    Calls Tryz.prog 85 #[.slice A cs.length c, .agg #[.slice G gs.length c']] w (RetRU w ((m_units cs (tabG gs cs.length)).1.map (rw_ (tabG gs cs.length))) (m_units cs (tabG gs cs.length)).2) := by
  have hgl := rsz_len hsz
  refine i_unitsW w A G c c' cs gs h16 (hid (by have := hF.len; omega)) (hid fun k hk => ⟨(hF.hU k hk).1, by have := (hF.hU k hk).2.1; omega⟩) (by have := hF.gl; omega)
    (hid fun W hW => i_clones W G c' gs hsz (hG.below hW)) (hid fun W b i hW hb => ?_) (hid fun W lo hi v ho => g_SortU0 W lo hi v _ (fun k => (Lib.minOf (rw_ (tabG gs cs.length) k)).toNat) (by have := hF.len; omega) (fun k hk => ?_) hF.inj ho) (hid fun W hW => i_before W A c cs h16 (hR.below hW))
  · obtain ⟨f, hf, hr⟩ := hG.below hW
    have := containsFuncR W G gs.length c' f 133 #[.pointer (some ⟨b, 0, none⟩)] (fun k => hasB (rw_ gs k) i) (by omega) hf (enters_of Tryz.func133 (by kernel_rfl) rfl) (fun W' hW' k hk => by
      obtain ⟨A', cr, e, _, hrr⟩ := hr k hk
      have C := i_units1 W' A' cr b (rw_ gs k) i (rsz_row hsz hk) (bcell hW' hb) (hrr.below hW')
      rw [← e] at C
      refine C.mono fun e w' hq => ?_
      obtain ⟨he, rfl⟩ := hq
      exact ⟨he, Below.refl _ _⟩)
    exact this
  · obtain ⟨h1, h2, h3⟩ := hF.hU k hk
    have hm := (minOf_mem h3).1
    have := h1.small _ hm
    exact ⟨by omega, by omega, h3, by omega⟩
def m_form (la : Int) (cs : List SmV) (gs : List (List Int)) : Bool := formG (groupB la cs) (-1) [] gs
def m_pk (la bi : Int) (cs : List SmV) (gs : List (List Int)) : Bool := packB la bi cs && m_form la cs gs
def m_IsPacking (la bi : Int) (cs : List SmV) (gs : List (List Int)) : Bool := m_pk la bi cs gs && (m_units cs (tabG gs cs.length)).2
def m_UnitsOf (la bi : Int) (cs : List SmV) (gs : List (List Int)) : List (List Int) × Bool := if m_pk la bi cs gs then ((m_units cs (tabG gs cs.length)).1.map (rw_ (tabG gs cs.length)), (m_units cs (tabG gs cs.length)).2) else ([], false)
theorem packB_parts {la bi : Int} {cs : List SmV} (h : packB la bi cs = true) : machB la bi = true ∧ la ≤ 4 ∧ codeB cs = true ∧ cs.length ≤ 16 := by
  unfold packB at h
  simp only [Bool.and_eq_true, decide_eq_true_eq] at h
  exact ⟨h.1, h.2.1, h.2.2, codeB_len h.2.2⟩
theorem grp_small {la bi : Int} {cs : List SmV} {g : List Int} (h : packB la bi cs = true) (hg : groupB la cs g = true) : 1 ≤ g.length ∧ ∀ j, j < g.length → 0 ≤ el g j ∧ el g j < 64 := by
  obtain ⟨h1, h2, h3, h4⟩ := packB_parts h
  have h24 : la = 2 ∨ la = 4 := by
    simp only [machB, Bool.and_eq_true] at h1
    have := lanesB_or h1.1; omega
  unfold groupB at hg
  simp only [Bool.and_eq_true, beq_iff_eq] at hg
  have hin := grpIn_at hg.2.1
  exact ⟨by omega, fun j hj => by have := hin j hj; omega⟩
theorem i_isFormP (w : World) (la bi : Int) (A G : Option Addr) (c c' : Nat) (cs : List SmV) (gs : List (List Int)) (hp : packB la bi cs = true) (hsz : rsz gs ≤ 1048576) (hR : RdC w A cs) (hG : RdR w G gs) :
    Calls Tryz.prog 84 #[mv la bi, .slice A cs.length c, .agg #[.slice G gs.length c']] w fun e w' => e = .returned (.bool (m_form la cs gs)) ∧ Below w.heap.size w w' := by
  obtain ⟨h1, h2, h3, h4⟩ := packB_parts hp
  exact i_isForm w la bi A G cs.length c c' gs (groupB la cs) hsz hG (hid fun k hk hg => grp_small hp hg) (hid fun W k A' cr hW hk hr => i_isGroup W la bi A A' c cr cs (rw_ gs k) h2 h1 h3 (rsz_row hsz hk) (hR.below hW) hr)
theorem s_l07FormP (w : World) (B P : Nat) (la bi : Int) (A G : Option Addr) (c c' : Nat) (cs : List SmV) (gs : List (List Int)) (hp : packB la bi cs = true) (hsz : rsz gs ≤ 1048576) (hR : RdC w A cs) (hG : RdR w G gs)
    (hm : w.cell? ⟨B, 0, none⟩ = some (.int .i64 la)) (hpc : w.cell? ⟨P, 0, none⟩ = some (.slice G gs.length c')) :
    Calls Tryz.prog 79 #[.pointer (some ⟨B, 0, none⟩), .slice A cs.length c, .pointer (some ⟨P, 0, none⟩)] w fun e w' => e = .returned (.bool (m_form la cs gs)) ∧ Below w.heap.size w w' := by
  obtain ⟨h1, h2, h3, h4⟩ := packB_parts hp
  exact s_l07Form w B P A G cs.length c c' gs (groupB la cs) hsz hG hpc (hid fun k hk hg => grp_small hp hg) (hid fun W k A' cr hW hk hcl hr => s_l07Group W B la bi A A' c cr cs (rw_ gs k) h2 h1 h3 (rsz_row hsz hk) hcl (bcell hW hm) (hR.below hW) hr)
    (hid fun W k A' cr hk h1' hr => s_l07Ends W A' cr (rw_ gs k) (rsz_row hsz hk) h1' hr)
theorem s_units (w : World) (P : Nat) (A G : Option Addr) (c c' : Nat) (cs : List SmV) (gs : List (List Int)) (h16 : cs.length ≤ 16) (hF : UF cs gs) (hsz : rsz gs ≤ 1048576) (hR : RdC w A cs) (hG : RdR w G gs) (hpc : w.cell? ⟨P, 0, none⟩ = some (.slice G gs.length c')) :
    Calls Tryz.prog 80 #[.slice A cs.length c, .pointer (some ⟨P, 0, none⟩)] w (RetRU w ((m_units cs (tabG gs cs.length)).1.map (rw_ (tabG gs cs.length))) (m_units cs (tabG gs cs.length)).2) :=
  s_l07Units w P A c cs (tabG gs cs.length) (by have := hF.len; omega) hR (hid hF.hU) (hid (s_l07All w P A G c c' cs gs h16 hsz (by have := hF.gl; omega) hG hpc))
end Go.Proofs.YtmpdaafkphpnoaaGreat
set_option linter.unusedVariables false
set_option linter.unusedSimpArgs false
namespace Go.Proofs.YtmpdaafkphpnoaaGreat
open Go.RowKit

theorem unS_no (cs : List SmV) (R : List (List Int)) (h : (m_units cs R).2 = false) : m_units cs R = ([], false) := by
  have key : ∀ (f : Nat) (L : List Nat) (D : List Int) (O : List Nat), (unS cs R f L D O).2 = false → unS cs R f L D O = ([], false) := by
    intro f
    induction f with
    | zero => intro L D O h; simp [unS] at h
    | succ f ih =>
      intro L D O h
      simp only [unS] at h ⊢
      split
      · rfl
      · rename_i q
        rw [if_neg q] at h
        exact ih _ _ _ h
  exact key _ _ _ _ h
/-- The boxes of a machine and of a packing. -/
structure MPW (w W : World) (la bi : Int) (G : Option Addr) (n c : Nat) : Prop where
  b : Below w.heap.size w W
  m0 : W.cell? ⟨w.heap.size, 0, none⟩ = some (.int .i64 la)
  m1 : W.cell? ⟨w.heap.size, 1, none⟩ = some (.int .i64 bi)
  p0 : W.cell? ⟨w.heap.size + 1, 0, none⟩ = some (.slice G n c)
theorem MPW.below {w W W' : World} {la bi : Int} {G : Option Addr} {n c : Nat} (h : MPW w W la bi G n c) (hb : Below W.heap.size W W') : MPW w W' la bi G n c := ⟨bthen h.b hb, bcell hb h.m0, bcell hb h.m1, bcell hb h.p0⟩
theorem MPW.made (w : World) (la bi : Int) (G : Option Addr) (n c : Nat) : MPW w ((w.alloc (.cells #[.int .i64 la, .int .i64 bi] 25)).alloc (.cells #[.slice G n c] 58)) la bi G n c := by
  have b1 := ballocw w (.cells #[.int .i64 la, .int .i64 bi] 25)
  have b2 := ballocw (w.alloc (.cells #[.int .i64 la, .int .i64 bi] 25)) (.cells #[.slice G n c] 58)
  have c0 : (w.alloc (.cells #[.int .i64 la, .int .i64 bi] 25)).cell? ⟨w.heap.size, 0, none⟩ = some (.int .i64 la) := cell_of_row _ _ _ _ _ _ (heap_alloc_new _ _)
  have c1 : (w.alloc (.cells #[.int .i64 la, .int .i64 bi] 25)).cell? ⟨w.heap.size, 1, none⟩ = some (.int .i64 bi) := cell_of_row _ _ _ _ _ _ (heap_alloc_new _ _)
  have z1 : (w.alloc (.cells #[.int .i64 la, .int .i64 bi] 25)).heap.size = w.heap.size + 1 := by simp
  refine ⟨bthen b1 b2, bcell b2 c0, bcell b2 c1, ?_⟩
  rw [← z1]; exact cell_of_row _ _ _ _ _ _ (heap_alloc_new _ _)
set_option maxRecDepth 100000 in
theorem i_IsPackingW (w : World) (la bi : Int) (A G : Option Addr) (n n' c c' : Nat) (b1 b2 b3 : Bool) (xs : List (List Int))
    (C1 : Hid (∀ W, Below w.heap.size w W → Calls Tryz.prog 83 #[mv la bi, .slice A n c] W fun e w' => e = .returned (.bool b1) ∧ Below W.heap.size W w'))
    (C2 : Hid (b1 = true → ∀ W, Below w.heap.size w W → Calls Tryz.prog 84 #[mv la bi, .slice A n c, .agg #[.slice G n' c']] W fun e w' => e = .returned (.bool b2) ∧ Below W.heap.size W w'))
    (C3 : Hid (b1 = true → b2 = true → ∀ W, Below w.heap.size w W → Calls Tryz.prog 85 #[.slice A n c, .agg #[.slice G n' c']] W (RetRU W xs b3))) :
    Calls Tryz.prog 29 #[mv la bi, .slice A n c, .agg #[.slice G n' c']] w fun e w' => e = .returned (.bool (b1 && (b2 && b3))) ∧ Below w.heap.size w w' := by
  have H0 := hid (MPW.made w la bi G n' c')
  have m0 := H0.out.m0
  have m1 := H0.out.m1
  cases b1 with
  | false =>
    clear C2 C3
    go_enter Tryz.func29, Tryz.ntmps29
    go_wp2_with (go_at_call 83; go_loud (refine (C1.out _ H0.out.b).mono ?_; rintro e w1 ⟨rfl, hb1⟩; have H1 := hid (H0.out.below hb1); clear hb1))
    go_ret
    exact ⟨rfl, H1.out.b⟩
  | true =>
    have C2' := hid (C2.out rfl)
    cases b2 with
    | false =>
      clear C2 C3
      go_enter Tryz.func29, Tryz.ntmps29
      go_wp2_with (first
        | (go_at_call 83; go_loud (refine (C1.out _ H0.out.b).mono ?_; rintro e w1 ⟨rfl, hb1⟩; have H1 := hid (H0.out.below hb1); have q0 := H1.out.m0; have q1 := H1.out.m1; have q2 := H1.out.p0; clear hb1))
        | (go_at_call 84; go_loud (refine (C2'.out _ H1.out.b).mono ?_; rintro e w2 ⟨rfl, hb2⟩; have H2 := hid (H1.out.below hb2); clear hb2)))
      go_ret
      exact ⟨rfl, H2.out.b⟩
    | true =>
      have C3' := hid (C3.out rfl rfl)
      clear C2 C3
      go_enter Tryz.func29, Tryz.ntmps29
      go_wp2_with (first
        | (go_at_call 83; go_loud (refine (C1.out _ H0.out.b).mono ?_; rintro e w1 ⟨rfl, hb1⟩; have H1 := hid (H0.out.below hb1); have q0 := H1.out.m0; have q1 := H1.out.m1; have q2 := H1.out.p0; clear hb1))
        | (go_at_call 84; go_loud (refine (C2'.out _ H1.out.b).mono ?_; rintro e w2 ⟨rfl, hb2⟩; have H2 := hid (H1.out.below hb2); have p2 := H2.out.p0; clear hb2))
        | (go_at_call 85; go_loud (refine (C3'.out _ H2.out.b).mono ?_; rintro e w3 ⟨v3, rfl, -, hb3⟩; have H3 := hid (H2.out.below hb3); clear hb3)))
      go_ret
      exact ⟨rfl, H3.out.b⟩
theorem i_IsPacking (w : World) (la bi : Int) (A G : Option Addr) (c c' : Nat) (cs : List SmV) (gs : List (List Int)) (hl : cs.length ≤ 1048576) (hsz : rsz gs ≤ 1048576) (hR : RdC w A cs) (hG : RdR w G gs) :
    Calls Tryz.prog 29 #[mv la bi, .slice A cs.length c, .agg #[.slice G gs.length c']] w fun e w' => e = .returned (.bool (m_IsPacking la bi cs gs)) ∧ Below w.heap.size w w' := by
  have e : m_IsPacking la bi cs gs = (packB la bi cs && (m_form la cs gs && (m_units cs (tabG gs cs.length)).2)) := by unfold m_IsPacking m_pk; rw [Bool.and_assoc]
  rw [e]
  exact i_IsPackingW w la bi A G cs.length gs.length c c' _ _ _ _ (hid fun W hW => i_isPacker W la bi A c cs hl (hR.below hW)) (hid fun hp W hW => i_isFormP W la bi A G c c' cs gs hp hsz (hR.below hW) (hG.below hW))
    (hid fun hp hf W hW => i_units W A G c c' cs gs (packB_parts hp).2.2.2 (UF.of hp hf) hsz (hR.below hW) (hG.below hW))
set_option maxRecDepth 100000 in
theorem i_UnitsOf (w : World) (la bi : Int) (A G : Option Addr) (c c' : Nat) (cs : List SmV) (gs : List (List Int)) (hl : cs.length ≤ 1048576) (hsz : rsz gs ≤ 1048576) (hR : RdC w A cs) (hG : RdR w G gs) :
    Calls Tryz.prog 33 #[mv la bi, .slice A cs.length c, .agg #[.slice G gs.length c']] w (RetRU w (m_UnitsOf la bi cs gs).1 (m_UnitsOf la bi cs gs).2) := by
  have H0 := hid (MPW.made w la bi G gs.length c')
  have m0 := H0.out.m0
  have m1 := H0.out.m1
  have p0 := H0.out.p0
  have C1 := hid (fun W (hW : Below w.heap.size w W) => i_IsPacking W la bi A G c c' cs gs hl hsz (hR.below hW) (hG.below hW))
  cases hi : m_IsPacking la bi cs gs with
  | false =>
    have HM : Hid (m_UnitsOf la bi cs gs = ([], false)) := hid (by
      unfold m_IsPacking at hi
      unfold m_UnitsOf
      cases hk : m_pk la bi cs gs with
      | false => rfl
      | true =>
        rw [hk, Bool.true_and] at hi
        rw [if_pos rfl, hi]
        have := unS_no cs (tabG gs cs.length) hi
        rw [this]; rfl)
    rw [hi] at C1
    clear hi hR hG
    go_enter Tryz.func33, Tryz.ntmps33
    go_wp2_with (go_at_call 29; go_loud (refine (C1.out _ H0.out.b).mono ?_; rintro e w1 ⟨rfl, hb1⟩; have H1 := hid (H0.out.below hb1); clear hb1))
    go_ret2
    exact ⟨_, by rw [HM.out]; rfl, by rw [HM.out]; exact OR.nil _ _ _, H1.out.b⟩
  | true =>
    have hk : m_pk la bi cs gs = true := by
      unfold m_IsPacking at hi
      simp only [Bool.and_eq_true] at hi
      exact hi.1
    have hpf : packB la bi cs = true ∧ m_form la cs gs = true := by
      unfold m_pk at hk
      simpa only [Bool.and_eq_true] using hk
    have HM : Hid (m_UnitsOf la bi cs gs = ((m_units cs (tabG gs cs.length)).1.map (rw_ (tabG gs cs.length)), (m_units cs (tabG gs cs.length)).2)) := hid (by unfold m_UnitsOf; rw [if_pos hk])
    have C3 := hid (fun W (hW : Below w.heap.size w W) => i_units W A G c c' cs gs (packB_parts hpf.1).2.2.2 (UF.of hpf.1 hpf.2) hsz (hR.below hW) (hG.below hW))
    rw [hi] at C1
    rw [HM.out]
    clear hi hR hG hk hpf HM
    generalize (m_units cs (tabG gs cs.length)).1.map (rw_ (tabG gs cs.length)) = xs at *
    generalize (m_units cs (tabG gs cs.length)).2 = b at *
    go_enter Tryz.func33, Tryz.ntmps33
    go_wp2_with (first
      | (go_at_call 29; go_loud (refine (C1.out _ H0.out.b).mono ?_; rintro e w1 ⟨rfl, hb1⟩; have H1 := hid (H0.out.below hb1); have q2 := H1.out.p0; clear hb1))
      | (go_at_call 85; go_loud (refine (C3.out _ H1.out.b).mono ?_; rintro e w3 ⟨v3, rfl, ho3, hb3⟩; have H3 := hid (H1.out.below hb3); have HO3 := hid ho3; have HZ3 := hid H1.out.b.size; clear hb3 ho3)))
    go_ret2
    exact ⟨_, rfl, OR.wide HO3.out HZ3.out (Nat.le_refl _), H3.out.b⟩
end Go.Proofs.YtmpdaafkphpnoaaGreat
set_option linter.unusedVariables false
set_option linter.unusedSimpArgs false
namespace Go.Proofs.YtmpdaafkphpnoaaGreat
open Go.RowKit

set_option maxRecDepth 100000 in
theorem s_IsPackingW (w : World) (la bi : Int) (A G : Option Addr) (n n' c c' : Nat) (b1 b2 b3 : Bool) (xs : List (List Int))
    (C1 : Hid (∀ W, MPW w W la bi G n' c' → Calls Tryz.prog 78 #[.pointer (some ⟨w.heap.size, 0, none⟩), .slice A n c] W fun e w' => e = .returned (.bool b1) ∧ W = w'))
    (C2 : Hid (b1 = true → ∀ W, MPW w W la bi G n' c' → Calls Tryz.prog 79 #[.pointer (some ⟨w.heap.size, 0, none⟩), .slice A n c, .pointer (some ⟨w.heap.size + 1, 0, none⟩)] W fun e w' => e = .returned (.bool b2) ∧ Below W.heap.size W w'))
    (C3 : Hid (b1 = true → b2 = true → ∀ W, MPW w W la bi G n' c' → Calls Tryz.prog 80 #[.slice A n c, .pointer (some ⟨w.heap.size + 1, 0, none⟩)] W (RetRU W xs b3))) :
    Calls Tryz.prog 25 #[mv la bi, .slice A n c, .agg #[.slice G n' c']] w fun e w' => e = .returned (.bool (b1 && (b2 && b3))) ∧ Below w.heap.size w w' := by
  have H0 := hid (MPW.made w la bi G n' c')
  cases b1 with
  | false =>
    clear C2 C3
    go_enter Tryz.func25, Tryz.ntmps25
    go_wp2_with (go_at_call 78; go_loud (refine (C1.out _ H0.out).mono ?_; rintro e w1 ⟨rfl, rfl⟩))
    go_ret
    exact ⟨rfl, H0.out.b⟩
  | true =>
    have C2' := hid (C2.out rfl)
    cases b2 with
    | false =>
      clear C2 C3
      go_enter Tryz.func25, Tryz.ntmps25
      go_wp2_with (first
        | (go_at_call 78; go_loud (refine (C1.out _ H0.out).mono ?_; rintro e w1 ⟨rfl, rfl⟩))
        | (go_at_call 79; go_loud (refine (C2'.out _ H0.out).mono ?_; rintro e w2 ⟨rfl, hb2⟩; have H2 := hid (H0.out.below hb2); clear hb2)))
      go_ret
      exact ⟨rfl, H2.out.b⟩
    | true =>
      have C3' := hid (C3.out rfl rfl)
      clear C2 C3
      go_enter Tryz.func25, Tryz.ntmps25
      go_wp2_with (first
        | (go_at_call 78; go_loud (refine (C1.out _ H0.out).mono ?_; rintro e w1 ⟨rfl, rfl⟩))
        | (go_at_call 79; go_loud (refine (C2'.out _ H0.out).mono ?_; rintro e w2 ⟨rfl, hb2⟩; have H2 := hid (H0.out.below hb2); clear hb2))
        | (go_at_call 80; go_loud (refine (C3'.out _ H2.out).mono ?_; rintro e w3 ⟨v3, rfl, -, hb3⟩; have H3 := hid (H2.out.below hb3); clear hb3)))
      go_ret
      exact ⟨rfl, H3.out.b⟩
theorem s_IsPacking (w : World) (la bi : Int) (A G : Option Addr) (c c' : Nat) (cs : List SmV) (gs : List (List Int)) (hl : cs.length ≤ 1048576) (hsz : rsz gs ≤ 1048576) (hR : RdC w A cs) (hG : RdR w G gs) :
    Calls Tryz.prog 25 #[mv la bi, .slice A cs.length c, .agg #[.slice G gs.length c']] w fun e w' => e = .returned (.bool (m_IsPacking la bi cs gs)) ∧ Below w.heap.size w w' := by
  have e : m_IsPacking la bi cs gs = (packB la bi cs && (m_form la cs gs && (m_units cs (tabG gs cs.length)).2)) := by unfold m_IsPacking m_pk; rw [Bool.and_assoc]
  rw [e]
  exact s_IsPackingW w la bi A G cs.length gs.length c c' _ _ _ _ (hid fun W hW => s_l07Both W w.heap.size la bi A c cs hl (hR.below hW.b) hW.m0 hW.m1) (hid fun hp W hW => s_l07FormP W w.heap.size (w.heap.size + 1) la bi A G c c' cs gs hp hsz (hR.below hW.b) (hG.below hW.b) hW.m0 hW.p0)
    (hid fun hp hf W hW => s_units W (w.heap.size + 1) A G c c' cs gs (packB_parts hp).2.2.2 (UF.of hp hf) hsz (hR.below hW.b) (hG.below hW.b) hW.p0)
set_option maxRecDepth 100000 in
theorem s_UnitsOf (w : World) (la bi : Int) (A G : Option Addr) (c c' : Nat) (cs : List SmV) (gs : List (List Int)) (hl : cs.length ≤ 1048576) (hsz : rsz gs ≤ 1048576) (hR : RdC w A cs) (hG : RdR w G gs) :
    Calls Tryz.prog 32 #[mv la bi, .slice A cs.length c, .agg #[.slice G gs.length c']] w (RetRU w (m_UnitsOf la bi cs gs).1 (m_UnitsOf la bi cs gs).2) := by
  have H0 := hid (MPW.made w la bi G gs.length c')
  have C1 := hid (fun W (hW : MPW w W la bi G gs.length c') => s_l07Both W w.heap.size la bi A c cs hl (hR.below hW.b) hW.m0 hW.m1)
  cases hp : packB la bi cs with
  | false =>
    have HM : Hid (m_UnitsOf la bi cs gs = ([], false)) := hid (by unfold m_UnitsOf m_pk; rw [hp]; rfl)
    rw [hp] at C1
    clear hp hR hG
    go_enter Tryz.func32, Tryz.ntmps32
    go_wp2_with (go_at_call 78; go_loud (refine (C1.out _ H0.out).mono ?_; rintro e w1 ⟨rfl, rfl⟩))
    go_ret2
    exact ⟨_, by rw [HM.out]; rfl, by rw [HM.out]; exact OR.nil _ _ _, H0.out.b⟩
  | true =>
    have C2 := hid (fun W (hW : MPW w W la bi G gs.length c') => s_l07FormP W w.heap.size (w.heap.size + 1) la bi A G c c' cs gs hp hsz (hR.below hW.b) (hG.below hW.b) hW.m0 hW.p0)
    rw [hp] at C1
    cases hf : m_form la cs gs with
    | false =>
      have HM : Hid (m_UnitsOf la bi cs gs = ([], false)) := hid (by unfold m_UnitsOf m_pk; rw [hp, hf]; rfl)
      rw [hf] at C2
      clear hp hf hR hG
      go_enter Tryz.func32, Tryz.ntmps32
      go_wp2_with (first
        | (go_at_call 78; go_loud (refine (C1.out _ H0.out).mono ?_; rintro e w1 ⟨rfl, rfl⟩))
        | (go_at_call 79; go_loud (refine (C2.out _ H0.out).mono ?_; rintro e w2 ⟨rfl, hb2⟩; have H2 := hid (H0.out.below hb2); clear hb2)))
      go_ret2
      exact ⟨_, by rw [HM.out]; rfl, by rw [HM.out]; exact OR.nil _ _ _, H2.out.b⟩
    | true =>
      have HM : Hid (m_UnitsOf la bi cs gs = ((m_units cs (tabG gs cs.length)).1.map (rw_ (tabG gs cs.length)), (m_units cs (tabG gs cs.length)).2)) := hid (by unfold m_UnitsOf m_pk; rw [hp, hf]; rfl)
      have C3 := hid (fun W (hW : MPW w W la bi G gs.length c') => s_units W (w.heap.size + 1) A G c c' cs gs (packB_parts hp).2.2.2 (UF.of hp hf) hsz (hR.below hW.b) (hG.below hW.b) hW.p0)
      rw [hf] at C2
      rw [HM.out]
      clear hp hf hR hG HM
      generalize (m_units cs (tabG gs cs.length)).1.map (rw_ (tabG gs cs.length)) = xs at *
      generalize (m_units cs (tabG gs cs.length)).2 = b at *
      go_enter Tryz.func32, Tryz.ntmps32
      go_wp2_with (first
        | (go_at_call 78; go_loud (refine (C1.out _ H0.out).mono ?_; rintro e w1 ⟨rfl, rfl⟩))
        | (go_at_call 79; go_loud (refine (C2.out _ H0.out).mono ?_; rintro e w2 ⟨rfl, hb2⟩; have H2 := hid (H0.out.below hb2); clear hb2))
        | (go_at_call 80; go_loud (refine (C3.out _ H2.out).mono ?_; rintro e w3 ⟨v3, rfl, ho3, hb3⟩; have H3 := hid (H2.out.below hb3); have HO3 := hid ho3; have HZ3 := hid H2.out.b.size; clear hb3 ho3)))
      go_ret2
      exact ⟨_, rfl, OR.wide HO3.out HZ3.out (Nat.le_refl _), H3.out.b⟩
end Go.Proofs.YtmpdaafkphpnoaaGreat
set_option linter.unusedVariables false
set_option linter.unusedSimpArgs false
namespace Go.Proofs.YtmpdaafkphpnoaaGreat
open Go.RowKit

/-! ### The helpers of groups -/
theorem blk3p (w : World) (a b c : Obj) : (((w.alloc a).alloc b).alloc c).heap[w.heap.size + 1 + 1]? = some c := by
  have e : ((w.alloc a).alloc b).heap.size = w.heap.size + 1 + 1 := by simp
  rw [← e, heap_alloc_new]
theorem eqv_inP {lo hi a b : Nat} {w w' : World} (h : Eqv lo hi w w') (h1 : lo ≤ a) (h2 : b ≤ hi) : Eqv a b w w' := fun k hk1 hk2 => h k (by omega) (by omega)
theorem OR.wideP {w : World} {lo hi lo' hi' : Nat} {v : Value} {xss : List (List Int)} (h : OR w lo hi v xss) (h1 : lo' ≤ lo) (h2 : hi ≤ hi') : OR w lo' hi' v xss := by
  obtain ⟨f, a, b, c, d⟩ := h
  exact ⟨f, a.wide h1 h2, fun k hk => Own.wide (b k hk) h1 h2, c, d⟩
theorem bdrewP (W : World) : Below W.heap.size W W.drew := ⟨rfl, rfl, rfl, Nat.le_refl _, fun _ _ => rfl⟩
set_option maxRecDepth 100000 in
theorem l_szPacking (w : World) (A : Option Addr) (c : Nat) (gs : List (List Int)) (left : Int) (hl : BigR gs) (h0 : 0 ≤ left) (h1 : left ≤ 1048576) (hR : RdR w A gs) :
    Calls Tryz.prog 24 #[.agg #[.slice A gs.length c], .int .i64 left] w fun e w' => e = .returned (.int .i64 (szR left (rsz gs))) ∧ Below w.heap.size w w' := by
  have hb0 := ballocw w (.cells #[.slice A gs.length c] 51)
  have C := hid (l_szInt64SSO (w.alloc (.cells #[.slice A gs.length c] 51)) A c gs left hl h0 h1 (hR.below hb0))
  have HB0 := hid hb0
  by_cases h : left < (rsz gs : Nat)
  · have e : szR left (rsz gs) = -1 := by unfold szR; rw [if_pos h]
    rw [e] at C ⊢
    clear h e hb0 hR hl
    go_enter Tryz.func24, Tryz.ntmps24
    go_wp2_with (go_at_call 77; go_loud (refine C.out.mono ?_; rintro e w1 ⟨rfl, hb1⟩))
    go_ret
    exact ⟨rfl, bthen HB0.out hb1⟩
  · have e : szR left (rsz gs) = left - (rsz gs : Nat) := by unfold szR; rw [if_neg h]
    rw [e] at C ⊢
    have hx : ¬ left - (rsz gs : Nat) < 0 := by omega
    clear h e hb0 hR hl
    generalize left - ((rsz gs : Nat) : Int) = x at *
    go_enter Tryz.func24, Tryz.ntmps24
    go_wp2_with (go_at_call 77; go_loud (refine C.out.mono ?_; rintro e w1 ⟨rfl, hb1⟩))
    go_ret
    exact ⟨rfl, bthen HB0.out hb1⟩
set_option maxRecDepth 100000 in
theorem l_eqPacking (w : World) (lo hi lo' hi' : Nat) (v v' : Value) (xs ys : List (List Int)) (hl : rsz xs ≤ 1048576) (hl' : rsz ys ≤ 1048576) (h : OR w lo hi v xs) (h' : OR w lo' hi' v' ys) (hi1 : hi ≤ w.heap.size) (hi2 : hi' ≤ w.heap.size) :
    Calls Tryz.prog 31 #[.agg #[v], .agg #[v']] w fun e w' => e = .returned (.bool (decide (xs = ys))) ∧ Below w.heap.size w w' := by
  have hb0 := ballocw w (.cells #[v] 58)
  have hb1 := bthen hb0 (ballocw (w.alloc (.cells #[v] 58)) (.cells #[v'] 58))
  have C := hid (l_eqInt64SSO ((w.alloc (.cells #[v] 58)).alloc (.cells #[v'] 58)) lo hi lo' hi' v v' xs ys hl hl' (h.eqv (Eqv.of hb1 hi1)) (h'.eqv (Eqv.of hb1 hi2)))
  have HB1 := hid hb1
  clear hb0 hb1 h h' hl hl' hi1 hi2
  generalize decide (xs = ys) = b at *
  cases b with
  | true =>
    go_enter Tryz.func31, Tryz.ntmps31
    go_wp2_with (go_at_call 34; go_loud (refine C.out.mono ?_; rintro e w1 ⟨rfl, hb1⟩))
    go_ret
    exact ⟨rfl, bthen HB1.out hb1⟩
  | false =>
    go_enter Tryz.func31, Tryz.ntmps31
    go_wp2_with (go_at_call 34; go_loud (refine C.out.mono ?_; rintro e w1 ⟨rfl, hb1⟩))
    go_ret
    exact ⟨rfl, bthen HB1.out hb1⟩
set_option maxRecDepth 100000 in
theorem l_toPackingO (w : World) (A : Option Addr) (c : Nat) (gs : List (List Int)) (hl : rsz gs ≤ 1048576) (hR : RdR w A gs) :
    Calls Tryz.prog 28 #[.agg #[.slice A gs.length c]] w fun e w' => ∃ v, e = .returned (.agg #[v]) ∧ OR w' w.heap.size w'.heap.size v gs ∧ Below w.heap.size w w' := by
  have C1 := hid (fun W (hW : Below w.heap.size w W) => l_toInt64SSO W A c gs hl (hR.below hW))
  clear hR hl
  go_enter Tryz.func28, Tryz.ntmps28
  go_wp2_with fail
  have hb0 := machine3 w (.cells #[.slice A gs.length c] 51) (.cells #[.slice none 0 0] 58) (.cells #[.slice none 0 0] 58)
  have g2 := blk0 w (.cells #[.slice A gs.length c] 51) (.cells #[.slice none 0 0] 58) (.cells #[.slice none 0 0] 58)
  have g3 := blk3p w (.cells #[.slice A gs.length c] 51) (.cells #[.slice none 0 0] 58) (.cells #[.slice none 0 0] 58)
  have hsz : (((w.alloc (.cells #[.slice A gs.length c] 51)).alloc (.cells #[.slice none 0 0] 58)).alloc (.cells #[.slice none 0 0] 58)).heap.size = w.heap.size + 3 := by simp
  generalize ((w.alloc (.cells #[.slice A gs.length c] 51)).alloc (.cells #[.slice none 0 0] 58)).alloc (.cells #[.slice none 0 0] 58) = V at *
  refine (C1.out _ hb0).mono ?_
  rintro e w1 ⟨v1, rfl, o1, b1⟩
  obtain ⟨B1, d1, rfl, _, _, _⟩ := o1.shp
  have hz1 := b1.size
  have g2a := (b1.block (w.heap.size + 1) (by omega)).trans g2
  have g3a := (b1.block (w.heap.size + 1 + 1) (by omega)).trans g3
  have hq : Eqv (w.heap.size + 3) w1.heap.size w1 ((w1.setCell ⟨w.heap.size + 1 + 1, 0, none⟩ (.slice B1 gs.length d1)).setCell ⟨w.heap.size + 1, 0, none⟩ (.slice B1 gs.length d1)) := by
    intro k h1 h2
    rw [heap_setCell_other _ _ _ _ (by show k ≠ w.heap.size + 1; omega), heap_setCell_other _ _ _ _ (by show k ≠ w.heap.size + 1 + 1; omega)]
  have O1 := hid (OR.wideP (OR.eqv o1 (eqv_inP hq (by omega) (Nat.le_refl _))) (show w.heap.size ≤ V.heap.size by omega) (Nat.le_refl _))
  have BW := hid (bthen hb0 b1)
  have f1 : w1.frozen? ⟨w.heap.size + 1 + 1, 0, none⟩ = false := frozen_of_row _ _ _ _ _ g3a
  have f2 : w1.frozen? ⟨w.heap.size + 1, 0, none⟩ = false := frozen_of_row _ _ _ _ _ g2a
  have e1 : w1.cell? ⟨w.heap.size + 1 + 1, 0, none⟩ = some (.slice none 0 0) := by rw [cell_of_row _ _ _ _ _ _ g3a]; rfl
  have e2 : w1.cell? ⟨w.heap.size + 1, 0, none⟩ = some (.slice none 0 0) := by rw [cell_of_row _ _ _ _ _ _ g2a]; rfl
  have G2 := hid g2a
  have HZ := hid hz1
  have HZ3 := hid hsz
  clear b1 o1 g2 g3 g2a g3a hb0 hq hz1 hsz C1
  go_wp2_with fail
  have h2 : (w1.setCell ⟨w.heap.size + 1 + 1, 0, none⟩ (.slice B1 gs.length d1)).heap[w.heap.size + 1]? = some (.cells #[.slice none 0 0] 58) :=
    (heap_setCell_other _ _ _ _ (by show w.heap.size + 1 ≠ w.heap.size + 1 + 1; omega)).trans G2.out
  have h3 := heap_setCell_same _ _ 0 _ _ (.slice B1 gs.length d1) h2
  refine bodyPost_ret (results_cell_row rfl _ _ (w.heap.size + 1) 58 #[.slice B1 gs.length d1] (0, 0) _ rfl h3 Tryz.underlying58 rfl (by kernel_rfl)) rfl ?_
  refine ⟨_, rfl, ?_, ?_⟩
  · have := O1.out
    have e : ((w1.setCell ⟨w.heap.size + 1 + 1, 0, none⟩ (.slice B1 gs.length d1)).setCell ⟨w.heap.size + 1, 0, none⟩ (.slice B1 gs.length d1)).heap.size = w1.heap.size := by simp [World.setCell]
    rw [e]; exact this
  · exact bset (bset BW.out (by show _ ≤ w.heap.size + 1 + 1; omega) _) (by show _ ≤ w.heap.size + 1; omega) _
end Go.Proofs.YtmpdaafkphpnoaaGreat
set_option linter.unusedVariables false
set_option linter.unusedSimpArgs false
namespace Go.Proofs.YtmpdaafkphpnoaaGreat
open Go.RowKit

theorem MPW.s {w W : World} {la bi : Int} {G : Option Addr} {n c : Nat} (h : MPW w W la bi G n c) : W.cell? ⟨w.heap.size, 0, none⟩ = some (.int .i64 la) ∧ W.cell? ⟨w.heap.size, 1, none⟩ = some (.int .i64 bi) ∧ W.cell? ⟨w.heap.size + 1, 0, none⟩ = some (.slice G n c) := ⟨h.m0, h.m1, h.p0⟩
theorem MPW.madeL (w : World) (la bi : Int) (G : Option Addr) (n c : Nat) : MPW w ((w.alloc (.cells #[.int .i64 la, .int .i64 bi] 48)).alloc (.cells #[.slice G n c] 51)) la bi G n c := by
  have b1 := ballocw w (.cells #[.int .i64 la, .int .i64 bi] 48)
  have b2 := ballocw (w.alloc (.cells #[.int .i64 la, .int .i64 bi] 48)) (.cells #[.slice G n c] 51)
  have c0 : (w.alloc (.cells #[.int .i64 la, .int .i64 bi] 48)).cell? ⟨w.heap.size, 0, none⟩ = some (.int .i64 la) := cell_of_row _ _ _ _ _ _ (heap_alloc_new _ _)
  have c1 : (w.alloc (.cells #[.int .i64 la, .int .i64 bi] 48)).cell? ⟨w.heap.size, 1, none⟩ = some (.int .i64 bi) := cell_of_row _ _ _ _ _ _ (heap_alloc_new _ _)
  have z1 : (w.alloc (.cells #[.int .i64 la, .int .i64 bi] 48)).heap.size = w.heap.size + 1 := by simp
  refine ⟨bthen b1 b2, bcell b2 c0, bcell b2 c1, ?_⟩
  rw [← z1]; exact cell_of_row _ _ _ _ _ _ (heap_alloc_new _ _)
set_option maxRecDepth 100000 in
set_option maxHeartbeats 2000000 in
theorem law_IsPacking (w : World) (la bi : Int) (A : Option Addr) (c : Nat) (cs : List SmV) (G : Option Addr) (c' : Nat) (gs : List (List Int)) (hl : cs.length ≤ 9223372036854775807) (hR : RdC w A cs) (hl' : BigR gs) (hG : RdR w G gs) :
    Calls Tryz.prog 6 #[.agg #[.int .i64 la, .int .i64 bi], .slice A cs.length c, .agg #[.slice G gs.length c']] w fun e w' => e = .returned (.bool true) ∧ Below w.heap.size w w' := by
  have H0 := hid (MPW.madeL w la bi G gs.length c')
  have p0 := H0.out.p0
  have ssz := fun W (hW : Below w.heap.size w W) => l_szStmtSO W A c cs 1048576 hl (by omega) (by omega) (hR.below hW)
  by_cases big : (1048576 : Int) < (cs.length : Nat)
  · simp only [szR, if_pos big] at ssz
    have C := hid ssz
    clear ssz big hR hG hl hl'
    go_enter Tryz.func6, Tryz.ntmps6
    go_wp2_with (go_at_call 23; go_loud (refine (C.out _ H0.out.b).mono ?_; rintro e w1 ⟨rfl, hb1⟩; have H1 := hid (H0.out.below hb1); clear hb1))
    go_ret
    exact ⟨rfl, H1.out.b⟩
  · have hs : cs.length ≤ 1048576 := by omega
    simp only [szR, if_neg big] at ssz
    have hx : ¬ (1048576 : Int) - (cs.length : Nat) < 0 := by omega
    have C := hid ssz
    have szp := fun W (hW : Below w.heap.size w W) => l_szPacking W G c' gs ((1048576 : Int) - (cs.length : Nat)) hl' (by omega) (by omega) (hG.below hW)
    by_cases big2 : (1048576 : Int) - (cs.length : Nat) < (rsz gs : Nat)
    · simp only [szR, if_pos big2] at szp
      have C2 := hid szp
      clear ssz szp big big2 hR hG hl hl' hs
      generalize (1048576 : Int) - ((cs.length : Nat) : Int) = x at *
      go_enter Tryz.func6, Tryz.ntmps6
      go_wp2_with (first
        | (go_at_call 23; go_loud (refine (C.out _ H0.out.b).mono ?_; rintro e w1 ⟨rfl, hb1⟩; have H1 := hid (H0.out.below hb1); have p1 := H1.out.p0; clear hb1))
        | (go_at_call 24; go_loud (refine (C2.out _ H1.out.b).mono ?_; rintro e w2 ⟨rfl, hb2⟩; have H2 := hid (H1.out.below hb2); clear hb2)))
      go_ret
      exact ⟨rfl, H2.out.b⟩
    · simp only [szR, if_neg big2] at szp
      have hx2 : ¬ (1048576 : Int) - (cs.length : Nat) - (rsz gs : Nat) < 0 := by omega
      have C2 := hid szp
      have hs2 : rsz gs ≤ 1048576 := by omega
      have CM := hid (fun W => l_toMachine W la bi)
      have CTc := hid (fun W (hW : Below w.heap.size w W) => l_toStmtSO W A c cs hs (hR.below hW))
      have CTp := hid (fun W (hW : Below w.heap.size w W) => l_toPackingO W G c' gs hs2 (hG.below hW))
      have CS := hid (fun W A' d' G' e' (h1 : RdC W A' cs) (h2 : RdR W G' gs) => s_IsPacking W la bi A' G' d' e' cs gs hs hs2 h1 h2)
      have CI := hid (fun W A' d' G' e' (h1 : RdC W A' cs) (h2 : RdR W G' gs) => i_IsPacking W la bi A' G' d' e' cs gs hs hs2 h1 h2)
      have CE := hid (fun W lo hi lo' hi' v v' (h1 : OC W lo hi v cs) (h2 : OC W lo' hi' v' cs) => l_eqStmtSO W lo hi lo' hi' v v' cs cs hs hs h1 h2)
      have CF := hid (fun W lo hi lo' hi' v v' (h1 : OR W lo hi v gs) (h2 : OR W lo' hi' v' gs) h3 h4 => l_eqPacking W lo hi lo' hi' v v' gs gs hs2 hs2 h1 h2 h3 h4)
      rw [decide_eq_true rfl] at CE CF
      clear ssz szp big big2 hR hG hl hl' hs hs2
      generalize (1048576 : Int) - ((cs.length : Nat) : Int) = x at *
      generalize x - ((rsz gs : Nat) : Int) = y at *
      generalize m_IsPacking la bi cs gs = b at *
      go_enter Tryz.func6, Tryz.ntmps6
      go_wp2_with fail
      refine (C.out _ H0.out.b).mono ?_
      rintro e w1 ⟨rfl, hb1⟩
      have H1 := hid (H0.out.below hb1)
      have p1 := H1.out.p0
      clear hb1 p0 H0 C
      go_wp2_with fail
      refine (C2.out _ H1.out.b).mono ?_
      rintro e w2 ⟨rfl, hb2⟩
      have H2 := hid ((H1.out.below hb2).below (bdrewP w2))
      clear hb2 p1 H1 C2
      go_wp2_with fail
      go_region_held3 (fun W => W.cell? ⟨w.heap.size, 0, none⟩ = some (.int .i64 la) ∧ W.cell? ⟨w.heap.size, 1, none⟩ = some (.int .i64 bi) ∧ W.cell? ⟨w.heap.size + 1, 0, none⟩ = some (.slice G gs.length c'))
        (first | exact H2.out.s | exact H3.out.s | exact H4.out.s | exact H5.out.s | exact H6.out.s)
        (first
          | (go_at_call 26; refine (CM.out _).mono ?_; rintro e w3 ⟨rfl, hb3⟩; have H3 := hid (H2.out.below hb3); clear hb3)
          | (go_at_call 27; refine (CTc.out _ H3.out.b).mono ?_; rintro e w4 ⟨v4, rfl, o4, hb4⟩; obtain ⟨A4, c4, rfl, _, _, r4⟩ := o4.shp; have H4 := hid (H3.out.below hb4); have R4 := hid r4; clear hb4 r4 o4)
          | (go_at_call 28; refine (CTp.out _ H4.out.b).mono ?_; rintro e w5 ⟨v5, rfl, o5, hb5⟩; obtain ⟨A5, c5, rfl, _, _, r5⟩ := o5.shp; have H5 := hid (H4.out.below hb5); have R45 := hid (RdC.below R4.out hb5); have R5 := hid r5; clear hb5 r5 o5)
          | (go_at_call 25; refine (CS.out _ _ _ _ _ R45.out R5.out).mono ?_; rintro e w6 ⟨rfl, hb6⟩; have H6 := hid (H5.out.below hb6); clear hb6))
      clear R45 R5 R4 H2 H3 H4 H5 CS
      go_wp2_with fail
      refine (CTc.out _ H6.out.b).mono ?_
      rintro e w7 ⟨v7, rfl, o7, hb7⟩
      obtain ⟨A7, c7, rfl, _, _, _⟩ := o7.shp
      have H7 := hid (H6.out.below hb7)
      have p7 := H7.out.p0
      have O7 := hid o7
      clear hb7 o7 H6
      go_wp2_with fail
      refine (CTp.out _ H7.out.b).mono ?_
      rintro e w8 ⟨v8, rfl, o8, hb8⟩
      obtain ⟨A8, c8, rfl, _, _, _⟩ := o8.shp
      have hb9 := ballocw w8 (.cells #[.slice A8 gs.length c8] 58)
      have j9 : (w8.alloc (.cells #[.slice A8 gs.length c8] 58)).cell? ⟨w8.heap.size, 0, none⟩ = some (.slice A8 gs.length c8) := cell_of_row _ _ _ _ _ _ (heap_alloc_new w8 _)
      have h9 := (H7.out.below hb8).below hb9
      have O9 := hid (O7.out.eqv (Eqv.of (bthen hb8 hb9) (Nat.le_refl _)))
      have P9 := hid (o8.eqv (Eqv.of hb9 (Nat.le_refl _)))
      have L9 := hid (Nat.le_trans hb8.size hb9.size)
      have M9 := hid hb9.size
      have H9 := hid (h9.below (bdrewP (w8.alloc (.cells #[.slice A8 gs.length c8] 58))))
      have J9 := hid (show (w8.alloc (.cells #[.slice A8 gs.length c8] 58)).drew.cell? ⟨w8.heap.size, 0, none⟩ = some (.slice A8 gs.length c8) from j9)
      clear hb8 o8 O7 h9 hb9
      go_wp2_with fail
      clear p7 j9 H7
      go_region_held3 (fun W => (W.cell? ⟨w.heap.size, 0, none⟩ = some (.int .i64 la) ∧ W.cell? ⟨w.heap.size, 1, none⟩ = some (.int .i64 bi) ∧ W.cell? ⟨w.heap.size + 1, 0, none⟩ = some (.slice G gs.length c')) ∧ W.cell? ⟨w8.heap.size, 0, none⟩ = some (.slice A8 gs.length c8))
        (first | exact ⟨H9.out.s, J9.out⟩ | exact ⟨H10.out.s, J10.out⟩ | exact ⟨H11.out.s, J11.out⟩)
        (first
          | (go_at_call 26; refine (CM.out _).mono ?_; rintro e w10 ⟨rfl, hb10⟩; have H10 := hid (H9.out.below hb10); have J10 := hid (bcell hb10 J9.out); have O10 := hid (OC.eqv O9.out (Eqv.of (bthen (bdrewP _) hb10) L9.out)); have P10 := hid (OR.eqv P9.out (Eqv.of (bthen (bdrewP _) hb10) M9.out)); have L10 := hid (Nat.le_trans L9.out hb10.size); have M10 := hid (Nat.le_trans M9.out hb10.size); clear hb10)
          | (go_at_call 29; refine (CI.out _ _ _ _ _ O10.out.rd P10.out.rd).mono ?_; rintro e w11 ⟨rfl, hb11⟩; have H11 := hid (H10.out.below hb11); have J11 := hid (bcell hb11 J10.out); have O11 := hid (OC.eqv O10.out (Eqv.of hb11 L10.out)); have P11 := hid (OR.eqv P10.out (Eqv.of hb11 M10.out)); have L11 := hid (Nat.le_trans L10.out hb11.size); have M11 := hid (Nat.le_trans M10.out hb11.size); clear hb11))
      clear H9 H10 J9 J10 O9 O10 P9 P10 L9 L10 M9 M10 CI CM
      go_wp2_with fail
      refine (CTc.out _ H11.out.b).mono ?_
      rintro e w12 ⟨v12, rfl, o12, hb12⟩
      obtain ⟨A12, c12, rfl, _, _, _⟩ := o12.shp
      have H12 := hid (H11.out.below hb12)
      have J12 := hid (bcell hb12 J11.out)
      have O12 := hid (OC.eqv O11.out (Eqv.of hb12 L11.out))
      have P12 := hid (OR.eqv P11.out (Eqv.of hb12 M11.out))
      have M12 := hid (Nat.le_trans M11.out hb12.size)
      have Q12 := hid o12
      clear hb12 o12 H11 J11 O11 P11 L11 M11 CTc
      go_wp2_with fail
      refine (CE.out _ _ _ _ _ _ _ O12.out Q12.out).mono ?_
      rintro e w13 ⟨rfl, hb13⟩
      have H13 := hid ((H12.out.below hb13).below (bdrewP w13))
      have J13 := hid (show w13.drew.cell? ⟨w8.heap.size, 0, none⟩ = some (.slice A8 gs.length c8) from bcell hb13 J12.out)
      have P13 := hid (OR.eqv P12.out (Eqv.of (bthen hb13 (bdrewP w13)) M12.out))
      have M13 := hid (Nat.le_trans M12.out hb13.size)
      clear hb13 H12 J12 O12 P12 M12 Q12 CE
      go_wp2_with fail
      go_region_held3 (fun W => (W.cell? ⟨w.heap.size, 0, none⟩ = some (.int .i64 la) ∧ W.cell? ⟨w.heap.size, 1, none⟩ = some (.int .i64 bi) ∧ W.cell? ⟨w.heap.size + 1, 0, none⟩ = some (.slice G gs.length c')) ∧ W.cell? ⟨w8.heap.size, 0, none⟩ = some (.slice A8 gs.length c8))
        (first | exact ⟨H13.out.s, J13.out⟩ | exact ⟨H14.out.s, J14.out⟩ | exact ⟨H15.out.s, J15.out⟩)
        (first
          | (go_at_call 28; refine (CTp.out _ H13.out.b).mono ?_; rintro e w14 ⟨v14, rfl, o14, hb14⟩; have H14 := hid (H13.out.below hb14); have J14 := hid (bcell hb14 J13.out); have P14 := hid (OR.eqv P13.out (Eqv.of hb14 M13.out)); have M14 := hid (Nat.le_trans M13.out hb14.size); have Q14 := hid o14; clear hb14 o14)
          | (go_at_call 31; refine (CF.out _ _ _ _ _ _ _ P14.out Q14.out M14.out (Nat.le_refl _)).mono ?_; rintro e w15 ⟨rfl, hb15⟩; have H15 := hid (H14.out.below hb15); have J15 := hid (bcell hb15 J14.out); clear hb15))
      clear H13 H14 J13 J14 P13 P14 M13 M14 Q14 CTp CF
      go_wp2_with fail
      go_ret
      exact ⟨rfl, H15.out.b⟩
end Go.Proofs.YtmpdaafkphpnoaaGreat
set_option linter.unusedVariables false
set_option linter.unusedSimpArgs false
namespace Go.Proofs.YtmpdaafkphpnoaaGreat
open Go.RowKit

theorem sfl_snoc (xs : List SmV) (y : SmV) : ints (sfl (xs ++ [y])) = ints (sfl xs) ++ [.int .i64 y.o, .int .i64 y.d, .int .i64 y.a, .int .i64 y.b] := by
  rw [sfl_append]; simp [sfl, ints]
theorem OC.nil (w : World) (lo hi : Nat) : OC w lo hi (.slice none 0 0) [] := Own.nil w lo hi 109 4
theorem OC.wide {w : World} {lo hi lo' hi' : Nat} {v : Value} {xs : List SmV} (h : OC w lo hi v xs) (h1 : lo' ≤ lo) (h2 : hi ≤ hi') : OC w lo' hi' v xs := Own.wide h h1 h2
theorem infoStm : (Tryz.prog.info? 109).map (fun i => (i.zero, i.size, i.bytes)) = some (some (.agg #[.int .i64 0, .int .i64 0, .int .i64 0, .int .i64 0]), 4, 32) := by kernel_rfl
/-- append(v, x) of one statement, behind 'at_builtin'. -/
theorem wp_appendC {ops : Array Oper} {rest : List Oper} {o : Oper} {a : Act} {Q : Exit → Act → World → Prop} {W : World} (lo : Nat) (hgd : o.guard = none) (s x : Operand)
    (ho : o.op = .call { callee := .builtin .append, args := #[s, x], argTypes := #[56, 56] })
    (v : Value) (xs : List SmV) (y1 y2 y3 y4 : Int) (B : Nat) (hB : W.heap.size = B) (hs : a.eval s = v) (hx : a.eval x = .slice (some ⟨B, 0, none⟩) 1 1)
    (HO : OC W lo W.heap.size v xs) (hlo : lo ≤ W.heap.size) (hl : xs.length + 1 ≤ 2097152)
    (h : ∀ v1 w1, OC w1 lo w1.heap.size v1 (xs ++ [⟨y1, y2, y3, y4⟩]) → Below lo W w1 → wpList Tryz.prog ops Q rest (a.put o.dst v1) w1) :
    wpList Tryz.prog ops Q (o :: rest) a (W.alloc (.cells #[.int .i64 y1, .int .i64 y2, .int .i64 y3, .int .i64 y4] 109)) := by
  obtain ⟨i0, hi, hzz⟩ := Option.map_eq_some_iff.1 infoStm
  simp only [Prod.mk.injEq] at hzz
  obtain ⟨hz0, hz1, hz2⟩ := hzz
  subst hB
  refine wpList_append_own (W.alloc (.cells #[.int .i64 y1, .int .i64 y2, .int .i64 y3, .int .i64 y4] 109)) hgd s x 56 ho lo 109 i0 _ 4 32 Tryz.underlying56 hi hz0 hz1 hz2 rfl (by omega) v xs.length _ hs (HO.1.alloc _) ⟨W.heap.size, 0, none⟩ 1 1 [.int .i64 y1, .int .i64 y2, .int .i64 y3, .int .i64 y4] hx rfl
    (World.news_of_block (cs := #[.int .i64 y1, .int .i64 y2, .int .i64 y3, .int .i64 y4]) (t := 109) (fr := (0, 0)) (heap_alloc_new W _)) (by simp [Value.oneCell']) (by simp only [maxLen]; omega) (by omega) (by simp; omega) ?_
  intro v1 w1 hown hg _
  refine h v1 w1 ?_ ?_
  · show Own _ _ _ _ _ _ _ _
    rw [sfl_snoc, List.length_append]; exact Own.of hown
  refine ((Below.refl lo W).alloc hlo _).grown hg (by simp; omega) ?_
  intro k hk
  exact (HO.1.lt k hk).1
/-- .. and all else stays as it is. -/
theorem wp_appendCf {ops : Array Oper} {rest : List Oper} {o : Oper} {a : Act} {Q : Exit → Act → World → Prop} {W : World} (lo : Nat) (hgd : o.guard = none) (s x : Operand)
    (ho : o.op = .call { callee := .builtin .append, args := #[s, x], argTypes := #[56, 56] })
    (v : Value) (xs : List SmV) (y1 y2 y3 y4 : Int) (B : Nat) (hB : W.heap.size = B) (hs : a.eval s = v) (hx : a.eval x = .slice (some ⟨B, 0, none⟩) 1 1)
    (HO : OC W lo W.heap.size v xs) (hlo : lo ≤ W.heap.size) (hl : xs.length + 1 ≤ 2097152)
    (h : ∀ v1 w1, OC w1 lo w1.heap.size v1 (xs ++ [⟨y1, y2, y3, y4⟩]) → Below lo W w1 → (∀ k, k < W.heap.size → v.ownBlock ≠ some k → w1.heap[k]? = W.heap[k]? ∧ v1.ownBlock ≠ some k) → wpList Tryz.prog ops Q rest (a.put o.dst v1) w1) :
    wpList Tryz.prog ops Q (o :: rest) a (W.alloc (.cells #[.int .i64 y1, .int .i64 y2, .int .i64 y3, .int .i64 y4] 109)) := by
  obtain ⟨i0, hi, hzz⟩ := Option.map_eq_some_iff.1 infoStm
  simp only [Prod.mk.injEq] at hzz
  obtain ⟨hz0, hz1, hz2⟩ := hzz
  subst hB
  refine wpList_append_own_at (W.alloc (.cells #[.int .i64 y1, .int .i64 y2, .int .i64 y3, .int .i64 y4] 109)) hgd s x 56 ho lo 109 i0 _ 4 32 Tryz.underlying56 hi hz0 hz1 hz2 rfl (by omega) v xs.length _ hs (HO.1.alloc _) ⟨W.heap.size, 0, none⟩ 1 1 [.int .i64 y1, .int .i64 y2, .int .i64 y3, .int .i64 y4] hx rfl
    (World.news_of_block (cs := #[.int .i64 y1, .int .i64 y2, .int .i64 y3, .int .i64 y4]) (t := 109) (fr := (0, 0)) (heap_alloc_new W _)) (by simp [Value.oneCell']) (by simp only [maxLen]; omega) (by omega) (by simp; omega) ?_
  intro v1 w1 hown hg _ hblk
  refine h v1 w1 ?_ ?_ ?_
  · show Own _ _ _ _ _ _ _ _
    rw [sfl_snoc, List.length_append]; exact Own.of hown
  · refine ((Below.refl lo W).alloc hlo _).grown hg (by simp; omega) ?_
    intro k hk
    exact (HO.1.lt k hk).1
  · intro k hk hn
    refine ⟨(hg.block k (by simp; omega) (Ne.symm hn)).trans (heap_alloc_old _ _ hk), fun z => ?_⟩
    rcases hblk with e | e
    · exact hn (by rw [← e]; exact z)
    · rw [e] at z; cases z; exact absurd hk (by simp)
end Go.Proofs.YtmpdaafkphpnoaaGreat
set_option linter.unusedVariables false
set_option linter.unusedSimpArgs false
namespace Go.Proofs.YtmpdaafkphpnoaaGreat
open Go.RowKit

/-! ### Statements that are marked -/
theorem wrap64_inC {x : Int} (h0 : -9223372036854775808 ≤ x) (h1 : x ≤ 9223372036854775807) : wrap64 x = x := by unfold wrap64; omega
def mkCP (m : Int) (k : Nat) : SmV := ⟨m + 4 * k, m + 4 * k + 1, m + 4 * k + 2, m + 4 * k + 3⟩
def mkCS (m : Int) (n : Nat) : List SmV := (List.range n).map (mkCP m)
theorem mkCS_length (m : Int) (n : Nat) : (mkCS m n).length = n := by simp [mkCS]
theorem mkCS_at {m : Int} {n k : Nat} (h : k < n) : sel (mkCS m n) k = mkCP m k := by
  have := sel_get (xs := mkCS m n) (k := k) (by rw [mkCS_length]; exact h)
  unfold mkCS at this ⊢
  rw [List.getElem?_map, List.getElem?_range h] at this
  exact (Option.some.inj this).symm
theorem sfl_set {xs : List SmV} {k : Nat} (h : k < xs.length) (y : SmV) : ((((sfl xs).set (k * 4) y.o).set (k * 4 + 1) y.d).set (k * 4 + 2) y.a).set (k * 4 + 3) y.b = sfl (xs.set k y) := by
  have hl : (sfl (xs.take k)).length = k * 4 := by rw [sfl_length]; simp; omega
  have e : xs = xs.take k ++ (sel xs k :: xs.drop (k + 1)) := by rw [← sel_drop h, List.take_append_drop]
  have e2 : sfl xs = sfl (xs.take k) ++ ((sel xs k).o :: (sel xs k).d :: (sel xs k).a :: (sel xs k).b :: sfl (xs.drop (k + 1))) := by
    conv => lhs; rw [e]
    rw [sfl_append]; simp [sfl]
  have e3 : xs.set k y = xs.take k ++ (y :: xs.drop (k + 1)) := by rw [List.set_eq_take_append_cons_drop, if_pos h]
  rw [e2, e3, sfl_append, List.set_append_right _ _ (by omega), List.set_append_right _ _ (by omega), List.set_append_right _ _ (by omega), List.set_append_right _ _ (by omega), hl]
  simp [sfl]
theorem mkc_step {xs : List SmV} {m : Int} {k : Nat} (h : k < xs.length) : (mkCS m k ++ xs.drop k).set k (mkCP m k) = mkCS m (k + 1) ++ xs.drop (k + 1) := by
  rw [List.set_append_right _ _ (by rw [mkCS_length]; exact Nat.le_refl _), mkCS_length, Nat.sub_self, sel_drop h]
  simp [mkCS, List.range_succ]
theorem mkc_len {xs : List SmV} {m : Int} {k : Nat} (h : k ≤ xs.length) : (mkCS m k ++ xs.drop k).length = xs.length := by rw [List.length_append, mkCS_length, List.length_drop]; omega
set_option maxRecDepth 100000 in
theorem l_markStmtSO (w : World) (lo hi : Nat) (v : Value) (xs : List SmV) (m : Int) (h0 : 0 ≤ m) (h1 : m + 4 * xs.length ≤ 9223372036854775807) (hO : OC w lo hi v xs) :
    Calls Tryz.prog 35 #[v, .int .i64 m] w fun e w' => e = .returned (.int .i64 (m + 4 * (xs.length : Nat))) ∧ OC w' lo hi v (mkCS m xs.length) ∧ Chg lo hi w w' := by
  have HO := hid hO
  obtain ⟨A, c, rfl, hc1, hc2, _⟩ := Own.shape hO
  have H1 := hid h1
  have H0 := hid h0
  clear hO h1 h0
  go_enter Tryz.func35, Tryz.ntmps35
  go_wp2
  go_loopg [1, 5] xs.length (fun gg mk s wr => ∃ k : Nat, k ≤ xs.length ∧ xs.length - k ≤ gg ∧ s = .int .i64 k ∧ mk = .int .i64 (m + 4 * k) ∧ Aside (Chg lo hi w wr) ∧
    Aside (Own wr lo hi 109 4 (.slice A xs.length c) xs.length (ints (sfl (mkCS m k ++ xs.drop k)))))
  case atStart => exact ⟨0, Nat.zero_le _, by omega, rfl, by simp, Chg.refl _ _ _, by show Own _ _ _ _ _ _ _ _; simpa [mkCS] using (show Own _ _ _ _ _ _ _ _ from HO.out)⟩
  case round =>
    obtain ⟨k, hk, hg, rfl, rfl, CW, OW⟩ := hrel
    clear HO
    by_cases hlt : k < xs.length
    · have hown := OW.out
      have hll : (sfl (mkCS m k ++ xs.drop k)).length = xs.length * 4 := by rw [sfl_length, mkc_len hk]
      obtain ⟨A', c', e', _, _, hs⟩ := hown.shape
      obtain ⟨rfl, rfl⟩ : A' = A ∧ c' = c := by cases e'; exact ⟨rfl, rfl⟩
      rcases hs with ⟨_, hz⟩ | ⟨g, rfl, hlo, hhi, hcells, hfr⟩
      · omega
      have hck := hcells (k * 4) _ (ints_get (by omega))
      have hck1 := hcells (k * 4 + 1) _ (ints_get (by omega))
      have hck2 := hcells (k * 4 + 2) _ (ints_get (by omega))
      have hck3 := hcells (k * 4 + 3) _ (ints_get (by omega))
      have hfk := hfr (k * 4)
      have hfk1 := hfr (k * 4 + 1)
      have hfk2 := hfr (k * 4 + 2)
      have hfk3 := hfr (k * 4 + 3)
      have hst : ((((sfl (mkCS m k ++ xs.drop k)).set (k * 4) (m + 4 * k)).set (k * 4 + 1) (m + 4 * k + 1)).set (k * 4 + 2) (m + 4 * k + 2)).set (k * 4 + 3) (m + 4 * k + 3) = sfl (mkCS m (k + 1) ++ xs.drop (k + 1)) := by
        have := sfl_set (xs := mkCS m k ++ xs.drop k) (k := k) (by rw [mkc_len hk]; exact hlt) (mkCP m k)
        rw [mkc_step hlt] at this
        exact this
      have hb1 : 0 ≤ m + 4 * (k : Int) ∧ m + 4 * (k : Int) + 4 ≤ 9223372036854775807 := by have := H1.out; have := H0.out; omega
      have ha4 : m + 4 * ((k + 1 : Nat) : Int) = m + 4 * (k : Int) + 4 := by omega
      have HA4 := hid ha4
      clear ha4
      generalize m + 4 * (k : Int) = a0 at *
      obtain ⟨a1, hA1⟩ : ∃ a1, a1 = a0 + 1 := ⟨_, rfl⟩
      obtain ⟨a2, hA2⟩ : ∃ a2, a2 = a0 + 2 := ⟨_, rfl⟩
      obtain ⟨a3, hA3⟩ : ∃ a3, a3 = a0 + 3 := ⟨_, rfl⟩
      obtain ⟨a4, hA4⟩ : ∃ a4, a4 = a0 + 4 := ⟨_, rfl⟩
      have w1 : wrap64 (a0 + 1) = a1 := by rw [hA1]; exact wrap64_inC (by omega) (by omega)
      have w2 : wrap64 (a1 + 1) = a2 := by rw [wrap64_inC (by omega) (by omega)]; omega
      have w3 : wrap64 (a2 + 1) = a3 := by rw [wrap64_inC (by omega) (by omega)]; omega
      have w4 : wrap64 (a3 + 1) = a4 := by rw [wrap64_inC (by omega) (by omega)]; omega
      rw [← hA1, ← hA2, ← hA3] at hst
      rw [← hA4] at HA4
      have OW' : Hid (Own ((((wr.setCell ⟨g, k * 4, none⟩ (.int .i64 a0)).setCell ⟨g, k * 4 + 1, none⟩ (.int .i64 a1)).setCell ⟨g, k * 4 + 2, none⟩ (.int .i64 a2)).setCell ⟨g, k * 4 + 3, none⟩ (.int .i64 a3)) lo hi 109 4 (.slice (some ⟨g, 0, none⟩) xs.length c') xs.length (ints (sfl (mkCS m (k + 1) ++ xs.drop (k + 1))))) := hid (by
        have := (((hown.set (k * 4) (.int .i64 a0)).set (k * 4 + 1) (.int .i64 a1)).set (k * 4 + 2) (.int .i64 a2)).set (k * 4 + 3) (.int .i64 a3); rw [ints_set, ints_set, ints_set, ints_set, hst] at this; exact this)
      have CW' : Hid (Chg lo hi w ((((wr.setCell ⟨g, k * 4, none⟩ (.int .i64 a0)).setCell ⟨g, k * 4 + 1, none⟩ (.int .i64 a1)).setCell ⟨g, k * 4 + 2, none⟩ (.int .i64 a2)).setCell ⟨g, k * 4 + 3, none⟩ (.int .i64 a3))) := hid ((((CW.out.trans (chg_set wr hlo hhi (k * 4) _)).trans (chg_set _ hlo hhi (k * 4 + 1) _)).trans (chg_set _ hlo hhi (k * 4 + 2) _)).trans (chg_set _ hlo hhi (k * 4 + 3) _))
      have HK1 : Hid (xs.length - (k + 1) < gk) := hid (by omega)
      have HKL := hid hlt
      have HW4 := hid w4
      clear e' hcells hfr OW CW hown hst hll hA1 hA2 hA3 hA4 hb1 H1 H0
      go_wp2
      go_roundg (xs.length - (k + 1))
      case measure => exact HK1.out
      case rel => exact ⟨k + 1, HKL.out, Nat.le_refl _, by go_num, by rw [HA4.out]; first | rfl | rw [HW4.out], CW'.out, OW'.out⟩
    · have : k = xs.length := by omega
      subst this
      have OW' := hid OW.out
      rw [List.drop_length, List.append_nil] at OW'
      go_wp2
      go_ret
      refine ⟨rfl, ?_, CW.out⟩
      show Own _ _ _ _ _ _ _ _
      rw [mkCS_length]; exact OW'.out

end Go.Proofs.YtmpdaafkphpnoaaGreat
set_option linter.unusedVariables false
set_option linter.unusedSimpArgs false
namespace Go.Proofs.YtmpdaafkphpnoaaGreat
open Go.RowKit

/-! ### Rows that are marked -/
/-- The rows' marks, from m on. -/
def mkR (m : Int) (xss : List (List Int)) : List (List Int) := (List.range xss.length).map fun k => marks (m + rtot xss k) (rw_ xss k).length
theorem mkR_length (m : Int) (xss : List (List Int)) : (mkR m xss).length = xss.length := by simp [mkR]
theorem mkR_row (m : Int) (xss : List (List Int)) {k : Nat} (h : k < xss.length) : rw_ (mkR m xss) k = marks (m + rtot xss k) (rw_ xss k).length := by
  unfold rw_ mkR; rw [List.getD_eq_getElem?_getD]; simp [h, rw_]
theorem rsz_tot {xss : List (List Int)} {k : Nat} (h : k ≤ xss.length) : rtot xss k ≤ rsz xss := by
  have := rtot_mono xss h; unfold rsz; omega
/-- The rows, the first k of them marked. -/
structure MkdR (w : World) (lo hi : Nat) (v : Value) (xss : List (List Int)) (f : Nat → Value) (m : Int) (k : Nat) : Prop where
  outer : Own w lo hi 28 1 v xss.length ((List.range xss.length).map f)
  done : ∀ j, j < k → OI w lo hi (f j) (marks (m + rtot xss j) (rw_ xss j).length)
  left : ∀ j, k ≤ j → j < xss.length → OI w lo hi (f j) (rw_ xss j)
theorem l_markInt64SSO (w : World) (lo hi : Nat) (v : Value) (xss : List (List Int)) (m : Int) (h0 : 0 ≤ m) (h1 : m + rsz xss ≤ 9223372036854775807) (hO : OR w lo hi v xss) :
    Calls Tryz.prog 37 #[v, .int .i64 m] w fun e w' => e = .returned (.int .i64 (m + rtot xss xss.length)) ∧ OR w' lo hi v (mkR m xss) ∧ Chg lo hi w w' := by
  obtain ⟨f, ho, hr, ha1, ha2⟩ := hO
  have hlen : xss.length ≤ rsz xss := by unfold rsz; omega
  have hT : ∀ k, k ≤ xss.length → (rtot xss k : Int) ≤ rsz xss := fun k hk => by have := rsz_tot hk; omega
  have HT := hid hT
  have HA1 := hid ha1
  have HA2 := hid ha2
  have HI : Hid (MkdR w lo hi v xss f m 0) := hid ⟨ho, fun j hj => absurd hj (Nat.not_lt_zero _), fun j _ hj => hr j hj⟩
  obtain ⟨A, c, rfl, hc1, hc2, _⟩ := ho.shape
  clear ho hr ha1 ha2 hT
  go_enter Tryz.func37, Tryz.ntmps37
  go_wp2
  go_loopg [1, 5] xss.length (fun gg mk s wr => ∃ k : Nat, k ≤ xss.length ∧ xss.length - k ≤ gg ∧ s = .int .i64 k ∧ mk = .int .i64 (m + rtot xss k) ∧ Aside (Chg lo hi w wr) ∧ Aside (MkdR wr lo hi (.slice A xss.length c) xss f m k))
  case atStart => exact ⟨0, Nat.zero_le _, by omega, rfl, by simp [rtot], Chg.refl _ _ _, HI.out⟩
  case round =>
    obtain ⟨k, hk, hg, rfl, rfl, CW, OW⟩ := hrel
    clear HI
    by_cases hlt : k < xss.length
    · have hlt' : (k : Int) < (xss.length : Int) := by omega
      obtain ⟨A', c', e', _, _, hs⟩ := OW.out.outer.shape
      obtain ⟨rfl, rfl⟩ : A' = A ∧ c' = c := by cases e'; exact ⟨rfl, rfl⟩
      rcases hs with ⟨_, hz⟩ | ⟨g, rfl, hlo, hhi, hcells, _⟩
      · omega
      have hck := hcells k (f k) (by simp [hlt])
      have hrow := OW.out.left k (Nat.le_refl _) hlt
      obtain ⟨Ar, cr, efk, _, _, _⟩ := hrow.shp
      have hst : rtot xss (k + 1) = rtot xss k + (rw_ xss k).length := rfl
      have hb1 := HT.out (k + 1) (by omega)
      have hb0 := HT.out k (by omega)
      have hcall : Hid (Calls Tryz.prog 88 #[f k, .int .i64 (m + rtot xss k)] wr fun e w' => e = .returned (.int .i64 (m + rtot xss k + (rw_ xss k).length)) ∧ Chg lo hi wr w' ∧ MkdR w' lo hi (.slice (some ⟨g, 0, none⟩) xss.length c') xss f m (k + 1)) := hid (by
        cases hob : (f k).ownBlock with
        | none =>
          have hnar : OI wr lo lo (f k) (rw_ xss k) := ⟨hrow.1, fun a ha => by rw [hob] at ha; cases ha⟩
          refine (l_markInt64SO wr lo lo (f k) (rw_ xss k) (m + rtot xss k) (by omega) (by omega) hnar).mono ?_
          rintro e w' ⟨rfl, ho, hC⟩
          have hq : ∀ j, j < wr.heap.size → w'.heap[j]? = wr.heap[j]? := fun j hj => hC.block j hj (by omega)
          refine ⟨rfl, hC.wide (Nat.le_refl _) (by omega), ?_, ?_, ?_⟩
          · exact own_blk OW.out.outer fun j hj => hq j (own_at OW.out.outer hj).2.2
          · intro j hj
            by_cases e : j = k
            · subst e; exact Own.wide ho (Nat.le_refl _) (by omega)
            · exact own_blk (OW.out.done j (by omega)) fun i hi => hq i (own_at (OW.out.done j (by omega)) hi).2.2
          · intro j h1 h2
            exact own_blk (OW.out.left j (by omega) h2) fun i hi => hq i (own_at (OW.out.left j (by omega) h2) hi).2.2
        | some a =>
          have hnar : OI wr a (a + 1) (f k) (rw_ xss k) := own_tight hrow hob
          have hat := own_at hrow hob
          refine (l_markInt64SO wr a (a + 1) (f k) (rw_ xss k) (m + rtot xss k) (by omega) (by omega) hnar).mono ?_
          rintro e w' ⟨rfl, ho, hC⟩
          have hq : ∀ j, j < wr.heap.size → j ≠ a → w'.heap[j]? = wr.heap[j]? := fun j hj hn => hC.block j hj (by omega)
          refine ⟨rfl, hC.wide (by omega) (by omega), ?_, ?_, ?_⟩
          · exact own_blk OW.out.outer fun j hj => hq j (own_at OW.out.outer hj).2.2 (HA2.out k j a hlt hj hob)
          · intro j hj
            by_cases e : j = k
            · subst e; exact Own.wide ho (by omega) (by omega)
            · exact own_blk (OW.out.done j (by omega)) fun i hi => hq i (own_at (OW.out.done j (by omega)) hi).2.2 (HA1.out j k i a (by omega) hlt hi hob)
          · intro j h1 h2
            exact own_blk (OW.out.left j (by omega) h2) fun i hi => hq i (own_at (OW.out.left j (by omega) h2) hi).2.2 (Ne.symm (HA1.out k j a i (by omega) h2 hob hi)))
      have HE : Hid (m + rtot xss k + (rw_ xss k).length = m + rtot xss (k + 1)) := hid (by omega)
      have HC := hid CW.out
      clear hcells e' OW CW hrow hst hb0 hb1 HT HA1 HA2
      rw [efk] at hck hcall
      clear efk
      generalize rtot xss k = t at *
      generalize (rw_ xss k).length = rl at *
      go_wp2_with fail
      refine hcall.out.mono ?_
      rintro e w' ⟨rfl, hC, hM⟩
      have C2 := hid (HC.out.trans hC)
      have M2 := hid hM
      clear hC hM HC hcall hck
      go_wp2_with fail
      go_roundg (xss.length - (k + 1))
      case measure => omega
      case rel => exact ⟨k + 1, by omega, by omega, by go_num, by rw [HE.out], C2.out, M2.out⟩
    · have : k = xss.length := by omega
      subst this
      have hlt' : ¬ ((xss.length : Nat) : Int) < ((xss.length : Nat) : Int) := by omega
      have HM := hid OW.out
      have HC := hid CW.out
      clear OW CW HT
      go_wp2_with fail
      go_ret
      refine ⟨rfl, ⟨f, ?_, ?_, ?_, ?_⟩, HC.out⟩
      · rw [mkR_length]; exact HM.out.outer
      · intro k hk; rw [mkR_length] at hk; rw [mkR_row m xss hk]; exact HM.out.done k hk
      · intro i j a b hij hj; rw [mkR_length] at hj; exact HA1.out i j a b hij hj
      · intro k a b hk; rw [mkR_length] at hk; exact HA2.out k a b hk
theorem l_heldInt64SSR (w : World) (A : Option Addr) (c : Nat) (xss : List (List Int)) (m : Int) (hm0 : 0 ≤ m) (hn : m + rsz xss ≤ 9223372036854775807) (hr : RdR w A (mkR m xss)) :
    Calls Tryz.prog 38 #[.slice A xss.length c, .int .i64 m] w fun e w' => e = .returned (.int .i64 (m + rtot xss xss.length)) ∧ Below w.heap.size w w' := by
  have hlen : xss.length ≤ rsz xss := by unfold rsz; omega
  have HT : Hid (∀ k, k ≤ xss.length → (rtot xss k : Int) ≤ rsz xss) := hid fun k hk => by have := rsz_tot hk; omega
  have HR := hid hr
  have HL := hid (mkR_length m xss)
  clear hr
  go_enter Tryz.func38, Tryz.ntmps38
  go_wp2
  go_loopg [1, 5] xss.length (fun gg mk s wr => ∃ k : Nat, k ≤ xss.length ∧ xss.length - k ≤ gg ∧ s = .int .i64 k ∧ mk = .int .i64 (m + rtot xss k) ∧ Aside (Below w.heap.size w wr))
  case atStart => exact ⟨0, Nat.zero_le _, by omega, rfl, by simp [rtot], Below.refl _ _⟩
  case round =>
    obtain ⟨k, hk, hg, rfl, rfl, BW⟩ := hrel
    by_cases hlt : k < xss.length
    · have hlt' : (k : Int) < (xss.length : Int) := by omega
      obtain ⟨b, off, A', c', rfl, hc, _, hrow⟩ := (HR.out.below BW.out).get (k := k) (by rw [HL.out]; exact hlt)
      rw [mkR_row m xss hlt] at hc hrow
      have hst : rtot xss (k + 1) = rtot xss k + (rw_ xss k).length := rfl
      have hb1 := HT.out (k + 1) (by omega)
      have hb0 := HT.out k (by omega)
      have hcall := l_heldInt64S wr A' c' (marks (m + rtot xss k) (rw_ xss k).length) (m + rtot xss k) (by omega) (by rw [marks_length]; omega) hrow
      have hmk := held_marks m (rw_ xss k).length (rtot xss k)
      rw [hmk, marks_length] at hcall
      rw [marks_length] at hc
      have HE : Hid (m + rtot xss k + (rw_ xss k).length = m + rtot xss (k + 1)) := hid (by omega)
      have hnn : ¬ (m + rtot xss k + (rw_ xss k).length < 0) := by omega
      have HC := hid hcall
      clear hcall hmk hst hb0 hb1 HT HR HL hrow
      generalize rtot xss k = t at *
      generalize (rw_ xss k).length = rl at *
      go_wp2_with fail
      refine HC.out.mono ?_
      rintro e w' ⟨rfl, hb'⟩
      have BW' : Aside (Below w.heap.size w w') := bthen BW.out hb'
      clear HC hc hb' BW
      go_wp2_with fail
      go_roundg (xss.length - (k + 1))
      case measure => omega
      case rel => exact ⟨k + 1, by omega, by omega, by go_num, by rw [HE.out], BW'⟩
    · have : k = xss.length := by omega
      subst this
      have hlt' : ¬ ((xss.length : Nat) : Int) < ((xss.length : Nat) : Int) := by omega
      clear HT HR HL
      go_wp2_with fail
      go_ret
      exact ⟨rfl, BW.out⟩
theorem l_heldInt64SSG (w : World) (lo hi : Nat) (v : Value) (xss : List (List Int)) (m : Int) (hm0 : 0 ≤ m) (hn : m + rsz xss ≤ 9223372036854775807) (h : OR w lo hi v (mkR m xss)) :
    Calls Tryz.prog 38 #[v, .int .i64 m] w fun e w' => e = .returned (.int .i64 (m + rtot xss xss.length)) ∧ Below w.heap.size w w' := by
  obtain ⟨A, c, rfl, _, _, hr⟩ := h.shp
  rw [mkR_length]
  exact l_heldInt64SSR w A c xss m hm0 hn hr
theorem l_heldInt64SSM (w : World) (lo hi : Nat) (v : Value) (xss : List (List Int)) (hn : rsz xss ≤ 4611686018427387904) (h : OR w lo hi v (mkR 1 xss)) :
    Calls Tryz.prog 38 #[v, .int .i64 1] w fun e w' => e = .returned (.int .i64 (1 + rtot xss xss.length)) ∧ Below w.heap.size w w' := l_heldInt64SSG w lo hi v xss 1 (by omega) (by omega) h
end Go.Proofs.YtmpdaafkphpnoaaGreat
set_option linter.unusedVariables false
set_option linter.unusedSimpArgs false
namespace Go.Proofs.YtmpdaafkphpnoaaGreat
open Go.RowKit

theorem l_markPacking (w : World) (lo hi : Nat) (v : Value) (xss : List (List Int)) (m : Int) (h0 : 0 ≤ m) (h1 : m + rsz xss ≤ 9223372036854775807) (hhi : hi ≤ w.heap.size) (hO : OR w lo hi v xss) :
    Calls Tryz.prog 36 #[.agg #[v], .int .i64 m] w fun e w' => e = .returned (.int .i64 (m + rtot xss xss.length)) ∧ Chg lo hi w w' := by
  have hb0 := ballocw w (.cells #[v] 58)
  have kb0 : (w.alloc (.cells #[v] 58)).cell? ⟨w.heap.size, 0, none⟩ = some v := cell_of_row _ _ _ _ _ _ (heap_alloc_new _ _)
  have C := hid (l_markInt64SSO (w.alloc (.cells #[v] 58)) lo hi v xss m h0 h1 (hO.eqv (Eqv.of hb0 hhi)))
  obtain ⟨A, c, rfl, _, _, _⟩ := hO.shp
  have HC := hid (Chg.of (lo := lo) (hi := hi) hb0 (Nat.le_refl _))
  clear hb0 hO h0 h1
  generalize m + ((rtot xss xss.length : Nat) : Int) = y at *
  go_enter Tryz.func36, Tryz.ntmps36
  go_wp2_with (go_at_call 37; go_loud (refine C.out.mono ?_; rintro e w1 ⟨rfl, -, hc1⟩; have HC1 := hid (HC.out.trans hc1); clear hc1))
  go_ret
  exact ⟨rfl, HC1.out⟩
end Go.Proofs.YtmpdaafkphpnoaaGreat
set_option linter.unusedVariables false
set_option linter.unusedSimpArgs false
namespace Go.Proofs.YtmpdaafkphpnoaaGreat
open Go.RowKit

theorem unS_len (cs : List SmV) (R : List (List Int)) : ∀ (f : Nat) (L : List Nat) (D : List Int) (O : List Nat), (unS cs R f L D O).1.length ≤ O.length + f := by
  intro f
  induction f with
  | zero => intro L D O; simp [unS]
  | succ f ih =>
    intro L D O
    simp only [unS]
    split
    · simp
    · refine Nat.le_trans (ih _ _ _) ?_
      simp; omega
theorem rsz_leU {xss : List (List Int)} {n m : Nat} (hl : xss.length ≤ n) (h : ∀ k, k < xss.length → (rw_ xss k).length ≤ m) : rsz xss ≤ n + n * m := by
  have : ∀ k, k ≤ xss.length → rtot xss k ≤ k * m := fun k => by
    induction k with
    | zero => intro _; simp [rtot]
    | succ k ih => intro hk; have := ih (by omega); have := h k (by omega); simp only [rtot]; rw [Nat.add_mul]; omega
  have h1 := this xss.length (Nat.le_refl _)
  have h2 : xss.length * m ≤ n * m := Nat.mul_le_mul_right m hl
  unfold rsz; omega
theorem m_UnitsOf_len (la bi : Int) (cs : List SmV) (gs : List (List Int)) : rsz (m_UnitsOf la bi cs gs).1 ≤ 1048576 := by
  unfold m_UnitsOf
  split
  · rename_i hk
    unfold m_pk at hk
    simp only [Bool.and_eq_true] at hk
    have hF := UF.of hk.1 hk.2
    have h1 := unS_len cs (tabG gs cs.length) (tabG gs cs.length).length (List.range (tabG gs cs.length).length) [] []
    have h2 := hF.len
    have hl : ((m_units cs (tabG gs cs.length)).1.map (rw_ (tabG gs cs.length))).length ≤ 32 := by
      rw [List.length_map]
      unfold m_units
      simp at h1; omega
    have := rsz_leU (xss := (m_units cs (tabG gs cs.length)).1.map (rw_ (tabG gs cs.length))) (n := 32) (m := 16) hl (fun k hk2 => by
      have := rw_mem hk2
      obtain ⟨x, _, e⟩ := List.mem_map.1 this
      rw [← e]
      by_cases hx : x < (tabG gs cs.length).length
      · exact (hF.hU x hx).2.1
      · unfold rw_
        rw [List.getD_eq_getElem?_getD, List.getElem?_eq_none (by omega)]
        simp)
    show rsz ((m_units cs (tabG gs cs.length)).1.map (rw_ (tabG gs cs.length))) ≤ _
    omega
  · simp [rsz, rtot]
theorem MPW.low {w W W' : World} {la bi : Int} {G : Option Addr} {n c B : Nat} (h : MPW w W la bi G n c) (hb : Below B W W') (hB : w.heap.size + 2 ≤ B) : MPW w W' la bi G n c :=
  ⟨h.b.trans (hb.mono (by omega)), (hb.cell (p := ⟨w.heap.size, 0, none⟩) (by show w.heap.size < B; omega)).trans h.m0, (hb.cell (p := ⟨w.heap.size, 1, none⟩) (by show w.heap.size < B; omega)).trans h.m1, (hb.cell (p := ⟨w.heap.size + 1, 0, none⟩) (by show w.heap.size + 1 < B; omega)).trans h.p0⟩
theorem MPW.two {w W : World} {la bi : Int} {G : Option Addr} {n c : Nat} (h : MPW w W la bi G n c) : w.heap.size + 2 ≤ W.heap.size := World.block_lt_of_cell? W _ h.p0
/-- All that the law keeps. -/
structure SX (w W : World) (la bi : Int) (G : Option Addr) (c' : Nat) (gs xs : List (List Int)) (cs : List SmV) (z5 z6 z7 z8 z10 z11 : Nat) (v7 v6 v11 : Value) (A8 : Option Addr) (c8 : Nat) : Prop where
  h : MPW w W la bi G gs.length c'
  j : W.cell? ⟨z8, 0, none⟩ = some (.slice A8 gs.length c8)
  o : OC W z6 z7 v7 cs
  p : OR W z7 z8 (.slice A8 gs.length c8) gs
  u : OR W z5 z6 v6 xs
  g : OR W z10 z11 v11 xs
  y6 : z6 ≤ z11
  y7 : z7 ≤ z11
  y8 : z8 ≤ z11
  z : z11 ≤ W.heap.size
theorem SX.below {w W W' : World} {la bi : Int} {G : Option Addr} {c' : Nat} {gs xs : List (List Int)} {cs : List SmV} {z5 z6 z7 z8 z10 z11 : Nat} {v7 v6 v11 : Value} {A8 : Option Addr} {c8 : Nat} (h : SX w W la bi G c' gs xs cs z5 z6 z7 z8 z10 z11 v7 v6 v11 A8 c8) (hb : Below W.heap.size W W') : SX w W' la bi G c' gs xs cs z5 z6 z7 z8 z10 z11 v7 v6 v11 A8 c8 :=
  ⟨h.h.below hb, bcell hb h.j, h.o.eqv (Eqv.of hb (Nat.le_trans h.y7 h.z)), h.p.eqv (Eqv.of hb (Nat.le_trans h.y8 h.z)), h.u.eqv (Eqv.of hb (Nat.le_trans h.y6 h.z)), h.g.eqv (Eqv.of hb h.z), h.y6, h.y7, h.y8, Nat.le_trans h.z hb.size⟩
/-- .. when the statements are marked; the groups; the results. -/
structure SY (w W : World) (la bi : Int) (G : Option Addr) (c' : Nat) (gs xs : List (List Int)) (z5 z6 z7 z8 z10 z11 : Nat) (v6 v11 : Value) (A8 : Option Addr) (c8 : Nat) : Prop where
  h : MPW w W la bi G gs.length c'
  j : W.cell? ⟨z8, 0, none⟩ = some (.slice A8 gs.length c8)
  p : OR W z7 z8 (.slice A8 gs.length c8) gs
  u : OR W z5 z6 v6 xs
  g : OR W z10 z11 v11 xs
  y6 : z6 ≤ z11
  y8 : z8 ≤ z11
  z : z11 ≤ W.heap.size
structure SZ (w W : World) (la bi : Int) (G : Option Addr) (c' : Nat) (gs xs : List (List Int)) (z5 z6 z10 z11 : Nat) (v6 v11 : Value) : Prop where
  h : MPW w W la bi G gs.length c'
  u : OR W z5 z6 v6 xs
  g : OR W z10 z11 v11 xs
  y6 : z6 ≤ z11
  z : z11 ≤ W.heap.size
structure ST (w W : World) (la bi : Int) (G : Option Addr) (c' : Nat) (gs xs : List (List Int)) (z5 z6 z11 : Nat) (v6 : Value) : Prop where
  h : MPW w W la bi G gs.length c'
  u : OR W z5 z6 v6 xs
  y6 : z6 ≤ z11
  z : z11 ≤ W.heap.size
theorem SZ.below {w W W' : World} {la bi : Int} {G : Option Addr} {c' : Nat} {gs xs : List (List Int)} {z5 z6 z10 z11 : Nat} {v6 v11 : Value} (h : SZ w W la bi G c' gs xs z5 z6 z10 z11 v6 v11) (hb : Below W.heap.size W W') : SZ w W' la bi G c' gs xs z5 z6 z10 z11 v6 v11 :=
  ⟨h.h.below hb, h.u.eqv (Eqv.of hb (Nat.le_trans h.y6 h.z)), h.g.eqv (Eqv.of hb h.z), h.y6, Nat.le_trans h.z hb.size⟩
theorem ST.below {w W W' : World} {la bi : Int} {G : Option Addr} {c' : Nat} {gs xs : List (List Int)} {z5 z6 z11 : Nat} {v6 : Value} (h : ST w W la bi G c' gs xs z5 z6 z11 v6) (hb : Below W.heap.size W W') : ST w W' la bi G c' gs xs z5 z6 z11 v6 :=
  ⟨h.h.below hb, h.u.eqv (Eqv.of hb (Nat.le_trans h.y6 h.z)), h.y6, Nat.le_trans h.z hb.size⟩
theorem SX.chg1 {w W W' : World} {la bi : Int} {G : Option Addr} {c' : Nat} {gs xs : List (List Int)} {cs : List SmV} {z5 z6 z7 z8 z10 z11 : Nat} {v7 v6 v11 : Value} {A8 : Option Addr} {c8 : Nat} (h : SX w W la bi G c' gs xs cs z5 z6 z7 z8 z10 z11 v7 v6 v11 A8 c8) (hc : Chg z6 z7 W W')
    (h6 : w.heap.size + 2 ≤ z6) (h67 : z6 ≤ z7) (h78 : z7 ≤ z8) (h810 : z8 ≤ z10) (h1011 : z10 ≤ z11) : SY w W' la bi G c' gs xs z5 z6 z7 z8 z10 z11 v6 v11 A8 c8 := by
  have hz := h.z
  have hj : W'.cell? ⟨z8, 0, none⟩ = some (.slice A8 gs.length c8) := (World.cell?_of_block (a := ⟨z8, 0, none⟩) (hc.block z8 (World.block_lt_of_cell? W _ h.j) (.inr h78))).trans h.j
  exact ⟨h.h.low (hc.below (B := w.heap.size + 2) h6 (by omega)) (Nat.le_refl _), hj, h.p.eqv (hc.eqv (.inr (Nat.le_refl _)) (by omega)), h.u.eqv (hc.eqv (.inl (Nat.le_refl _)) (by omega)), h.g.eqv (hc.eqv (.inr (by omega)) (by omega)), h.y6, h.y8, Nat.le_trans h.z hc.size⟩
theorem SY.chg2 {w W W' : World} {la bi : Int} {G : Option Addr} {c' : Nat} {gs xs : List (List Int)} {z5 z6 z7 z8 z10 z11 : Nat} {v6 v11 : Value} {A8 : Option Addr} {c8 : Nat} (h : SY w W la bi G c' gs xs z5 z6 z7 z8 z10 z11 v6 v11 A8 c8) (hc : Chg z7 z8 W W')
    (h6 : w.heap.size + 2 ≤ z6) (h67 : z6 ≤ z7) (h78 : z7 ≤ z8) (h810 : z8 ≤ z10) (h1011 : z10 ≤ z11) : SZ w W' la bi G c' gs xs z5 z6 z10 z11 v6 v11 := by
  have hz := h.z
  exact ⟨h.h.low (hc.below (B := w.heap.size + 2) (by omega) (by omega)) (Nat.le_refl _), h.u.eqv (hc.eqv (.inl h67) (by omega)), h.g.eqv (hc.eqv (.inr h810) (by omega)), h.y6, Nat.le_trans h.z hc.size⟩
theorem SZ.chg3 {w W W' : World} {la bi : Int} {G : Option Addr} {c' : Nat} {gs xs : List (List Int)} {z5 z6 z7 z8 z10 z11 : Nat} {v6 v11 : Value} (h : SZ w W la bi G c' gs xs z5 z6 z10 z11 v6 v11) (hc : Chg z10 z11 W W')
    (h6 : w.heap.size + 2 ≤ z6) (h67 : z6 ≤ z7) (h78 : z7 ≤ z8) (h810 : z8 ≤ z10) (h1011 : z10 ≤ z11) : ST w W' la bi G c' gs xs z5 z6 z11 v6 := by
  have hz := h.z
  exact ⟨h.h.low (hc.below (B := w.heap.size + 2) (by omega) (by omega)) (Nat.le_refl _), h.u.eqv (hc.eqv (.inl (by omega)) (by omega)), h.y6, Nat.le_trans h.z hc.size⟩
set_option maxRecDepth 100000 in
set_option maxHeartbeats 2000000 in
theorem law_UnitsOf (w : World) (la bi : Int) (A : Option Addr) (c : Nat) (cs : List SmV) (G : Option Addr) (c' : Nat) (gs : List (List Int)) (hl : cs.length ≤ 9223372036854775807) (hR : RdC w A cs) (hl' : BigR gs) (hG : RdR w G gs) :
    Calls Tryz.prog 7 #[.agg #[.int .i64 la, .int .i64 bi], .slice A cs.length c, .agg #[.slice G gs.length c']] w fun e w' => e = .returned (.bool true) ∧ Below w.heap.size w w' := by
  have H0 := hid (MPW.madeL w la bi G gs.length c')
  have p0 := H0.out.p0
  have ssz := fun W (hW : Below w.heap.size w W) => l_szStmtSO W A c cs 1048576 hl (by omega) (by omega) (hR.below hW)
  by_cases big : (1048576 : Int) < (cs.length : Nat)
  · simp only [szR, if_pos big] at ssz
    have C := hid ssz
    clear ssz big hR hG hl hl'
    go_enter Tryz.func7, Tryz.ntmps7
    go_wp2_with (go_at_call 23; go_loud (refine (C.out _ H0.out.b).mono ?_; rintro e w1 ⟨rfl, hb1⟩; have H1 := hid (H0.out.below hb1); clear hb1))
    go_ret
    exact ⟨rfl, H1.out.b⟩
  · have hs : cs.length ≤ 1048576 := by omega
    simp only [szR, if_neg big] at ssz
    have hx : ¬ (1048576 : Int) - (cs.length : Nat) < 0 := by omega
    have C := hid ssz
    have szp := fun W (hW : Below w.heap.size w W) => l_szPacking W G c' gs ((1048576 : Int) - (cs.length : Nat)) hl' (by omega) (by omega) (hG.below hW)
    by_cases big2 : (1048576 : Int) - (cs.length : Nat) < (rsz gs : Nat)
    · simp only [szR, if_pos big2] at szp
      have C2 := hid szp
      clear ssz szp big big2 hR hG hl hl' hs
      generalize (1048576 : Int) - ((cs.length : Nat) : Int) = x at *
      go_enter Tryz.func7, Tryz.ntmps7
      go_wp2_with (first
        | (go_at_call 23; go_loud (refine (C.out _ H0.out.b).mono ?_; rintro e w1 ⟨rfl, hb1⟩; have H1 := hid (H0.out.below hb1); have p1 := H1.out.p0; clear hb1))
        | (go_at_call 24; go_loud (refine (C2.out _ H1.out.b).mono ?_; rintro e w2 ⟨rfl, hb2⟩; have H2 := hid (H1.out.below hb2); clear hb2)))
      go_ret
      exact ⟨rfl, H2.out.b⟩
    · simp only [szR, if_neg big2] at szp
      have hx2 : ¬ (1048576 : Int) - (cs.length : Nat) - (rsz gs : Nat) < 0 := by omega
      have C2 := hid szp
      have hs2 : rsz gs ≤ 1048576 := by omega
      have CM := hid (fun W => l_toMachine W la bi)
      have CTc := hid (fun W (hW : Below w.heap.size w W) => l_toStmtSO W A c cs hs (hR.below hW))
      have CTp := hid (fun W (hW : Below w.heap.size w W) => l_toPackingO W G c' gs hs2 (hG.below hW))
      have hxs := m_UnitsOf_len la bi cs gs
      have CS := hid (fun W A' d' G' e' (h1 : RdC W A' cs) (h2 : RdR W G' gs) => s_UnitsOf W la bi A' G' d' e' cs gs hs hs2 h1 h2)
      have CI := hid (fun W A' d' G' e' (h1 : RdC W A' cs) (h2 : RdR W G' gs) => i_UnitsOf W la bi A' G' d' e' cs gs hs hs2 h1 h2)
      have CE := hid (fun W lo hi lo' hi' v v' (h1 : OC W lo hi v cs) (h2 : OC W lo' hi' v' cs) => l_eqStmtSO W lo hi lo' hi' v v' cs cs hs hs h1 h2)
      have CF := hid (fun W lo hi lo' hi' v v' (h1 : OR W lo hi v gs) (h2 : OR W lo' hi' v' gs) h3 h4 => l_eqPacking W lo hi lo' hi' v v' gs gs hs2 hs2 h1 h2 h3 h4)
      generalize (m_UnitsOf la bi cs gs).1 = xs at *
      generalize (m_UnitsOf la bi cs gs).2 = b at *
      have CX := hid (fun W lo hi lo' hi' v v' (h1 : OR W lo hi v xs) (h2 : OR W lo' hi' v' xs) => l_eqInt64SSO W lo hi lo' hi' v v' xs xs hxs hxs h1 h2)
      have K1 := hid (fun W lo hi v (h : OC W lo hi v cs) => l_markStmtSO W lo hi v cs 1 (by omega) (by omega) h)
      have hrg : rtot gs gs.length ≤ rsz gs := by unfold rsz; omega
      have hrx : rtot xs xs.length ≤ rsz xs := by unfold rsz; omega
      have K2 := hid (fun W lo hi v h3 (h : OR W lo hi v gs) => l_markPacking W lo hi v gs (1 + 4 * (cs.length : Nat)) (by omega) (by omega) h3 h)
      have K3 := hid (fun W lo hi v (h : OR W lo hi v xs) => l_markInt64SSO W lo hi v xs 1 (by omega) (by omega) h)
      have K4 := hid (fun W lo hi v (h : OR W lo hi v (mkR 1 xs)) => l_heldInt64SSM W lo hi v xs (by omega) h)
      have hy0 : ¬ 1 + 4 * (cs.length : Int) + (rtot gs gs.length : Int) < 0 := by omega
      have hr0 : ¬ 1 + (rtot xs xs.length : Int) < 0 := by omega
      rw [decide_eq_true rfl] at CE CF CX
      clear ssz szp big big2 hR hG hl hl' hs hs2 hrg hrx hxs
      generalize 1 + 4 * ((cs.length : Nat) : Int) = ya at *
      generalize ya + ((rtot gs gs.length : Nat) : Int) = yb at *
      generalize 1 + ((rtot xs xs.length : Nat) : Int) = yr at *
      generalize (1048576 : Int) - ((cs.length : Nat) : Int) = x at *
      generalize x - ((rsz gs : Nat) : Int) = y at *
      go_enter Tryz.func7, Tryz.ntmps7
      go_wp2_with fail
      refine (C.out _ H0.out.b).mono ?_
      rintro e w1 ⟨rfl, hb1⟩
      have H1 := hid (H0.out.below hb1)
      have p1 := H1.out.p0
      clear hb1 p0 H0 C
      go_wp2_with fail
      refine (C2.out _ H1.out.b).mono ?_
      rintro e w2 ⟨rfl, hb2⟩
      have H2 := hid ((H1.out.below hb2).below (bdrewP w2))
      clear hb2 p1 H1 C2
      go_wp2_with fail
      go_region_held3 (fun W => W.cell? ⟨w.heap.size, 0, none⟩ = some (.int .i64 la) ∧ W.cell? ⟨w.heap.size, 1, none⟩ = some (.int .i64 bi) ∧ W.cell? ⟨w.heap.size + 1, 0, none⟩ = some (.slice G gs.length c'))
        (first | exact H2.out.s | exact H3.out.s | exact H4.out.s | exact H5.out.s | exact H6.out.s)
        (first
          | (go_at_call 26; refine (CM.out _).mono ?_; rintro e w3 ⟨rfl, hb3⟩; have H3 := hid (H2.out.below hb3); clear hb3)
          | (go_at_call 27; refine (CTc.out _ H3.out.b).mono ?_; rintro e w4 ⟨v4, rfl, o4, hb4⟩; obtain ⟨A4, c4, rfl, _, _, r4⟩ := o4.shp; have H4 := hid (H3.out.below hb4); have R4 := hid r4; clear hb4 r4 o4)
          | (go_at_call 28; refine (CTp.out _ H4.out.b).mono ?_; rintro e w5 ⟨v5, rfl, o5, hb5⟩; obtain ⟨A5, c5, rfl, _, _, r5⟩ := o5.shp; have H5 := hid (H4.out.below hb5); have R45 := hid (RdC.below R4.out hb5); have R5 := hid r5; clear hb5 r5 o5)
          | (go_at_call 32; refine (CS.out _ _ _ _ _ R45.out R5.out).mono ?_; rintro e w6 ⟨v6, rfl, o6, hb6⟩; obtain ⟨A6, c6, rfl, _, _, _⟩ := o6.shp; have H6 := hid (H5.out.below hb6); have U6 := hid o6; have Z56 := hid hb6.size; have Y6 := hid (Nat.le_trans H5.out.two hb6.size); have Y5 := hid H5.out.two; clear hb6 o6))
      clear R45 R5 R4 H2 H3 H4 H5 CS
      go_wp2_with fail
      refine (CTc.out _ H6.out.b).mono ?_
      rintro e w7 ⟨v7, rfl, o7, hb7⟩
      obtain ⟨A7, c7, rfl, _, _, _⟩ := o7.shp
      have H7 := hid (H6.out.below hb7)
      have p7 := H7.out.p0
      have O7 := hid o7
      have U7 := hid (OR.eqv U6.out (Eqv.of hb7 (Nat.le_refl _)))
      have Z67 := hid hb7.size
      clear hb7 o7 H6 U6
      go_wp2_with fail
      refine (CTp.out _ H7.out.b).mono ?_
      rintro e w8 ⟨v8, rfl, o8, hb8⟩
      obtain ⟨A8, c8, rfl, _, _, _⟩ := o8.shp
      have hb9 := ballocw w8 (.cells #[.slice A8 gs.length c8] 58)
      have j9 : (w8.alloc (.cells #[.slice A8 gs.length c8] 58)).cell? ⟨w8.heap.size, 0, none⟩ = some (.slice A8 gs.length c8) := cell_of_row _ _ _ _ _ _ (heap_alloc_new w8 _)
      have h9 := (H7.out.below hb8).below hb9
      have Z78 := hid hb8.size
      have O9 := hid (O7.out.eqv (Eqv.of (bthen hb8 hb9) (Nat.le_refl _)))
      have P9 := hid (o8.eqv (Eqv.of hb9 (Nat.le_refl _)))
      have U9 := hid (OR.eqv U7.out (Eqv.of (bthen hb8 hb9) Z67.out))
      have M9 := hid hb9.size
      have H9 := hid (h9.below (bdrewP (w8.alloc (.cells #[.slice A8 gs.length c8] 58))))
      have J9 := hid (show (w8.alloc (.cells #[.slice A8 gs.length c8] 58)).drew.cell? ⟨w8.heap.size, 0, none⟩ = some (.slice A8 gs.length c8) from j9)
      clear hb8 o8 O7 U7 h9 hb9
      go_wp2_with fail
      clear p7 j9 H7
      go_region_held3 (fun W => (W.cell? ⟨w.heap.size, 0, none⟩ = some (.int .i64 la) ∧ W.cell? ⟨w.heap.size, 1, none⟩ = some (.int .i64 bi) ∧ W.cell? ⟨w.heap.size + 1, 0, none⟩ = some (.slice G gs.length c')) ∧ W.cell? ⟨w8.heap.size, 0, none⟩ = some (.slice A8 gs.length c8))
        (first | exact ⟨H9.out.s, J9.out⟩ | exact ⟨H10.out.s, J10.out⟩ | exact ⟨H11.out.s, J11.out⟩)
        (first
          | (go_at_call 26; refine (CM.out _).mono ?_; rintro e w10 ⟨rfl, hb10⟩; have H10 := hid (H9.out.below hb10); have J10 := hid (bcell hb10 J9.out); have Z910 := hid (Nat.le_trans M9.out hb10.size); have O10 := hid (OC.eqv O9.out (Eqv.of (bthen (bdrewP _) hb10) (Nat.le_trans Z78.out M9.out))); have P10 := hid (OR.eqv P9.out (Eqv.of (bthen (bdrewP _) hb10) M9.out)); have U10 := hid (OR.eqv U9.out (Eqv.of (bthen (bdrewP _) hb10) (Nat.le_trans Z67.out (Nat.le_trans Z78.out M9.out)))); clear hb10)
          | (go_at_call 33; refine (CI.out _ _ _ _ _ O10.out.rd P10.out.rd).mono ?_; rintro e w11 ⟨v11, rfl, o11, hb11⟩; obtain ⟨A11, c11, rfl, _, _, _⟩ := o11.shp; have H11 := hid (H10.out.below hb11); have J11 := hid (bcell hb11 J10.out); have Z1011 := hid hb11.size; have O11 := hid (OC.eqv O10.out (Eqv.of hb11 (Nat.le_trans Z78.out Z910.out))); have P11 := hid (OR.eqv P10.out (Eqv.of hb11 Z910.out)); have U11 := hid (OR.eqv U10.out (Eqv.of hb11 (Nat.le_trans Z67.out (Nat.le_trans Z78.out Z910.out)))); have G11 := hid o11; clear hb11 o11))
      clear H9 H10 J9 J10 O9 O10 P9 P10 U9 U10 M9
      have Z6 := hid (Nat.le_trans Z67.out (Nat.le_trans Z78.out (Nat.le_trans Z910.out Z1011.out)))
      have Z7 := hid (Nat.le_trans Z78.out (Nat.le_trans Z910.out Z1011.out))
      have Z8 := hid (Nat.le_trans Z910.out Z1011.out)
      go_wp2_with (go_at_call 34; go_loud (refine (CX.out _ _ _ _ _ _ _ G11.out U11.out).mono ?_; rintro e w12 ⟨rfl, hb12⟩; have SX := hid (SX.mk H11.out J11.out O11.out P11.out U11.out G11.out Z6.out Z7.out Z8.out (Nat.le_refl _)); have S12 := hid (SX.out.below hb12); clear hb12 SX))
      refine (CTc.out _ S12.out.h.b).mono ?_
      rintro e w13 ⟨v13, rfl, o13, hb13⟩
      obtain ⟨A13, c13, rfl, _, _, _⟩ := o13.shp
      have S13 := hid (S12.out.below hb13)
      have Q13 := hid o13
      clear hb13 o13 S12 H11 J11 O11 P11 U11 G11
      go_wp2_with fail
      refine (CE.out _ _ _ _ _ _ _ S13.out.o Q13.out).mono ?_
      rintro e w14 ⟨rfl, hb14⟩
      have S14 := hid ((S13.out.below hb14).below (bdrewP w14))
      clear hb14 S13 Q13
      go_wp2_with fail
      go_region_held3 (fun W => (W.cell? ⟨w.heap.size, 0, none⟩ = some (.int .i64 la) ∧ W.cell? ⟨w.heap.size, 1, none⟩ = some (.int .i64 bi) ∧ W.cell? ⟨w.heap.size + 1, 0, none⟩ = some (.slice G gs.length c')) ∧ W.cell? ⟨w8.heap.size, 0, none⟩ = some (.slice A8 gs.length c8))
        (first | exact ⟨S14.out.h.s, S14.out.j⟩ | exact ⟨S15.out.h.s, S15.out.j⟩ | exact ⟨S16.out.h.s, S16.out.j⟩)
        (first
          | (go_at_call 28; refine (CTp.out _ S14.out.h.b).mono ?_; rintro e w15 ⟨v15, rfl, o15, hb15⟩; have S15 := hid (S14.out.below hb15); have Q15 := hid o15; clear hb15 o15)
          | (go_at_call 31; refine (CF.out _ _ _ _ _ _ _ S15.out.p Q15.out (Nat.le_trans Z8.out S15.out.z) (Nat.le_refl _)).mono ?_; rintro e w16 ⟨rfl, hb16⟩; have S16 := hid (S15.out.below hb16); clear hb16))
      clear S14 S15 Q15
      go_wp2_with fail
      refine (K1.out _ _ _ _ S16.out.o).mono ?_
      rintro e w17 ⟨rfl, -, hc17⟩
      have S17 := hid (S16.out.chg1 hc17 Y6.out Z67.out Z78.out Z910.out Z1011.out)
      have j17 := S17.out.j
      clear hc17 S16
      go_wp2_with fail
      refine (K2.out _ _ _ _ (Nat.le_trans Z8.out S17.out.z) S17.out.p).mono ?_
      rintro e w18 ⟨rfl, hc18⟩
      have S18 := hid (S17.out.chg2 hc18 Y6.out Z67.out Z78.out Z910.out Z1011.out)
      clear hc18 S17 j17
      go_wp2_with (go_at_call 34; go_loud (refine (CX.out _ _ _ _ _ _ _ S18.out.g S18.out.u).mono ?_; rintro e w19 ⟨rfl, hb19⟩; have S19 := hid (S18.out.below hb19); clear hb19))
      refine (K3.out _ _ _ _ S19.out.g).mono ?_
      rintro e w20 ⟨rfl, g20, hc20⟩
      have T20 := hid (S19.out.chg3 hc20 Y6.out Z67.out Z78.out Z910.out Z1011.out)
      have G20 := hid g20
      clear hc20 g20 S18 S19
      go_wp2_with fail
      refine (K4.out _ _ _ _ G20.out).mono ?_
      rintro e w21 ⟨rfl, hb21⟩
      have T21 := hid ((T20.out.below hb21).below (bdrewP w21))
      have G21 := hid (OR.eqv G20.out (Eqv.of (bthen hb21 (bdrewP w21)) T20.out.z))
      clear hb21 G20 T20
      go_wp2_with fail
      go_region_held3 (fun W => W.cell? ⟨w.heap.size, 0, none⟩ = some (.int .i64 la) ∧ W.cell? ⟨w.heap.size, 1, none⟩ = some (.int .i64 bi) ∧ W.cell? ⟨w.heap.size + 1, 0, none⟩ = some (.slice G gs.length c'))
        (first | exact T21.out.h.s | exact T22.out.h.s | exact T23.out.h.s | exact T24.out.h.s | exact T25.out.h.s)
        (first
          | (go_at_call 26; refine (CM.out _).mono ?_; rintro e w22 ⟨rfl, hb22⟩; have T22 := hid (T21.out.below hb22); have G22 := hid (OR.eqv G21.out (Eqv.of hb22 T21.out.z)); clear hb22)
          | (go_at_call 27; refine (CTc.out _ T22.out.h.b).mono ?_; rintro e w23 ⟨v23, rfl, o23, hb23⟩; obtain ⟨A23, c23, rfl, _, _, r23⟩ := o23.shp; have T23 := hid (T22.out.below hb23); have G23 := hid (OR.eqv G22.out (Eqv.of hb23 T22.out.z)); have R23 := hid r23; clear hb23 r23 o23)
          | (go_at_call 28; refine (CTp.out _ T23.out.h.b).mono ?_; rintro e w24 ⟨v24, rfl, o24, hb24⟩; obtain ⟨A24, c24, rfl, _, _, r24⟩ := o24.shp; have T24 := hid (T23.out.below hb24); have G24 := hid (OR.eqv G23.out (Eqv.of hb24 T23.out.z)); have R234 := hid (RdC.below R23.out hb24); have R24 := hid r24; clear hb24 r24 o24)
          | (go_at_call 33; refine (CI.out _ _ _ _ _ R234.out R24.out).mono ?_; rintro e w25 ⟨v25, rfl, o25, hb25⟩; obtain ⟨A25, c25, rfl, _, _, _⟩ := o25.shp; have T25 := hid (T24.out.below hb25); have G25 := hid (OR.eqv G24.out (Eqv.of hb25 T24.out.z)); have V25 := hid o25; clear hb25 o25))
      clear T21 T22 T23 T24 G21 G22 G23 G24 R23 R234 R24
      go_wp2_with (go_at_call 34; go_loud (refine (CX.out _ _ _ _ _ _ _ V25.out T25.out.u).mono ?_; rintro e w26 ⟨rfl, hb26⟩; have T26 := hid (T25.out.below hb26); have G26 := hid (OR.eqv G25.out (Eqv.of hb26 T25.out.z)); clear hb26))
      refine (K4.out _ _ _ _ G26.out).mono ?_
      rintro e w27 ⟨rfl, hb27⟩
      have T27 := hid (T26.out.below hb27)
      clear hb27
      go_wp2_with fail
      go_ret
      exact ⟨rfl, T27.out.h.b⟩
end Go.Proofs.YtmpdaafkphpnoaaGreat
set_option linter.unusedVariables false
set_option linter.unusedSimpArgs false
namespace Go.Proofs.YtmpdaafkphpnoaaGreat
open Go.ChangeShapes Go.WideShapes Go.ChangeAt Go.RowKit
theorem own : ownKnob Tryz.prog.godebug = none := by kernel_rfl
theorem laidOut : laidOutB Tryz.prog = true := by kernel_rfl
theorem cellsInt : Tryz.prog.cellsOf 2 = 1 := by kernel_rfl
set_option maxRecDepth 100000 in
theorem open_I {H : Type} {enc : TypeId × Value → H} {W : World} {base : Nat} {v : Value} {d : DataW H} {p : List MemPlace}
    (hv : Value.okWide Tryz.prog W .any base 28 v) (h : DataW.Trod enc Tryz.prog W 0 (fun _ => true) true 28 v d p) :
    ∃ (A : Option Addr) (c : Nat) (xs : List Int), v = .slice A xs.length c ∧ xs.length ≤ 9223372036854775807 ∧ RdI W A xs := by
  obtain ⟨a, len, cap, rfl⟩ := okWide_slice Tryz.underlying28 hv
  obtain ⟨fuel, hf⟩ := h
  rcases open_ints Tryz.underlying28 Tryz.underlying2 cellsInt hf with ⟨hcs, _⟩ | ⟨x, l, c, zs, hcs, _, hl, hm, hz, _, hcell, _⟩
  · simp [Value.cells] at hcs
    obtain ⟨rfl, rfl, rfl⟩ := hcs
    exact ⟨none, 0, [], rfl, by simp, fun k hk => absurd hk (Nat.not_lt_zero _)⟩
  · simp [Value.cells] at hcs
    obtain ⟨rfl, rfl, rfl⟩ := hcs
    simp only [if_true] at hz
    have hlen : (zs.take len).length = len := by rw [List.length_take]; omega
    refine ⟨some x, cap, zs.take len, by rw [hlen], by rw [hlen]; simp only [maxLen] at hm; omega, ?_⟩
    intro k hk
    rw [hlen] at hk
    have hc := hcell k (by omega)
    have he : el (zs.take len) k = zs.getD k 0 := by
      unfold el; rw [List.getD_eq_getElem?_getD, List.getD_eq_getElem?_getD, List.getElem?_take_of_lt hk]
    have hs : x.spot = none := by
      have hc0 := hcell 0 (by omega)
      cases hx : x.spot with
      | none => rfl
      | some s =>
        rw [show x.add 0 = x from rfl] at hc0
        simp only [World.cell?] at hc0
        split at hc0
        · rw [if_pos (by rw [hx]; rfl)] at hc0; cases hc0
        · cases hc0
    obtain ⟨b, off, s⟩ := x
    obtain rfl : s = none := hs
    refine ⟨b, off, rfl, ?_⟩
    show W.cell? _ = some (.int .i64 (el (List.take len zs) k))
    rw [he, ← hc]
    congr 1
    unfold Addr.add
    split
    · rename_i h; subst h; rfl
    · rfl
end Go.Proofs.YtmpdaafkphpnoaaGreat
set_option linter.unusedVariables false
set_option linter.unusedSimpArgs false
namespace Go.Proofs.YtmpdaafkphpnoaaGreat
open Go.ChangeShapes Go.WideShapes Go.ChangeAt Go.RowKit
theorem flat_addrC {W : World} {x : Addr} {v : Value} (h : W.cell? x = some v) : x.spot = none := by
  cases hx : x.spot with
  | none => rfl
  | some s =>
    simp only [World.cell?] at h
    split at h
    · rw [if_pos (by rw [hx]; rfl)] at h; cases h
    · cases h
set_option maxRecDepth 100000 in
theorem open_C {H : Type} {enc : TypeId × Value → H} {W : World} {base : Nat} {v : Value} {d : DataW H} {p : List MemPlace}
    (hv : Value.okWide Tryz.prog W .any base 49 v) (h : DataW.Trod enc Tryz.prog W 0 (fun _ => true) true 49 v d p) :
    ∃ (A : Option Addr) (c : Nat) (xs : List SmV), v = .slice A xs.length c ∧ xs.length ≤ 9223372036854775807 ∧ RdC W A xs := by
  obtain ⟨a, len, cap, rfl⟩ := okWide_slice Tryz.underlying49 hv
  obtain ⟨fuel, hf⟩ := h
  rcases Deep.open_slice Tryz.underlying49 hf with ⟨hcs, _⟩ | ⟨x, l, c, m, n, D, Pl, hcs, _, hl, hm, hmm, _, hx⟩
  · simp [Value.cells] at hcs
    obtain ⟨rfl, rfl, rfl⟩ := hcs
    exact ⟨none, 0, [], rfl, by simp, fun k hk => absurd hk (Nat.not_lt_zero _)⟩
  · simp [Value.cells] at hcs
    obtain ⟨rfl, rfl, rfl⟩ := hcs
    simp only [if_true] at hmm
    have hmm' := hmm.symm
    subst hmm'
    have ce : Tryz.prog.cellsOf 111 = 4 := by kernel_rfl
    have each : ∀ i, i < cap → ∃ q : SmV, W.cell? (x.add (i * 4)) = some (.int .i64 q.o) ∧ W.cell? (x.add (i * 4 + 1)) = some (.int .i64 q.d) ∧ W.cell? (x.add (i * 4 + 2)) = some (.int .i64 q.a) ∧ W.cell? (x.add (i * 4 + 3)) = some (.int .i64 q.b) := fun i hi => by
      obtain ⟨cs', h1, h2⟩ := hx i hi
      rw [ce] at h1
      obtain ⟨_, hlen, hcell⟩ := World.cells?_some h1
      obtain ⟨y0, y1, y2, y3, m, _, _, t0, t1, t2, t3⟩ := Joins.trod_struct4 Tryz.underlying111 h2
      match cs', hlen with
      | [v0, v1, v2, v3], _ =>
        have z0 : Tryz.prog.cellsOf 2 = 1 := cellsInt
        simp [z0] at t0 t1 t2 t3
        obtain ⟨a, e0, _⟩ := DataW.trod_int Tryz.underlying2 t0
        obtain ⟨b, e1, _⟩ := DataW.trod_int Tryz.underlying2 t1
        obtain ⟨c, e2, _⟩ := DataW.trod_int Tryz.underlying2 t2
        obtain ⟨d, e3, _⟩ := DataW.trod_int Tryz.underlying2 t3
        simp at e0 e1 e2 e3
        have g0 := hcell 0 (by omega)
        have g1 := hcell 1 (by omega)
        have g2 := hcell 2 (by omega)
        have g3 := hcell 3 (by omega)
        rw [Deep.add_add] at g0 g1 g2 g3
        exact ⟨⟨a, b, c, d⟩, by rw [← e0]; simpa using g0, by rw [← e1]; simpa using g1, by rw [← e2]; simpa using g2, by rw [← e3]; simpa using g3⟩
    obtain ⟨q, hq⟩ := Deep.choose_lt each
    have hsel : ∀ k, k < len → sel ((List.range len).map q) k = q k := fun k hk => by
      unfold sel; rw [List.getD_eq_getElem?_getD]; simp [hk]
    refine ⟨some x, cap, (List.range len).map q, by simp, by simp only [maxLen] at hm; simp; omega, fun k hk => ?_⟩
    have hk' : k < len := by simpa using hk
    obtain ⟨h0, h1, h2, h3⟩ := hq k (by omega)
    rw [hsel k hk']
    have hs : x.spot = none := by
      have h := (hq 0 (by omega)).1
      rw [Nat.zero_mul, show x.add 0 = x from rfl] at h
      exact flat_addrC h
    obtain ⟨b, off, s⟩ := x
    obtain rfl : s = none := hs
    refine ⟨b, off, rfl, ?_, ?_, ?_, ?_⟩
    · rw [← h0]; congr 1; unfold Addr.add; split
      · rename_i h; rw [h]; rfl
      · rfl
    · rw [← h1]; congr 1
    · rw [← h2]; congr 1
    · rw [← h3]; congr 1
end Go.Proofs.YtmpdaafkphpnoaaGreat
set_option linter.unusedVariables false
set_option linter.unusedSimpArgs false
namespace Go.Proofs.YtmpdaafkphpnoaaGreat
open Go.ChangeShapes Go.WideShapes Go.ChangeAt Go.RowKit
set_option maxRecDepth 100000 in
theorem open_M {H : Type} {enc : TypeId × Value → H} {W : World} {base : Nat} {v : Value} {d : DataW H} {p : List MemPlace}
    (hv : Value.okWide Tryz.prog W .any base 48 v) (h : DataW.Trod enc Tryz.prog W 0 (fun _ => true) true 48 v d p) :
    ∃ (la bi : Int), v = mv la bi := by
  obtain ⟨v0, v1, y0, y1, n, rfl, _, _, h0, h1⟩ := Go.Joins.open_agg2 Tryz.underlying48 (by kernel_rfl) (by kernel_rfl) hv h
  obtain ⟨a, e0, _⟩ := DataW.trod_int Tryz.underlying2 h0
  obtain ⟨b, e1, _⟩ := DataW.trod_int Tryz.underlying2 h1
  simp at e0 e1
  exact ⟨a, b, by rw [e0, e1]⟩
end Go.Proofs.YtmpdaafkphpnoaaGreat
set_option linter.unusedVariables false
set_option linter.unusedSimpArgs false
namespace Go.Proofs.YtmpdaafkphpnoaaGreat
open Go.ChangeShapes Go.WideShapes Go.ChangeAt Go.RowKit
theorem cellsRow : Tryz.prog.cellsOf 28 = 1 := by kernel_rfl
theorem flat_addr {W : World} {x : Addr} {v : Value} (h : W.cell? x = some v) : x.spot = none := by
  cases hx : x.spot with
  | none => rfl
  | some s =>
    simp only [World.cell?] at h
    split at h
    · rw [if_pos (by rw [hx]; rfl)] at h; cases h
    · cases h
set_option maxRecDepth 100000 in
theorem open_R {H : Type} {enc : TypeId × Value → H} {W : World} {base : Nat} {v : Value} {d : DataW H} {p : List MemPlace}
    (hv : Value.okWide Tryz.prog W .any base 27 v) (h : DataW.Trod enc Tryz.prog W 0 (fun _ => true) true 27 v d p) :
    ∃ (A : Option Addr) (c : Nat) (xs : List (List Int)), v = .slice A xs.length c ∧ BigR xs ∧ RdR W A xs := by
  obtain ⟨a, len, cap, rfl⟩ := okWide_slice Tryz.underlying27 hv
  obtain ⟨fuel, hf⟩ := h
  rcases Deep.open_int_rows Tryz.underlying27 Tryz.underlying28 Tryz.underlying2 cellsRow cellsInt hf with ⟨hcs, _⟩ | ⟨x, l, c, A, L, C, Z, hcs, _, hl, hm, _, hcell⟩
  · simp [Value.cells] at hcs
    obtain ⟨rfl, rfl, rfl⟩ := hcs
    exact ⟨none, 0, [], rfl, ⟨by simp, fun k hk => absurd hk (Nat.not_lt_zero _)⟩, fun _ => .slice none 0 0, fun k hk => absurd hk (Nat.not_lt_zero _), fun k hk => absurd hk (Nat.not_lt_zero _)⟩
  · simp [Value.cells] at hcs
    obtain ⟨rfl, rfl, rfl⟩ := hcs
    have hrow : ∀ k, k < len → rw_ ((List.range len).map fun r => (Z r).take (L r)) k = (Z k).take (L k) := fun k hk => by
      unfold rw_; rw [List.getD_eq_getElem?_getD]; simp [hk]
    have hlen : ∀ k, k < len → ((Z k).take (L k)).length = L k := fun k hk => by
      obtain ⟨_, h1, _, h3, _⟩ := hcell k (by omega)
      rw [List.length_take]; omega
    refine ⟨some x, cap, (List.range len).map fun r => (Z r).take (L r), by simp, ⟨by simp only [maxLen] at hm; simp; omega, fun k hk => ?_⟩, fun k => .slice (A k) (L k) (C k), fun k hk => ?_, fun k hk => ?_⟩
    · have hk' : k < len := by simpa using hk
      rw [hrow k hk', hlen k hk']
      obtain ⟨_, h1, h2, _⟩ := hcell k (by omega)
      simp only [maxLen] at h2
      omega
    · have hk' : k < len := by simpa using hk
      obtain ⟨hc, _⟩ := hcell k (by omega)
      have hs : x.spot = none := by
        have := flat_addr (hcell 0 (by omega)).1
        exact this
      obtain ⟨b, off, s⟩ := x
      obtain rfl : s = none := hs
      refine ⟨b, off, rfl, ?_⟩
      rw [← hc]
      congr 1
      unfold Addr.add
      split
      · rename_i h; subst h; rfl
      · rfl
    · have hk' : k < len := by simpa using hk
      obtain ⟨_, h1, _, h3, _, h5, h6⟩ := hcell k (by omega)
      rw [hrow k hk']
      refine ⟨A k, C k, by rw [hlen k hk'], by rw [hlen k hk']; exact h1, fun i hi => ?_⟩
      rw [hlen k hk'] at hi
      cases ha : A k with
      | none => have := h5 ha; omega
      | some a' =>
        obtain ⟨_, h7⟩ := h6 a' ha
        have hs : a'.spot = none := flat_addr (h7 0 (by omega))
        obtain ⟨b, off, s⟩ := a'
        obtain rfl : s = none := hs
        refine ⟨b, off, rfl, ?_⟩
        have he : el ((Z k).take (L k)) i = (Z k).getD i 0 := by
          unfold el; rw [List.getD_eq_getElem?_getD, List.getD_eq_getElem?_getD, List.getElem?_take_of_lt hi]
        show W.cell? _ = some (.int .i64 (el _ i))
        rw [he, ← h7 i (by omega)]
        congr 1
        unfold Addr.add
        split
        · rename_i h; subst h; rfl
        · rfl
end Go.Proofs.YtmpdaafkphpnoaaGreat
set_option linter.unusedVariables false
set_option linter.unusedSimpArgs false
namespace Go.Proofs.YtmpdaafkphpnoaaGreat
open Go.ChangeShapes Go.WideShapes Go.ChangeAt Go.RowKit
set_option maxRecDepth 100000 in
theorem rdR_of_trodP {H : Type} {enc : TypeId × Value → H} {W : World} {n : Nat} {v : Value} {y : DataW H × List MemPlace}
    (hf : DataW.trod enc Tryz.prog W 0 (fun _ => true) true n 27 [v] = some y) : ∃ (A : Option Addr) (c : Nat) (xs : List (List Int)), v = .slice A xs.length c ∧ BigR xs ∧ RdR W A xs := by
  rcases Deep.open_int_rows Tryz.underlying27 Tryz.underlying28 Tryz.underlying2 cellsRow cellsInt hf with ⟨hcs, _⟩ | ⟨x, l, c, A, L, C, Z, hcs, _, hl, hm, _, hcell⟩
  · simp at hcs
    exact ⟨none, 0, [], by simpa using hcs, ⟨by simp, fun k hk => absurd hk (Nat.not_lt_zero _)⟩, fun _ => .slice none 0 0, fun k hk => absurd hk (Nat.not_lt_zero _), fun k hk => absurd hk (Nat.not_lt_zero _)⟩
  · simp at hcs
    have hrow : ∀ k, k < l → rw_ ((List.range l).map fun r => (Z r).take (L r)) k = (Z k).take (L k) := fun k hk => by
      unfold rw_; rw [List.getD_eq_getElem?_getD]; simp [hk]
    have hlen : ∀ k, k < l → ((Z k).take (L k)).length = L k := fun k hk => by
      obtain ⟨_, h1, _, h3, _⟩ := hcell k (by omega)
      rw [List.length_take]; omega
    refine ⟨some x, c, (List.range l).map fun r => (Z r).take (L r), by simpa using hcs, ⟨by simp only [maxLen] at hm; simp; omega, fun k hk => ?_⟩, fun k => .slice (A k) (L k) (C k), fun k hk => ?_, fun k hk => ?_⟩
    · have hk' : k < l := by simpa using hk
      rw [hrow k hk', hlen k hk']
      obtain ⟨_, h1, h2, _⟩ := hcell k (by omega)
      simp only [maxLen] at h2
      omega
    · have hk' : k < l := by simpa using hk
      obtain ⟨hc, _⟩ := hcell k (by omega)
      have hs : x.spot = none := by
        have := flat_addr (hcell 0 (by omega)).1
        exact this
      obtain ⟨b, off, s⟩ := x
      obtain rfl : s = none := hs
      refine ⟨b, off, rfl, ?_⟩
      rw [← hc]
      congr 1
      unfold Addr.add
      split
      · rename_i h; subst h; rfl
      · rfl
    · have hk' : k < l := by simpa using hk
      obtain ⟨_, h1, _, h3, _, h5, h6⟩ := hcell k (by omega)
      rw [hrow k hk']
      refine ⟨A k, C k, by rw [hlen k hk'], by rw [hlen k hk']; exact h1, fun i hi => ?_⟩
      rw [hlen k hk'] at hi
      cases ha : A k with
      | none => have := h5 ha; omega
      | some a' =>
        obtain ⟨_, h7⟩ := h6 a' ha
        have hs : a'.spot = none := flat_addr (h7 0 (by omega))
        obtain ⟨b, off, s⟩ := a'
        obtain rfl : s = none := hs
        refine ⟨b, off, rfl, ?_⟩
        have he : el ((Z k).take (L k)) i = (Z k).getD i 0 := by
          unfold el; rw [List.getD_eq_getElem?_getD, List.getD_eq_getElem?_getD, List.getElem?_take_of_lt hi]
        show W.cell? _ = some (.int .i64 (el _ i))
        rw [he, ← h7 i (by omega)]
        congr 1
        unfold Addr.add
        split
        · rename_i h; subst h; rfl
        · rfl
theorem array1 {α : Type} {cs : Array α} (h : cs.size = 1) : ∃ c0, cs = #[c0] := by
  obtain ⟨l⟩ := cs
  match l, h with
  | [c0], _ => exact ⟨c0, rfl⟩
set_option maxRecDepth 100000 in
theorem open_P {H : Type} {enc : TypeId × Value → H} {W : World} {base : Nat} {v : Value} {d : DataW H} {p : List MemPlace}
    (hv : Value.okWide Tryz.prog W .any base 51 v) (h : DataW.Trod enc Tryz.prog W 0 (fun _ => true) true 51 v d p) :
    ∃ (A : Option Addr) (c : Nat) (xs : List (List Int)), v = .agg #[.slice A xs.length c] ∧ BigR xs ∧ RdR W A xs := by
  obtain ⟨cs, rfl, hsz⟩ := okWide_struct Tryz.underlying51 hv
  obtain ⟨c0, rfl⟩ := array1 (hsz.trans (by kernel_rfl))
  obtain ⟨fuel, hf⟩ := h
  obtain ⟨y0, n, _, _, h0⟩ := trod_struct1 Tryz.underlying51 hf
  obtain ⟨A, c, xs, e, l, r⟩ := rdR_of_trodP (show DataW.trod enc Tryz.prog W 0 (fun _ => true) true n 27 [c0] = some y0 by
    have e1 : Tryz.prog.cellsOf 27 = 1 := by kernel_rfl
    have h1 := h0
    simp only [e1] at h1
    simpa [Value.cells] using h1)
  exact ⟨A, c, xs, by rw [e], l, r⟩
end Go.Proofs.YtmpdaafkphpnoaaGreat
/- For every input the law FnExactUnitsOf holds: the program's UnitsOf answers what the reference's answers, leaves its arguments as they are, and shares no memory; no condition. -/
set_option linter.unusedVariables false
set_option linter.unusedSimpArgs false
namespace Go.Proofs.YtmpdaafkphpnoaaGreat.fnExactUnitsOf
open Go.ChangeShapes Go.WideShapes Go.ChangeAt Go.RowKit
open Go.ChangeMaps (open_string shut_string)
theorem own : ownKnob Tryz.prog.godebug = none := by kernel_rfl
theorem laidOut : laidOutB Tryz.prog = true := by kernel_rfl
set_option maxRecDepth 100000 in
theorem lifted (os : Os) (started : os.Started) (H : Type) (enc : TypeId × Value → H) :
    ReturnsInHanded {} Tryz.checked os 7 .any (Rows.fnExactUnitsOfSpec.pre6 enc Tryz.prog Tryz.f7 Rows.fnExactUnitsOfRow.domain false) (Rows.fnExactUnitsOfSpec.post enc Tryz.prog Tryz.f7 false true false false) := by
  refine returnsInHanded_of_change (C := Tryz.checked) own started (by kernel_rfl) Tryz.func7
    (ChangeSpec.witness6 (enc := enc) (C := Tryz.checked) false ⟨#[], #[.agg #[.int .i64 0, .int .i64 0], .slice none 0 0, .agg #[.slice none 0 0]], []⟩ 8 (by kernel_rfl) (by kernel_rfl) (by kernel_rfl) (by kernel_rfl)) ?_
  intro W base args ds gs before hval0 hW hcnd _
  have hval : ∀ (j : Nat) t v, Tryz.f7.params[j]? = some t → args[j]? = some v → Value.okWide Tryz.prog W .any base t v := hval0
  have hW' := hW
  obtain ⟨p, q, hA0, hV, rfl, hfz, hnd⟩ := hW
  have hA : DataW.TrodAll enc Tryz.prog W 0 (fun _ => true) true Tryz.f7.params.toList args.toList ds p := hA0
  rw [Tryz.params7] at hA hval
  obtain ⟨v0, vs0, d0, ds0, p0, q0, hargs, rfl, rfl, h0, r0⟩ := trodAll_cons hA
  obtain ⟨v1, vs1, d1, ds1, p1, q1, rfl, rfl, rfl, h1, r1⟩ := trodAll_cons r0
  obtain ⟨v2, vs2, d2, ds2, p2, q2, rfl, rfl, rfl, h2, r2⟩ := trodAll_cons r1
  obtain ⟨rfl, rfl, rfl⟩ := trodAll_nil r2
  obtain rfl : args = #[v0, v1, v2] := by cases args; simp_all
  obtain ⟨rfl, rfl⟩ := trodVars_none hV
  have k0 := h0
  have lt0 : ∀ x ∈ p0, x.block < W.heap.size := by obtain ⟨m, hm⟩ := k0; exact DataW.trod_lt m _ _ _ hm
  obtain ⟨la0, bi0, rfl⟩ := open_M (hval 0 48 v0 rfl rfl) h0
  have k1 := h1
  have lt1 : ∀ x ∈ p1, x.block < W.heap.size := by obtain ⟨m, hm⟩ := k1; exact DataW.trod_lt m _ _ _ hm
  obtain ⟨A1, c1, xs1, rfl, hl1, hR1⟩ := open_C (hval 1 49 v1 rfl rfl) h1
  have k2 := h2
  have lt2 : ∀ x ∈ p2, x.block < W.heap.size := by obtain ⟨m, hm⟩ := k2; exact DataW.trod_lt m _ _ _ hm
  obtain ⟨A2, c2, xs2, rfl, hl2, hR2⟩ := open_P (hval 2 51 v2 rfl rfl) h2
  clear hA0 hval0
  refine (law_UnitsOf W la0 bi0 A1 c1 xs1 A2 c2 xs2 hl1 hR1 hl2 hR2).mono fun e W' ⟨he, bel⟩ => ?_
  subst he
  exact ⟨_, rfl, _, _, _, [], _, [], hW', trodAll_mk1 (shut_bool Tryz.underlying4 _), (trodAll_cons_mk (Below.trod laidOut (by kernel_rfl) (of_decide_eq_true (by kernel_rfl)) k0 bel lt0) (trodAll_cons_mk (Below.trod laidOut (by kernel_rfl) (of_decide_eq_true (by kernel_rfl)) k1 bel lt1) (trodAll_cons_mk (Below.trod laidOut (by kernel_rfl) (of_decide_eq_true (by kernel_rfl)) k2 bel lt2) trodAll_mk0))), rfl, bel.frame _, fun h => by cases h⟩
theorem over : Rows.fnExactUnitsOfRow.holds Tryz.pinned (OpenSpec.ofChange Rows.fnExactUnitsOfSpec) :=
  OpenClaim.holds_of_wide 7 Tryz.f7 rfl rfl rfl rfl rfl rfl rfl ⟨rfl, rfl, rfl, rfl, rfl⟩ rfl rfl rfl rfl rfl (by kernel_rfl) Tryz.func7 (by kernel_rfl)
    (of_decide_eq_true (by kernel_rfl)) (by unfold Func.isWrapper; first | (rw [if_pos (by decide +kernel)]; kernel_rfl) | (rw [if_neg (by decide +kernel)]; exact ⟨rfl, rfl⟩))
    (fun os started H enc _ => lifted os started H enc)
theorem proved : Rows.FnExactUnitsOfSaid := over
#print axioms proved
end Go.Proofs.YtmpdaafkphpnoaaGreat.fnExactUnitsOf
