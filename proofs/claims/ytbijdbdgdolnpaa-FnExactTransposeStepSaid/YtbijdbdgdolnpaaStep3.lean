import Derived.Test.YtbijdbdgdolnpaaStep
set_option linter.unusedVariables false
set_option linter.unusedSimpArgs false
namespace Go.Proofs.Ytbijdbdgdolnpaa
open Go.RowKit

theorem tsE_take (g : Nat → Int) (k : Nat) : (List.range (k + 1)).map g = (List.range k).map g ++ [g k] := by rw [List.range_succ, List.map_append]; rfl
theorem mat_take (n : Nat) (g : Nat → Nat → Int) (i : Nat) : (List.range (i + 1)).map (rowG n g) = (List.range i).map (rowG n g) ++ [rowG n g i] := by rw [List.range_succ, List.map_append]; rfl
set_option maxRecDepth 100000 in
set_option maxHeartbeats 2000000 in
theorem s_TS1 (w : World) (b : Int) (A : Option Addr) (c : Nat) (xss : List (List Int)) (hO : ROk xss) (hR : RdR w A xss) (hF : FarOk xss.length 1)
    (C0 : Hid (Calls Try.prog 90 #[.int .i64 b, .slice A xss.length c] w fun e w' => e = .returned (.bool true) ∧ Below w.heap.size w w')) :
    Calls Try.prog 52 #[.int .i64 b, .slice A xss.length c, .int .i64 1] w (RetRB w (mat xss.length (tsE xss 1), true)) := by
  have hfew := hO.few
  have HO := hid hO
  have HR := hid hR
  have HF := hid hF
  have hlt := hF.lt
  have hn16 : xss.length ≤ 16 := by omega
  have hge : ¬ ((xss.length : Int) ≤ 1) := by omega
  have hge2 : (decide ((xss.length : Int) ≤ 1)) = false := by simpa using hge
  clear hO hfew hR hF hge
  go_enter Try.func52, Try.ntmps52
  go_wp2_with fail
  refine C0.out.mono ?_
  rintro e w1 ⟨rfl, hb1⟩
  have HB1 := hid hb1
  clear hb1 C0
  go_wp2_with fail
  clear hge2
  go_loopg [9, 10] xss.length (fun gg v s wr => ∃ i : Nat, i ≤ xss.length ∧ xss.length - i ≤ gg ∧ s = .int .i64 i ∧ Aside (Below w.heap.size w wr) ∧ Aside (OR wr w.heap.size wr.heap.size v ((List.range i).map (rowG xss.length (tsE xss 1)))))
  case atStart =>
    refine ⟨0, Nat.zero_le _, by omega, rfl, balloc HB1.out _, ?_⟩
    have := OR.wide (OR.lit0 w1) HB1.out.size (Nat.le_refl _)
    show OR _ _ _ _ _
    simpa using this
  case round =>
    obtain ⟨i, hi, hg, rfl, BW, OW⟩ := hrel
    obtain ⟨wo, rfl⟩ : ∃ wo : World, wo = wr := ⟨_, rfl⟩
    clear HB1
    by_cases hlt1 : i < xss.length
    · have hlt' : (i : Int) < (xss.length : Int) := by omega
      have hob := Own.of (World.ownsRow_lit (base := wo.heap.size) (e := 2) (size := 1) wo #[] 0 (Nat.le_refl _) (by simp [maxLen]) rfl)
      have HOB := hid hob
      have HBO : Hid (Below wo.heap.size wo (wo.alloc (.cells #[] 2))) := hid (ballocw _ _)
      clear hob
      go_wp2_with fail
      go_loopg [11, 12] xss.length (fun gg v s wr => ∃ k : Nat, k ≤ xss.length ∧ xss.length - k ≤ gg ∧ s = .int .i64 k ∧ Aside (Below wo.heap.size wo wr) ∧ Aside (Own wr wo.heap.size wr.heap.size 2 1 v k (ints ((List.range k).map (tsE xss 1 i)))))
      case atStart => exact ⟨0, Nat.zero_le _, by omega, rfl, HBO.out, by simpa [Aside, ints] using HOB.out⟩
      case round =>
        obtain ⟨k, hk, hgk, rfl, BJ, OJ⟩ := hrel
        clear HOB HBO
        by_cases hlk : k < xss.length
        · have hlk' : (k : Int) < (xss.length : Int) := by omega
          have hba := HF.out.band i (by omega)
          have hbk := HF.out.band k (by omega)
          rw [show ((1 : Nat) : Int) = 1 from rfl] at hba hbk
          have HTK := hid (tsE_take (tsE xss 1 i) k)
          have hsz := BJ.out.size
          by_cases hq : bt 1 i = bt 1 k
          · have HTE : Hid (tsE xss 1 i k = el (rw_ xss i) k) := hid (by unfold tsE; rw [if_pos hq])
            rw [← hq] at hbk
            obtain ⟨bo, off, A', c', rfl, hc, _, hr⟩ := ((HR.out.below BW.out).below BJ.out).get hlt1
            have hlen := HO.out.row i hlt1
            obtain ⟨b', off', rfl, hc'⟩ := hr.get (k := k) (by omega)
            have hil : (k : Int) < ((rw_ xss i).length : Int) := by omega
            have hil2 : (rw_ xss i).length ≤ 16 := by omega
            by_cases hz : bt 1 i = 0
            all_goals
              first | rw [if_pos hz] at hba hbk | rw [if_neg hz] at hba hbk
              clear hr hlen HR HO OW BW HF hq hz
              generalize (rw_ xss i).length = rl at *
              generalize el (rw_ xss i) k = x at *
              go_wp2_with (at_builtin; refine wp_append1 wo.heap.size rfl _ _ 26 2 (.int .i64 0) 8 rfl Try.underlying26 infoInt rfl u11 k _ (.int .i64 x) rfl rfl rfl OJ.out hsz (by omega) (by omega) ?_; intro v1 w3 hown1 hbel1)
              go_roundg (xss.length - (k + 1))
              case measure => omega
              case rel =>
                refine ⟨k + 1, by omega, by omega, by go_num, ?_, ?_⟩
                · show Below _ _ _; exact BJ.out.trans hbel1
                · show Own _ _ _ _ _ _ _ _; rw [HTK.out, HTE.out, ints_append]; exact hown1
          · have HTE : Hid (tsE xss 1 i k = el (rw_ xss (xo 1 i)) (xo 1 k)) := hid (by unfold tsE; rw [if_neg hq])
            have hxi := HF.out.bxor i (by omega)
            have hxk := HF.out.bxor k (by omega)
            rw [show ((1 : Nat) : Int) = 1 from rfl] at hxi hxk
            have hpi := HF.out.xoin i hlt1
            have hpk := HF.out.xoin k hlk
            obtain ⟨bo, off, A', c', rfl, hc, _, hr⟩ := ((HR.out.below BW.out).below BJ.out).get hpi
            have hlen := HO.out.row (xo 1 i) hpi
            obtain ⟨b', off', rfl, hc'⟩ := hr.get (k := xo 1 k) (by omega)
            have hil : ((xo 1 k : Nat) : Int) < ((rw_ xss (xo 1 i)).length : Int) := by omega
            have hil2 : (rw_ xss (xo 1 i)).length ≤ 16 := by omega
            have hpi' : ((xo 1 i : Nat) : Int) < (xss.length : Int) := by omega
            have hbi2 : bt 1 i < 2 := by unfold bt; omega
            have hbk2 : bt 1 k < 2 := by unfold bt; omega
            by_cases hz : bt 1 i = 0
            · rw [if_pos hz] at hba
              rw [if_neg (by omega)] at hbk
              clear hr hlen HR HO OW BW HF hq hz hbi2 hbk2
              generalize (rw_ xss (xo 1 i)).length = rl at *
              generalize el (rw_ xss (xo 1 i)) (xo 1 k) = x at *
              generalize xo 1 i = p at *
              generalize xo 1 k = q at *
              go_wp2_with (at_builtin; refine wp_append1 wo.heap.size rfl _ _ 26 2 (.int .i64 0) 8 rfl Try.underlying26 infoInt rfl u11 k _ (.int .i64 x) rfl rfl rfl OJ.out hsz (by omega) (by omega) ?_; intro v1 w3 hown1 hbel1)
              go_roundg (xss.length - (k + 1))
              case measure => omega
              case rel =>
                refine ⟨k + 1, by omega, by omega, by go_num, ?_, ?_⟩
                · show Below _ _ _; exact BJ.out.trans hbel1
                · show Own _ _ _ _ _ _ _ _; rw [HTK.out, HTE.out, ints_append]; exact hown1
            · rw [if_neg hz] at hba
              rw [if_pos (by omega)] at hbk
              clear hr hlen HR HO OW BW HF hq hz hbi2 hbk2
              generalize (rw_ xss (xo 1 i)).length = rl at *
              generalize el (rw_ xss (xo 1 i)) (xo 1 k) = x at *
              generalize xo 1 i = p at *
              generalize xo 1 k = q at *
              go_wp2_with (at_builtin; refine wp_append1 wo.heap.size rfl _ _ 26 2 (.int .i64 0) 8 rfl Try.underlying26 infoInt rfl u11 k _ (.int .i64 x) rfl rfl rfl OJ.out hsz (by omega) (by omega) ?_; intro v1 w3 hown1 hbel1)
              go_roundg (xss.length - (k + 1))
              case measure => omega
              case rel =>
                refine ⟨k + 1, by omega, by omega, by go_num, ?_, ?_⟩
                · show Below _ _ _; exact BJ.out.trans hbel1
                · show Own _ _ _ _ _ _ _ _; rw [HTK.out, HTE.out, ints_append]; exact hown1
        · have : k = xss.length := by omega
          subst this
          have hlk' : ¬ ((xss.length : Nat) : Int) < ((xss.length : Nat) : Int) := by omega
          have hu : OI wr wo.heap.size wr.heap.size u11 (rowG xss.length (tsE xss 1) i) := by
            have := OJ.out
            unfold OI OwnI
            rw [rowG_length]
            exact this
          obtain ⟨A2, c2, rfl, _, _, _⟩ := OI.shp hu
          have hr2 := OW.out.eqv (Eqv.of BJ.out (Nat.le_refl _))
          have HSW : Hid (w.heap.size ≤ wo.heap.size) := hid BW.out.size
          have HSL : Hid (wo.heap.size ≤ wr.heap.size) := hid BJ.out.size
          have hcnt : ((List.range i).map (rowG xss.length (tsE xss 1))).length + 1 ≤ 1048576 := by simp; omega
          have HBW : Hid (Below w.heap.size w wr) := hid (bthen BW.out BJ.out)
          have HTK := hid (mat_take xss.length (tsE xss 1) i)
          clear OJ OW BW BJ HR HO HF
          go_wp2_with (at_builtin; refine wp_appendR w.heap.size wo.heap.size rfl _ _ rfl u9 _ A2 c2 (rowG xss.length (tsE xss 1) i) rfl rfl hr2 hu HSW.out HSL.out hcnt ?_; intro v1 w3 hr3 hb3)
          go_roundg (xss.length - (i + 1))
          case measure => omega
          case rel =>
            refine ⟨i + 1, by omega, by omega, by go_num, ?_, ?_⟩
            · show Below _ _ _; exact HBW.out.trans hb3
            · show OR _ _ _ _ _
              rw [HTK.out]
              exact hr3
    · have : i = xss.length := by omega
      subst this
      have hlt' : ¬ ((xss.length : Nat) : Int) < ((xss.length : Nat) : Int) := by omega
      have HOW := hid OW.out
      clear HR HO HF OW
      go_wp2_with fail
      go_ret2
      exact ⟨_, rfl, HOW.out, BW.out⟩
set_option maxRecDepth 100000 in
set_option maxHeartbeats 2000000 in
theorem s_TS2 (w : World) (b : Int) (A : Option Addr) (c : Nat) (xss : List (List Int)) (hO : ROk xss) (hR : RdR w A xss) (hF : FarOk xss.length 2)
    (C0 : Hid (Calls Try.prog 90 #[.int .i64 b, .slice A xss.length c] w fun e w' => e = .returned (.bool true) ∧ Below w.heap.size w w')) :
    Calls Try.prog 52 #[.int .i64 b, .slice A xss.length c, .int .i64 2] w (RetRB w (mat xss.length (tsE xss 2), true)) := by
  have hfew := hO.few
  have HO := hid hO
  have HR := hid hR
  have HF := hid hF
  have hlt := hF.lt
  have hn16 : xss.length ≤ 16 := by omega
  have hge : ¬ ((xss.length : Int) ≤ 2) := by omega
  have hge2 : (decide ((xss.length : Int) ≤ 2)) = false := by simpa using hge
  clear hO hfew hR hF hge
  go_enter Try.func52, Try.ntmps52
  go_wp2_with fail
  refine C0.out.mono ?_
  rintro e w1 ⟨rfl, hb1⟩
  have HB1 := hid hb1
  clear hb1 C0
  go_wp2_with fail
  clear hge2
  go_loopg [9, 10] xss.length (fun gg v s wr => ∃ i : Nat, i ≤ xss.length ∧ xss.length - i ≤ gg ∧ s = .int .i64 i ∧ Aside (Below w.heap.size w wr) ∧ Aside (OR wr w.heap.size wr.heap.size v ((List.range i).map (rowG xss.length (tsE xss 2)))))
  case atStart =>
    refine ⟨0, Nat.zero_le _, by omega, rfl, balloc HB1.out _, ?_⟩
    have := OR.wide (OR.lit0 w1) HB1.out.size (Nat.le_refl _)
    show OR _ _ _ _ _
    simpa using this
  case round =>
    obtain ⟨i, hi, hg, rfl, BW, OW⟩ := hrel
    obtain ⟨wo, rfl⟩ : ∃ wo : World, wo = wr := ⟨_, rfl⟩
    clear HB1
    by_cases hlt1 : i < xss.length
    · have hlt' : (i : Int) < (xss.length : Int) := by omega
      have hob := Own.of (World.ownsRow_lit (base := wo.heap.size) (e := 2) (size := 1) wo #[] 0 (Nat.le_refl _) (by simp [maxLen]) rfl)
      have HOB := hid hob
      have HBO : Hid (Below wo.heap.size wo (wo.alloc (.cells #[] 2))) := hid (ballocw _ _)
      clear hob
      go_wp2_with fail
      go_loopg [11, 12] xss.length (fun gg v s wr => ∃ k : Nat, k ≤ xss.length ∧ xss.length - k ≤ gg ∧ s = .int .i64 k ∧ Aside (Below wo.heap.size wo wr) ∧ Aside (Own wr wo.heap.size wr.heap.size 2 1 v k (ints ((List.range k).map (tsE xss 2 i)))))
      case atStart => exact ⟨0, Nat.zero_le _, by omega, rfl, HBO.out, by simpa [Aside, ints] using HOB.out⟩
      case round =>
        obtain ⟨k, hk, hgk, rfl, BJ, OJ⟩ := hrel
        clear HOB HBO
        by_cases hlk : k < xss.length
        · have hlk' : (k : Int) < (xss.length : Int) := by omega
          have hba := HF.out.band i (by omega)
          have hbk := HF.out.band k (by omega)
          rw [show ((2 : Nat) : Int) = 2 from rfl] at hba hbk
          have HTK := hid (tsE_take (tsE xss 2 i) k)
          have hsz := BJ.out.size
          by_cases hq : bt 2 i = bt 2 k
          · have HTE : Hid (tsE xss 2 i k = el (rw_ xss i) k) := hid (by unfold tsE; rw [if_pos hq])
            rw [← hq] at hbk
            obtain ⟨bo, off, A', c', rfl, hc, _, hr⟩ := ((HR.out.below BW.out).below BJ.out).get hlt1
            have hlen := HO.out.row i hlt1
            obtain ⟨b', off', rfl, hc'⟩ := hr.get (k := k) (by omega)
            have hil : (k : Int) < ((rw_ xss i).length : Int) := by omega
            have hil2 : (rw_ xss i).length ≤ 16 := by omega
            by_cases hz : bt 2 i = 0
            all_goals
              first | rw [if_pos hz] at hba hbk | rw [if_neg hz] at hba hbk
              clear hr hlen HR HO OW BW HF hq hz
              generalize (rw_ xss i).length = rl at *
              generalize el (rw_ xss i) k = x at *
              go_wp2_with (at_builtin; refine wp_append1 wo.heap.size rfl _ _ 26 2 (.int .i64 0) 8 rfl Try.underlying26 infoInt rfl u11 k _ (.int .i64 x) rfl rfl rfl OJ.out hsz (by omega) (by omega) ?_; intro v1 w3 hown1 hbel1)
              go_roundg (xss.length - (k + 1))
              case measure => omega
              case rel =>
                refine ⟨k + 1, by omega, by omega, by go_num, ?_, ?_⟩
                · show Below _ _ _; exact BJ.out.trans hbel1
                · show Own _ _ _ _ _ _ _ _; rw [HTK.out, HTE.out, ints_append]; exact hown1
          · have HTE : Hid (tsE xss 2 i k = el (rw_ xss (xo 2 i)) (xo 2 k)) := hid (by unfold tsE; rw [if_neg hq])
            have hxi := HF.out.bxor i (by omega)
            have hxk := HF.out.bxor k (by omega)
            rw [show ((2 : Nat) : Int) = 2 from rfl] at hxi hxk
            have hpi := HF.out.xoin i hlt1
            have hpk := HF.out.xoin k hlk
            obtain ⟨bo, off, A', c', rfl, hc, _, hr⟩ := ((HR.out.below BW.out).below BJ.out).get hpi
            have hlen := HO.out.row (xo 2 i) hpi
            obtain ⟨b', off', rfl, hc'⟩ := hr.get (k := xo 2 k) (by omega)
            have hil : ((xo 2 k : Nat) : Int) < ((rw_ xss (xo 2 i)).length : Int) := by omega
            have hil2 : (rw_ xss (xo 2 i)).length ≤ 16 := by omega
            have hpi' : ((xo 2 i : Nat) : Int) < (xss.length : Int) := by omega
            have hbi2 : bt 2 i < 2 := by unfold bt; omega
            have hbk2 : bt 2 k < 2 := by unfold bt; omega
            by_cases hz : bt 2 i = 0
            · rw [if_pos hz] at hba
              rw [if_neg (by omega)] at hbk
              clear hr hlen HR HO OW BW HF hq hz hbi2 hbk2
              generalize (rw_ xss (xo 2 i)).length = rl at *
              generalize el (rw_ xss (xo 2 i)) (xo 2 k) = x at *
              generalize xo 2 i = p at *
              generalize xo 2 k = q at *
              go_wp2_with (at_builtin; refine wp_append1 wo.heap.size rfl _ _ 26 2 (.int .i64 0) 8 rfl Try.underlying26 infoInt rfl u11 k _ (.int .i64 x) rfl rfl rfl OJ.out hsz (by omega) (by omega) ?_; intro v1 w3 hown1 hbel1)
              go_roundg (xss.length - (k + 1))
              case measure => omega
              case rel =>
                refine ⟨k + 1, by omega, by omega, by go_num, ?_, ?_⟩
                · show Below _ _ _; exact BJ.out.trans hbel1
                · show Own _ _ _ _ _ _ _ _; rw [HTK.out, HTE.out, ints_append]; exact hown1
            · rw [if_neg hz] at hba
              rw [if_pos (by omega)] at hbk
              clear hr hlen HR HO OW BW HF hq hz hbi2 hbk2
              generalize (rw_ xss (xo 2 i)).length = rl at *
              generalize el (rw_ xss (xo 2 i)) (xo 2 k) = x at *
              generalize xo 2 i = p at *
              generalize xo 2 k = q at *
              go_wp2_with (at_builtin; refine wp_append1 wo.heap.size rfl _ _ 26 2 (.int .i64 0) 8 rfl Try.underlying26 infoInt rfl u11 k _ (.int .i64 x) rfl rfl rfl OJ.out hsz (by omega) (by omega) ?_; intro v1 w3 hown1 hbel1)
              go_roundg (xss.length - (k + 1))
              case measure => omega
              case rel =>
                refine ⟨k + 1, by omega, by omega, by go_num, ?_, ?_⟩
                · show Below _ _ _; exact BJ.out.trans hbel1
                · show Own _ _ _ _ _ _ _ _; rw [HTK.out, HTE.out, ints_append]; exact hown1
        · have : k = xss.length := by omega
          subst this
          have hlk' : ¬ ((xss.length : Nat) : Int) < ((xss.length : Nat) : Int) := by omega
          have hu : OI wr wo.heap.size wr.heap.size u11 (rowG xss.length (tsE xss 2) i) := by
            have := OJ.out
            unfold OI OwnI
            rw [rowG_length]
            exact this
          obtain ⟨A2, c2, rfl, _, _, _⟩ := OI.shp hu
          have hr2 := OW.out.eqv (Eqv.of BJ.out (Nat.le_refl _))
          have HSW : Hid (w.heap.size ≤ wo.heap.size) := hid BW.out.size
          have HSL : Hid (wo.heap.size ≤ wr.heap.size) := hid BJ.out.size
          have hcnt : ((List.range i).map (rowG xss.length (tsE xss 2))).length + 1 ≤ 1048576 := by simp; omega
          have HBW : Hid (Below w.heap.size w wr) := hid (bthen BW.out BJ.out)
          have HTK := hid (mat_take xss.length (tsE xss 2) i)
          clear OJ OW BW BJ HR HO HF
          go_wp2_with (at_builtin; refine wp_appendR w.heap.size wo.heap.size rfl _ _ rfl u9 _ A2 c2 (rowG xss.length (tsE xss 2) i) rfl rfl hr2 hu HSW.out HSL.out hcnt ?_; intro v1 w3 hr3 hb3)
          go_roundg (xss.length - (i + 1))
          case measure => omega
          case rel =>
            refine ⟨i + 1, by omega, by omega, by go_num, ?_, ?_⟩
            · show Below _ _ _; exact HBW.out.trans hb3
            · show OR _ _ _ _ _
              rw [HTK.out]
              exact hr3
    · have : i = xss.length := by omega
      subst this
      have hlt' : ¬ ((xss.length : Nat) : Int) < ((xss.length : Nat) : Int) := by omega
      have HOW := hid OW.out
      clear HR HO HF OW
      go_wp2_with fail
      go_ret2
      exact ⟨_, rfl, HOW.out, BW.out⟩
set_option maxRecDepth 100000 in
set_option maxHeartbeats 2000000 in
theorem s_TS4 (w : World) (b : Int) (A : Option Addr) (c : Nat) (xss : List (List Int)) (hO : ROk xss) (hR : RdR w A xss) (hF : FarOk xss.length 4)
    (C0 : Hid (Calls Try.prog 90 #[.int .i64 b, .slice A xss.length c] w fun e w' => e = .returned (.bool true) ∧ Below w.heap.size w w')) :
    Calls Try.prog 52 #[.int .i64 b, .slice A xss.length c, .int .i64 4] w (RetRB w (mat xss.length (tsE xss 4), true)) := by
  have hfew := hO.few
  have HO := hid hO
  have HR := hid hR
  have HF := hid hF
  have hlt := hF.lt
  have hn16 : xss.length ≤ 16 := by omega
  have hge : ¬ ((xss.length : Int) ≤ 4) := by omega
  have hge2 : (decide ((xss.length : Int) ≤ 4)) = false := by simpa using hge
  clear hO hfew hR hF hge
  go_enter Try.func52, Try.ntmps52
  go_wp2_with fail
  refine C0.out.mono ?_
  rintro e w1 ⟨rfl, hb1⟩
  have HB1 := hid hb1
  clear hb1 C0
  go_wp2_with fail
  clear hge2
  go_loopg [9, 10] xss.length (fun gg v s wr => ∃ i : Nat, i ≤ xss.length ∧ xss.length - i ≤ gg ∧ s = .int .i64 i ∧ Aside (Below w.heap.size w wr) ∧ Aside (OR wr w.heap.size wr.heap.size v ((List.range i).map (rowG xss.length (tsE xss 4)))))
  case atStart =>
    refine ⟨0, Nat.zero_le _, by omega, rfl, balloc HB1.out _, ?_⟩
    have := OR.wide (OR.lit0 w1) HB1.out.size (Nat.le_refl _)
    show OR _ _ _ _ _
    simpa using this
  case round =>
    obtain ⟨i, hi, hg, rfl, BW, OW⟩ := hrel
    obtain ⟨wo, rfl⟩ : ∃ wo : World, wo = wr := ⟨_, rfl⟩
    clear HB1
    by_cases hlt1 : i < xss.length
    · have hlt' : (i : Int) < (xss.length : Int) := by omega
      have hob := Own.of (World.ownsRow_lit (base := wo.heap.size) (e := 2) (size := 1) wo #[] 0 (Nat.le_refl _) (by simp [maxLen]) rfl)
      have HOB := hid hob
      have HBO : Hid (Below wo.heap.size wo (wo.alloc (.cells #[] 2))) := hid (ballocw _ _)
      clear hob
      go_wp2_with fail
      go_loopg [11, 12] xss.length (fun gg v s wr => ∃ k : Nat, k ≤ xss.length ∧ xss.length - k ≤ gg ∧ s = .int .i64 k ∧ Aside (Below wo.heap.size wo wr) ∧ Aside (Own wr wo.heap.size wr.heap.size 2 1 v k (ints ((List.range k).map (tsE xss 4 i)))))
      case atStart => exact ⟨0, Nat.zero_le _, by omega, rfl, HBO.out, by simpa [Aside, ints] using HOB.out⟩
      case round =>
        obtain ⟨k, hk, hgk, rfl, BJ, OJ⟩ := hrel
        clear HOB HBO
        by_cases hlk : k < xss.length
        · have hlk' : (k : Int) < (xss.length : Int) := by omega
          have hba := HF.out.band i (by omega)
          have hbk := HF.out.band k (by omega)
          rw [show ((4 : Nat) : Int) = 4 from rfl] at hba hbk
          have HTK := hid (tsE_take (tsE xss 4 i) k)
          have hsz := BJ.out.size
          by_cases hq : bt 4 i = bt 4 k
          · have HTE : Hid (tsE xss 4 i k = el (rw_ xss i) k) := hid (by unfold tsE; rw [if_pos hq])
            rw [← hq] at hbk
            obtain ⟨bo, off, A', c', rfl, hc, _, hr⟩ := ((HR.out.below BW.out).below BJ.out).get hlt1
            have hlen := HO.out.row i hlt1
            obtain ⟨b', off', rfl, hc'⟩ := hr.get (k := k) (by omega)
            have hil : (k : Int) < ((rw_ xss i).length : Int) := by omega
            have hil2 : (rw_ xss i).length ≤ 16 := by omega
            by_cases hz : bt 4 i = 0
            all_goals
              first | rw [if_pos hz] at hba hbk | rw [if_neg hz] at hba hbk
              clear hr hlen HR HO OW BW HF hq hz
              generalize (rw_ xss i).length = rl at *
              generalize el (rw_ xss i) k = x at *
              go_wp2_with (at_builtin; refine wp_append1 wo.heap.size rfl _ _ 26 2 (.int .i64 0) 8 rfl Try.underlying26 infoInt rfl u11 k _ (.int .i64 x) rfl rfl rfl OJ.out hsz (by omega) (by omega) ?_; intro v1 w3 hown1 hbel1)
              go_roundg (xss.length - (k + 1))
              case measure => omega
              case rel =>
                refine ⟨k + 1, by omega, by omega, by go_num, ?_, ?_⟩
                · show Below _ _ _; exact BJ.out.trans hbel1
                · show Own _ _ _ _ _ _ _ _; rw [HTK.out, HTE.out, ints_append]; exact hown1
          · have HTE : Hid (tsE xss 4 i k = el (rw_ xss (xo 4 i)) (xo 4 k)) := hid (by unfold tsE; rw [if_neg hq])
            have hxi := HF.out.bxor i (by omega)
            have hxk := HF.out.bxor k (by omega)
            rw [show ((4 : Nat) : Int) = 4 from rfl] at hxi hxk
            have hpi := HF.out.xoin i hlt1
            have hpk := HF.out.xoin k hlk
            obtain ⟨bo, off, A', c', rfl, hc, _, hr⟩ := ((HR.out.below BW.out).below BJ.out).get hpi
            have hlen := HO.out.row (xo 4 i) hpi
            obtain ⟨b', off', rfl, hc'⟩ := hr.get (k := xo 4 k) (by omega)
            have hil : ((xo 4 k : Nat) : Int) < ((rw_ xss (xo 4 i)).length : Int) := by omega
            have hil2 : (rw_ xss (xo 4 i)).length ≤ 16 := by omega
            have hpi' : ((xo 4 i : Nat) : Int) < (xss.length : Int) := by omega
            have hbi2 : bt 4 i < 2 := by unfold bt; omega
            have hbk2 : bt 4 k < 2 := by unfold bt; omega
            by_cases hz : bt 4 i = 0
            · rw [if_pos hz] at hba
              rw [if_neg (by omega)] at hbk
              clear hr hlen HR HO OW BW HF hq hz hbi2 hbk2
              generalize (rw_ xss (xo 4 i)).length = rl at *
              generalize el (rw_ xss (xo 4 i)) (xo 4 k) = x at *
              generalize xo 4 i = p at *
              generalize xo 4 k = q at *
              go_wp2_with (at_builtin; refine wp_append1 wo.heap.size rfl _ _ 26 2 (.int .i64 0) 8 rfl Try.underlying26 infoInt rfl u11 k _ (.int .i64 x) rfl rfl rfl OJ.out hsz (by omega) (by omega) ?_; intro v1 w3 hown1 hbel1)
              go_roundg (xss.length - (k + 1))
              case measure => omega
              case rel =>
                refine ⟨k + 1, by omega, by omega, by go_num, ?_, ?_⟩
                · show Below _ _ _; exact BJ.out.trans hbel1
                · show Own _ _ _ _ _ _ _ _; rw [HTK.out, HTE.out, ints_append]; exact hown1
            · rw [if_neg hz] at hba
              rw [if_pos (by omega)] at hbk
              clear hr hlen HR HO OW BW HF hq hz hbi2 hbk2
              generalize (rw_ xss (xo 4 i)).length = rl at *
              generalize el (rw_ xss (xo 4 i)) (xo 4 k) = x at *
              generalize xo 4 i = p at *
              generalize xo 4 k = q at *
              go_wp2_with (at_builtin; refine wp_append1 wo.heap.size rfl _ _ 26 2 (.int .i64 0) 8 rfl Try.underlying26 infoInt rfl u11 k _ (.int .i64 x) rfl rfl rfl OJ.out hsz (by omega) (by omega) ?_; intro v1 w3 hown1 hbel1)
              go_roundg (xss.length - (k + 1))
              case measure => omega
              case rel =>
                refine ⟨k + 1, by omega, by omega, by go_num, ?_, ?_⟩
                · show Below _ _ _; exact BJ.out.trans hbel1
                · show Own _ _ _ _ _ _ _ _; rw [HTK.out, HTE.out, ints_append]; exact hown1
        · have : k = xss.length := by omega
          subst this
          have hlk' : ¬ ((xss.length : Nat) : Int) < ((xss.length : Nat) : Int) := by omega
          have hu : OI wr wo.heap.size wr.heap.size u11 (rowG xss.length (tsE xss 4) i) := by
            have := OJ.out
            unfold OI OwnI
            rw [rowG_length]
            exact this
          obtain ⟨A2, c2, rfl, _, _, _⟩ := OI.shp hu
          have hr2 := OW.out.eqv (Eqv.of BJ.out (Nat.le_refl _))
          have HSW : Hid (w.heap.size ≤ wo.heap.size) := hid BW.out.size
          have HSL : Hid (wo.heap.size ≤ wr.heap.size) := hid BJ.out.size
          have hcnt : ((List.range i).map (rowG xss.length (tsE xss 4))).length + 1 ≤ 1048576 := by simp; omega
          have HBW : Hid (Below w.heap.size w wr) := hid (bthen BW.out BJ.out)
          have HTK := hid (mat_take xss.length (tsE xss 4) i)
          clear OJ OW BW BJ HR HO HF
          go_wp2_with (at_builtin; refine wp_appendR w.heap.size wo.heap.size rfl _ _ rfl u9 _ A2 c2 (rowG xss.length (tsE xss 4) i) rfl rfl hr2 hu HSW.out HSL.out hcnt ?_; intro v1 w3 hr3 hb3)
          go_roundg (xss.length - (i + 1))
          case measure => omega
          case rel =>
            refine ⟨i + 1, by omega, by omega, by go_num, ?_, ?_⟩
            · show Below _ _ _; exact HBW.out.trans hb3
            · show OR _ _ _ _ _
              rw [HTK.out]
              exact hr3
    · have : i = xss.length := by omega
      subst this
      have hlt' : ¬ ((xss.length : Nat) : Int) < ((xss.length : Nat) : Int) := by omega
      have HOW := hid OW.out
      clear HR HO HF OW
      go_wp2_with fail
      go_ret2
      exact ⟨_, rfl, HOW.out, BW.out⟩
set_option maxRecDepth 100000 in
set_option maxHeartbeats 2000000 in
theorem s_TS8 (w : World) (b : Int) (A : Option Addr) (c : Nat) (xss : List (List Int)) (hO : ROk xss) (hR : RdR w A xss) (hF : FarOk xss.length 8)
    (C0 : Hid (Calls Try.prog 90 #[.int .i64 b, .slice A xss.length c] w fun e w' => e = .returned (.bool true) ∧ Below w.heap.size w w')) :
    Calls Try.prog 52 #[.int .i64 b, .slice A xss.length c, .int .i64 8] w (RetRB w (mat xss.length (tsE xss 8), true)) := by
  have hfew := hO.few
  have HO := hid hO
  have HR := hid hR
  have HF := hid hF
  have hlt := hF.lt
  have hn16 : xss.length ≤ 16 := by omega
  have hge : ¬ ((xss.length : Int) ≤ 8) := by omega
  have hge2 : (decide ((xss.length : Int) ≤ 8)) = false := by simpa using hge
  clear hO hfew hR hF hge
  go_enter Try.func52, Try.ntmps52
  go_wp2_with fail
  refine C0.out.mono ?_
  rintro e w1 ⟨rfl, hb1⟩
  have HB1 := hid hb1
  clear hb1 C0
  go_wp2_with fail
  clear hge2
  go_loopg [9, 10] xss.length (fun gg v s wr => ∃ i : Nat, i ≤ xss.length ∧ xss.length - i ≤ gg ∧ s = .int .i64 i ∧ Aside (Below w.heap.size w wr) ∧ Aside (OR wr w.heap.size wr.heap.size v ((List.range i).map (rowG xss.length (tsE xss 8)))))
  case atStart =>
    refine ⟨0, Nat.zero_le _, by omega, rfl, balloc HB1.out _, ?_⟩
    have := OR.wide (OR.lit0 w1) HB1.out.size (Nat.le_refl _)
    show OR _ _ _ _ _
    simpa using this
  case round =>
    obtain ⟨i, hi, hg, rfl, BW, OW⟩ := hrel
    obtain ⟨wo, rfl⟩ : ∃ wo : World, wo = wr := ⟨_, rfl⟩
    clear HB1
    by_cases hlt1 : i < xss.length
    · have hlt' : (i : Int) < (xss.length : Int) := by omega
      have hob := Own.of (World.ownsRow_lit (base := wo.heap.size) (e := 2) (size := 1) wo #[] 0 (Nat.le_refl _) (by simp [maxLen]) rfl)
      have HOB := hid hob
      have HBO : Hid (Below wo.heap.size wo (wo.alloc (.cells #[] 2))) := hid (ballocw _ _)
      clear hob
      go_wp2_with fail
      go_loopg [11, 12] xss.length (fun gg v s wr => ∃ k : Nat, k ≤ xss.length ∧ xss.length - k ≤ gg ∧ s = .int .i64 k ∧ Aside (Below wo.heap.size wo wr) ∧ Aside (Own wr wo.heap.size wr.heap.size 2 1 v k (ints ((List.range k).map (tsE xss 8 i)))))
      case atStart => exact ⟨0, Nat.zero_le _, by omega, rfl, HBO.out, by simpa [Aside, ints] using HOB.out⟩
      case round =>
        obtain ⟨k, hk, hgk, rfl, BJ, OJ⟩ := hrel
        clear HOB HBO
        by_cases hlk : k < xss.length
        · have hlk' : (k : Int) < (xss.length : Int) := by omega
          have hba := HF.out.band i (by omega)
          have hbk := HF.out.band k (by omega)
          rw [show ((8 : Nat) : Int) = 8 from rfl] at hba hbk
          have HTK := hid (tsE_take (tsE xss 8 i) k)
          have hsz := BJ.out.size
          by_cases hq : bt 8 i = bt 8 k
          · have HTE : Hid (tsE xss 8 i k = el (rw_ xss i) k) := hid (by unfold tsE; rw [if_pos hq])
            rw [← hq] at hbk
            obtain ⟨bo, off, A', c', rfl, hc, _, hr⟩ := ((HR.out.below BW.out).below BJ.out).get hlt1
            have hlen := HO.out.row i hlt1
            obtain ⟨b', off', rfl, hc'⟩ := hr.get (k := k) (by omega)
            have hil : (k : Int) < ((rw_ xss i).length : Int) := by omega
            have hil2 : (rw_ xss i).length ≤ 16 := by omega
            by_cases hz : bt 8 i = 0
            all_goals
              first | rw [if_pos hz] at hba hbk | rw [if_neg hz] at hba hbk
              clear hr hlen HR HO OW BW HF hq hz
              generalize (rw_ xss i).length = rl at *
              generalize el (rw_ xss i) k = x at *
              go_wp2_with (at_builtin; refine wp_append1 wo.heap.size rfl _ _ 26 2 (.int .i64 0) 8 rfl Try.underlying26 infoInt rfl u11 k _ (.int .i64 x) rfl rfl rfl OJ.out hsz (by omega) (by omega) ?_; intro v1 w3 hown1 hbel1)
              go_roundg (xss.length - (k + 1))
              case measure => omega
              case rel =>
                refine ⟨k + 1, by omega, by omega, by go_num, ?_, ?_⟩
                · show Below _ _ _; exact BJ.out.trans hbel1
                · show Own _ _ _ _ _ _ _ _; rw [HTK.out, HTE.out, ints_append]; exact hown1
          · have HTE : Hid (tsE xss 8 i k = el (rw_ xss (xo 8 i)) (xo 8 k)) := hid (by unfold tsE; rw [if_neg hq])
            have hxi := HF.out.bxor i (by omega)
            have hxk := HF.out.bxor k (by omega)
            rw [show ((8 : Nat) : Int) = 8 from rfl] at hxi hxk
            have hpi := HF.out.xoin i hlt1
            have hpk := HF.out.xoin k hlk
            obtain ⟨bo, off, A', c', rfl, hc, _, hr⟩ := ((HR.out.below BW.out).below BJ.out).get hpi
            have hlen := HO.out.row (xo 8 i) hpi
            obtain ⟨b', off', rfl, hc'⟩ := hr.get (k := xo 8 k) (by omega)
            have hil : ((xo 8 k : Nat) : Int) < ((rw_ xss (xo 8 i)).length : Int) := by omega
            have hil2 : (rw_ xss (xo 8 i)).length ≤ 16 := by omega
            have hpi' : ((xo 8 i : Nat) : Int) < (xss.length : Int) := by omega
            have hbi2 : bt 8 i < 2 := by unfold bt; omega
            have hbk2 : bt 8 k < 2 := by unfold bt; omega
            by_cases hz : bt 8 i = 0
            · rw [if_pos hz] at hba
              rw [if_neg (by omega)] at hbk
              clear hr hlen HR HO OW BW HF hq hz hbi2 hbk2
              generalize (rw_ xss (xo 8 i)).length = rl at *
              generalize el (rw_ xss (xo 8 i)) (xo 8 k) = x at *
              generalize xo 8 i = p at *
              generalize xo 8 k = q at *
              go_wp2_with (at_builtin; refine wp_append1 wo.heap.size rfl _ _ 26 2 (.int .i64 0) 8 rfl Try.underlying26 infoInt rfl u11 k _ (.int .i64 x) rfl rfl rfl OJ.out hsz (by omega) (by omega) ?_; intro v1 w3 hown1 hbel1)
              go_roundg (xss.length - (k + 1))
              case measure => omega
              case rel =>
                refine ⟨k + 1, by omega, by omega, by go_num, ?_, ?_⟩
                · show Below _ _ _; exact BJ.out.trans hbel1
                · show Own _ _ _ _ _ _ _ _; rw [HTK.out, HTE.out, ints_append]; exact hown1
            · rw [if_neg hz] at hba
              rw [if_pos (by omega)] at hbk
              clear hr hlen HR HO OW BW HF hq hz hbi2 hbk2
              generalize (rw_ xss (xo 8 i)).length = rl at *
              generalize el (rw_ xss (xo 8 i)) (xo 8 k) = x at *
              generalize xo 8 i = p at *
              generalize xo 8 k = q at *
              go_wp2_with (at_builtin; refine wp_append1 wo.heap.size rfl _ _ 26 2 (.int .i64 0) 8 rfl Try.underlying26 infoInt rfl u11 k _ (.int .i64 x) rfl rfl rfl OJ.out hsz (by omega) (by omega) ?_; intro v1 w3 hown1 hbel1)
              go_roundg (xss.length - (k + 1))
              case measure => omega
              case rel =>
                refine ⟨k + 1, by omega, by omega, by go_num, ?_, ?_⟩
                · show Below _ _ _; exact BJ.out.trans hbel1
                · show Own _ _ _ _ _ _ _ _; rw [HTK.out, HTE.out, ints_append]; exact hown1
        · have : k = xss.length := by omega
          subst this
          have hlk' : ¬ ((xss.length : Nat) : Int) < ((xss.length : Nat) : Int) := by omega
          have hu : OI wr wo.heap.size wr.heap.size u11 (rowG xss.length (tsE xss 8) i) := by
            have := OJ.out
            unfold OI OwnI
            rw [rowG_length]
            exact this
          obtain ⟨A2, c2, rfl, _, _, _⟩ := OI.shp hu
          have hr2 := OW.out.eqv (Eqv.of BJ.out (Nat.le_refl _))
          have HSW : Hid (w.heap.size ≤ wo.heap.size) := hid BW.out.size
          have HSL : Hid (wo.heap.size ≤ wr.heap.size) := hid BJ.out.size
          have hcnt : ((List.range i).map (rowG xss.length (tsE xss 8))).length + 1 ≤ 1048576 := by simp; omega
          have HBW : Hid (Below w.heap.size w wr) := hid (bthen BW.out BJ.out)
          have HTK := hid (mat_take xss.length (tsE xss 8) i)
          clear OJ OW BW BJ HR HO HF
          go_wp2_with (at_builtin; refine wp_appendR w.heap.size wo.heap.size rfl _ _ rfl u9 _ A2 c2 (rowG xss.length (tsE xss 8) i) rfl rfl hr2 hu HSW.out HSL.out hcnt ?_; intro v1 w3 hr3 hb3)
          go_roundg (xss.length - (i + 1))
          case measure => omega
          case rel =>
            refine ⟨i + 1, by omega, by omega, by go_num, ?_, ?_⟩
            · show Below _ _ _; exact HBW.out.trans hb3
            · show OR _ _ _ _ _
              rw [HTK.out]
              exact hr3
    · have : i = xss.length := by omega
      subst this
      have hlt' : ¬ ((xss.length : Nat) : Int) < ((xss.length : Nat) : Int) := by omega
      have HOW := hid OW.out
      clear HR HO HF OW
      go_wp2_with fail
      go_ret2
      exact ⟨_, rfl, HOW.out, BW.out⟩
theorem s_TS0 (w : World) (b : Int) (A : Option Addr) (n c : Nat) (far : Int) (hn : n ≤ 1048576) (C0 : Hid (Calls Try.prog 90 #[.int .i64 b, .slice A n c] w fun e w' => e = .returned (.bool false) ∧ Below w.heap.size w w')) :
    Calls Try.prog 52 #[.int .i64 b, .slice A n c, .int .i64 far] w (RetRB w ([], false)) := by
  go_enter Try.func52, Try.ntmps52
  go_wp2_with fail
  refine C0.out.mono ?_
  rintro e w1 ⟨rfl, hb1⟩
  go_wp2_with fail
  go_ret2
  exact ⟨_, rfl, OR.nil _ _ _, hb1⟩
theorem s_TSno (w : World) (b : Int) (A : Option Addr) (n c : Nat) (far : Int) (hn : n ≤ 1048576) (h1 : (far != 1) = true) (h2 : (far != 2) = true) (h4 : (far != 4) = true) (h8 : (far != 8) = true) (C0 : Hid (Calls Try.prog 90 #[.int .i64 b, .slice A n c] w fun e w' => e = .returned (.bool true) ∧ Below w.heap.size w w')) :
    Calls Try.prog 52 #[.int .i64 b, .slice A n c, .int .i64 far] w (RetRB w ([], false)) := by
  go_enter Try.func52, Try.ntmps52
  go_wp2_with fail
  refine C0.out.mono ?_
  rintro e w1 ⟨rfl, hb1⟩
  go_wp2_with fail
  go_ret2
  exact ⟨_, rfl, OR.nil _ _ _, hb1⟩
theorem s_TSge1 (w : World) (b : Int) (A : Option Addr) (n c : Nat) (hn : n ≤ 1048576) (hg : (n : Int) ≤ 1) (C0 : Hid (Calls Try.prog 90 #[.int .i64 b, .slice A n c] w fun e w' => e = .returned (.bool true) ∧ Below w.heap.size w w')) :
    Calls Try.prog 52 #[.int .i64 b, .slice A n c, .int .i64 1] w (RetRB w ([], false)) := by
  have hge2 : (decide ((n : Int) ≤ 1)) = true := by simpa using hg
  clear hg
  go_enter Try.func52, Try.ntmps52
  go_wp2_with fail
  refine C0.out.mono ?_
  rintro e w1 ⟨rfl, hb1⟩
  go_wp2_with fail
  go_ret2
  exact ⟨_, rfl, OR.nil _ _ _, hb1⟩
theorem s_TSge2 (w : World) (b : Int) (A : Option Addr) (n c : Nat) (hn : n ≤ 1048576) (hg : (n : Int) ≤ 2) (C0 : Hid (Calls Try.prog 90 #[.int .i64 b, .slice A n c] w fun e w' => e = .returned (.bool true) ∧ Below w.heap.size w w')) :
    Calls Try.prog 52 #[.int .i64 b, .slice A n c, .int .i64 2] w (RetRB w ([], false)) := by
  have hge2 : (decide ((n : Int) ≤ 2)) = true := by simpa using hg
  clear hg
  go_enter Try.func52, Try.ntmps52
  go_wp2_with fail
  refine C0.out.mono ?_
  rintro e w1 ⟨rfl, hb1⟩
  go_wp2_with fail
  go_ret2
  exact ⟨_, rfl, OR.nil _ _ _, hb1⟩
theorem s_TSge4 (w : World) (b : Int) (A : Option Addr) (n c : Nat) (hn : n ≤ 1048576) (hg : (n : Int) ≤ 4) (C0 : Hid (Calls Try.prog 90 #[.int .i64 b, .slice A n c] w fun e w' => e = .returned (.bool true) ∧ Below w.heap.size w w')) :
    Calls Try.prog 52 #[.int .i64 b, .slice A n c, .int .i64 4] w (RetRB w ([], false)) := by
  have hge2 : (decide ((n : Int) ≤ 4)) = true := by simpa using hg
  clear hg
  go_enter Try.func52, Try.ntmps52
  go_wp2_with fail
  refine C0.out.mono ?_
  rintro e w1 ⟨rfl, hb1⟩
  go_wp2_with fail
  go_ret2
  exact ⟨_, rfl, OR.nil _ _ _, hb1⟩
theorem s_TSge8 (w : World) (b : Int) (A : Option Addr) (n c : Nat) (hn : n ≤ 1048576) (hg : (n : Int) ≤ 8) (C0 : Hid (Calls Try.prog 90 #[.int .i64 b, .slice A n c] w fun e w' => e = .returned (.bool true) ∧ Below w.heap.size w w')) :
    Calls Try.prog 52 #[.int .i64 b, .slice A n c, .int .i64 8] w (RetRB w ([], false)) := by
  have hge2 : (decide ((n : Int) ≤ 8)) = true := by simpa using hg
  clear hg
  go_enter Try.func52, Try.ntmps52
  go_wp2_with fail
  refine C0.out.mono ?_
  rintro e w1 ⟨rfl, hb1⟩
  go_wp2_with fail
  go_ret2
  exact ⟨_, rfl, OR.nil _ _ _, hb1⟩
theorem far_cases (far : Int) (n : Nat) : (farB far n = true ∧ (far = 1 ∨ far = 2 ∨ far = 4 ∨ far = 8) ∧ far < n) ∨ (farB far n = false ∧ ((far = 1 ∨ far = 2 ∨ far = 4 ∨ far = 8) ∧ (n : Int) ≤ far ∨ (far ≠ 1 ∧ far ≠ 2 ∧ far ≠ 4 ∧ far ≠ 8))) := by
  by_cases h1 : far = 1 ∨ far = 2 ∨ far = 4 ∨ far = 8
  · by_cases h2 : far < n
    · left; exact ⟨by unfold farB; simp; omega, h1, h2⟩
    · right; exact ⟨by unfold farB; simp; omega, .inl ⟨h1, by omega⟩⟩
  · right; exact ⟨by unfold farB; simp; omega, .inr (by omega)⟩
theorem s_TransposeStep (w : World) (b : Int) (A : Option Addr) (c : Nat) (xss : List (List Int)) (far : Int) (hl : rsz xss ≤ 1048576) (hR : RdR w A xss) :
    Calls Try.prog 52 #[.int .i64 b, .slice A xss.length c, .int .i64 far] w (RetRB w (m_TransposeStep b xss far)) := by
  have hn := rsz_len hl
  have c0 := s_l04Rows w b A c xss hl hR
  cases h0 : rowsB b xss with
  | false =>
    rw [h0] at c0
    rw [show m_TransposeStep b xss far = ([], false) by unfold m_TransposeStep; rw [h0]; rfl]
    exact s_TS0 w b A xss.length c far hn (hid c0)
  | true =>
    rw [h0] at c0
    have hO := ROk.of h0
    rcases far_cases far xss.length with ⟨hf, hc, hlt⟩ | ⟨hf, hc⟩
    · have hm : m_TransposeStep b xss far = (mat xss.length (tsE xss far.toNat), true) := by unfold m_TransposeStep; rw [h0, hf]; rfl
      rw [hm]
      rcases hc with rfl | rfl | rfl | rfl
      · exact s_TS1 w b A c xss hO hR (FarOk.of hO.few (by omega) (by omega)) (hid c0)
      · exact s_TS2 w b A c xss hO hR (FarOk.of hO.few (by omega) (by omega)) (hid c0)
      · exact s_TS4 w b A c xss hO hR (FarOk.of hO.few (by omega) (by omega)) (hid c0)
      · exact s_TS8 w b A c xss hO hR (FarOk.of hO.few (by omega) (by omega)) (hid c0)
    · have hm : m_TransposeStep b xss far = ([], false) := by unfold m_TransposeStep; rw [h0, hf]; rfl
      rw [hm]
      rcases hc with ⟨hc, hlt⟩ | ⟨h1, h2, h4, h8⟩
      · rcases hc with rfl | rfl | rfl | rfl
        · exact s_TSge1 w b A xss.length c hn hlt (hid c0)
        · exact s_TSge2 w b A xss.length c hn hlt (hid c0)
        · exact s_TSge4 w b A xss.length c hn hlt (hid c0)
        · exact s_TSge8 w b A xss.length c hn hlt (hid c0)
      · exact s_TSno w b A xss.length c far hn (by simpa using h1) (by simpa using h2) (by simpa using h4) (by simpa using h8) (hid c0)
end Go.Proofs.Ytbijdbdgdolnpaa
