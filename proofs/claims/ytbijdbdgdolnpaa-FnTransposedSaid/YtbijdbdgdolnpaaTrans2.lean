import Derived.Test.YtbijdbdgdolnpaaTrans
set_option linter.unusedVariables false
set_option linter.unusedSimpArgs false
namespace Go.Proofs.Ytbijdbdgdolnpaa
open Go.RowKit

theorem trN_take (xss : List (List Int)) (i : Nat) : (List.range (i + 1)).map (colN xss) = (List.range i).map (colN xss) ++ [colN xss i] := by rw [List.range_succ, List.map_append]; rfl
theorem i_TransposeLanes1 (W : World) (B D : Nat) (A : Option Addr) (c : Nat) (xss : List (List Int)) (hO : ROk xss) (i k : Nat) (hi : i < xss.length) (hk : k < xss.length) (hB : W.cell? ⟨B, 0, none⟩ = some (.slice A xss.length c)) (hD : W.cell? ⟨D, 0, none⟩ = some (.int .i64 (i : Nat))) (hR : RdR W A xss) :
    Calls Try.prog 67 #[.int .i64 (k : Nat), .pointer (some ⟨B, 0, none⟩), .pointer (some ⟨D, 0, none⟩)] W fun e w' => e = .returned (.int .i64 (el (rw_ xss k) i)) ∧ Below W.heap.size W w' := by
  have hlen := hO.row k hk
  have hfew := hO.few
  obtain ⟨b, off, A', c', rfl, hc, _, hr⟩ := hR.get hk
  obtain ⟨b', off', rfl, hc'⟩ := hr.get (k := i) (by omega)
  have hlt : (i : Int) < ((rw_ xss k).length : Int) := by omega
  have hlk : (k : Int) < (xss.length : Int) := by omega
  have hn : xss.length ≤ 16 := by omega
  have hn' : (rw_ xss k).length ≤ 16 := by omega
  clear hR hr hO hfew hlen
  generalize el (rw_ xss k) i = x at *
  generalize (rw_ xss k).length = rl at *
  go_enter Try.func67, Try.ntmps67
  go_wp2
  go_quiet (fail)
  go_wp2
  go_ret
  exact ⟨rfl, ⟨rfl, rfl, rfl, Nat.le_refl _, fun _ _ => rfl⟩⟩
theorem i_TransposeLanesV (V : World) (B D : Nat) (A : Option Addr) (c : Nat) (xss : List (List Int)) (hO : ROk xss) (i : Nat) (hi : i < xss.length) (hB : V.cell? ⟨B, 0, none⟩ = some (.slice A xss.length c)) (hD : V.cell? ⟨D, 0, none⟩ = some (.int .i64 (i : Nat))) (hR : RdR V A xss) :
    Calls Try.prog 66 #[.int .i64 (xss.length : Nat), .func (.func 67) #[] #[.pointer (some ⟨B, 0, none⟩), .pointer (some ⟨D, 0, none⟩)]] V (RetI V 2 (colN xss i)) := by
  have hfew := hO.few
  exact i_lanesOf V xss.length 67 #[.pointer (some ⟨B, 0, none⟩), .pointer (some ⟨D, 0, none⟩)] (fun k => el (rw_ xss k) i) (by omega) (enters_of Try.func67 (by kernel_rfl) rfl)
    (fun W hW k hk => i_TransposeLanes1 W B D A c xss hO i k hi hk (bcell hW hB) (bcell hW hD) (hR.below hW))
set_option maxRecDepth 100000 in
theorem i_TransposeLanes (w : World) (b : Int) (A : Option Addr) (c : Nat) (xss : List (List Int)) (hl : rsz xss ≤ 1048576) (hR : RdR w A xss) :
    Calls Try.prog 18 #[.int .i64 b, .slice A xss.length c] w (RetRB w (m_TransposeLanes b xss)) := by
  have hn := rsz_len hl
  have hb0 : Below w.heap.size w (w.alloc (.cells #[.slice A xss.length c] 25)) := ballocw _ _
  have hcl : (w.alloc (.cells #[.slice A xss.length c] 25)).cell? ⟨w.heap.size, 0, none⟩ = some (.slice A xss.length c) := box_newR _ _ _
  have hsz0 : (w.alloc (.cells #[.slice A xss.length c] 25)).heap.size = w.heap.size + 1 := by simp
  have c0 := i_areRows (w.alloc (.cells #[.slice A xss.length c] 25)) b A c xss hl (hR.below hb0)
  have HR := hid hR
  have HCL := hid hcl
  have HB0 := hid hb0
  have HS0 := hid hsz0
  clear hR hcl hb0 hsz0
  generalize hV : w.alloc (.cells #[.slice A xss.length c] 25) = V at *
  have HV := hid hV
  clear hV hl
  cases h0 : rowsB b xss with
  | false =>
    rw [h0] at c0
    have C0 := hid c0
    have HM : Hid (m_TransposeLanes b xss = ([], false)) := hid (by unfold m_TransposeLanes; rw [h0]; rfl)
    have hcl := HCL.out
    clear c0 h0 HR HCL
    go_enter Try.func18, Try.ntmps18
    go_wp2_with fail
    rw [HV.out]
    refine C0.out.mono ?_
    rintro e w1 ⟨rfl, hb1⟩
    go_wp2_with fail
    go_ret2
    exact ⟨_, by rw [HM.out]; rfl, by rw [HM.out]; exact OR.nil _ _ _, bthen HB0.out hb1⟩
  | true =>
    rw [h0] at c0
    have C0 := hid c0
    have hO := ROk.of h0
    have hfew := hO.few
    have HO := hid hO
    have hn16 : xss.length ≤ 16 := by omega
    have HM : Hid (m_TransposeLanes b xss = (trN xss, true)) := hid (by unfold m_TransposeLanes; rw [h0]; rfl)
    have hcl := HCL.out
    clear c0 h0 hO hfew
    go_enter Try.func18, Try.ntmps18
    go_wp2_with fail
    rw [HV.out]
    refine C0.out.mono ?_
    rintro e w1 ⟨rfl, hb1⟩
    have hcl1 := bcell hb1 HCL.out
    have HB1 := hid hb1
    clear hb1 C0 hcl
    go_wp2_with fail
    clear hcl1
    go_loopg [6, 14] xss.length (fun gg v s wr => ∃ k : Nat, k ≤ xss.length ∧ xss.length - k ≤ gg ∧ s = .int .i64 k ∧ Aside (Below V.heap.size V wr) ∧ Aside (OR wr V.heap.size wr.heap.size v ((List.range k).map (colN xss))))
    case atStart => exact ⟨0, Nat.zero_le _, by omega, rfl, HB1.out, OR.nil _ _ _⟩
    case round =>
      obtain ⟨i, hi, hg, rfl, BW, OW⟩ := hrel
      by_cases hlt : i < xss.length
      · have hlt' : (i : Int) < (xss.length : Int) := by omega
        have hbt : Below wr.heap.size wr (wr.alloc (.cells #[.int .i64 (i : Nat)] 3)) := ballocw _ _
        have hbv := bthen BW.out hbt
        have hst : (wr.alloc (.cells #[.int .i64 (i : Nat)] 3)).heap.size = wr.heap.size + 1 := by simp
        have hcall := i_TransposeLanesV (wr.alloc (.cells #[.int .i64 (i : Nat)] 3)) w.heap.size wr.heap.size A c xss HO.out i hlt (bcell hbv HCL.out) (box_newR _ _ _) ((HR.out.below HB0.out).below hbv)
        have ho1 := OW.out.eqv (Eqv.of hbt (Nat.le_refl _))
        have hcl := bcell hbv HCL.out
        have hszw := BW.out.size
        have HCALL := hid hcall
        have HBV := hid hbv
        have HO1 := hid ho1
        have HST := hid hst
        have HSW : Hid (V.heap.size ≤ wr.heap.size) := hid hszw
        clear hcall hbv ho1 hst hbt OW BW HO HR HB1 hszw
        go_wp2_with fail
        refine HCALL.out.mono ?_
        rintro e w2 ⟨v2, rfl, ho2, hb2⟩
        obtain ⟨A2, c2, rfl, _, _, _⟩ := Own.int ho2
        have hu : OI w2 wr.heap.size w2.heap.size (.slice A2 (colN xss i).length c2) (colN xss i) := Own.wide ho2 (by have := HST.out; omega) (Nat.le_refl _)
        have hr2 := HO1.out.eqv (Eqv.of hb2 (by have := HST.out; omega))
        have hs2 := hb2.size
        have hcnt : ((List.range i).map (colN xss)).length + 1 ≤ 1048576 := by simp; omega
        have HSL : Hid (wr.heap.size ≤ w2.heap.size) := hid (by have := HST.out; omega)
        have HBW : Hid (Below V.heap.size V w2) := hid (bthen HBV.out hb2)
        have HTK := hid (trN_take xss i)
        clear HCALL HBV HO1 HST HCL HS0 HB0 HV hcl
        go_wp2_with (at_builtin; refine wp_appendR V.heap.size wr.heap.size rfl _ _ rfl u6 _ A2 c2 (colN xss i) rfl rfl hr2 hu HSW.out HSL.out hcnt ?_; intro v1 w3 hr3 hb3)
        go_roundg (xss.length - (i + 1))
        case measure => omega
        case rel =>
          refine ⟨i + 1, by omega, by omega, by go_num, ?_, ?_⟩
          · show Below _ _ _; exact HBW.out.trans hb3
          · show OR _ _ _ _ _
            rw [HTK.out]
            exact hr3
      · have : i = xss.length := by omega
        subst this
        go_wp2_with fail
        go_ret2
        exact ⟨_, by rw [HM.out]; rfl, by rw [HM.out]; exact OW.out.wide HB0.out.size (Nat.le_refl _), bthen HB0.out BW.out⟩
end Go.Proofs.Ytbijdbdgdolnpaa
