import Derived.Test.YtbijdbdgdolnpaaTrans
set_option linter.unusedVariables false
set_option linter.unusedSimpArgs false
namespace Go.Proofs.Ytbijdbdgdolnpaa
open Go.RowKit

theorem colN_take (xss : List (List Int)) (i k : Nat) : (List.range (k + 1)).map (fun k => el (rw_ xss k) i) = (List.range k).map (fun k => el (rw_ xss k) i) ++ [el (rw_ xss k) i] := by rw [List.range_succ, List.map_append]; rfl
theorem trN_take' (xss : List (List Int)) (i : Nat) : (List.range (i + 1)).map (colN xss) = (List.range i).map (colN xss) ++ [colN xss i] := by rw [List.range_succ, List.map_append]; rfl
set_option maxRecDepth 100000 in
set_option maxHeartbeats 1000000 in
theorem s_TransposeLanes (w : World) (b : Int) (A : Option Addr) (c : Nat) (xss : List (List Int)) (hl : rsz xss ≤ 1048576) (hR : RdR w A xss) :
    Calls Try.prog 33 #[.int .i64 b, .slice A xss.length c] w (RetRB w (m_TransposeLanes b xss)) := by
  have hn := rsz_len hl
  have c0 := s_l04Rows w b A c xss hl hR
  have HR := hid hR
  clear hR hl
  cases h0 : rowsB b xss with
  | false =>
    rw [h0] at c0
    have C0 := hid c0
    have HM : Hid (m_TransposeLanes b xss = ([], false)) := hid (by unfold m_TransposeLanes; rw [h0]; rfl)
    clear c0 h0 HR
    go_enter Try.func33, Try.ntmps33
    go_wp2_with fail
    refine C0.out.mono ?_
    rintro e w1 ⟨rfl, hb1⟩
    go_wp2_with fail
    go_ret2
    exact ⟨_, by rw [HM.out]; rfl, by rw [HM.out]; exact OR.nil _ _ _, hb1⟩
  | true =>
    rw [h0] at c0
    have C0 := hid c0
    have hO := ROk.of h0
    have hfew := hO.few
    have HO := hid hO
    have hn16 : xss.length ≤ 16 := by omega
    have HM : Hid (m_TransposeLanes b xss = (trN xss, true)) := hid (by unfold m_TransposeLanes; rw [h0]; rfl)
    clear c0 h0 hO hfew
    go_enter Try.func33, Try.ntmps33
    go_wp2_with fail
    refine C0.out.mono ?_
    rintro e w1 ⟨rfl, hb1⟩
    have HB1 := hid hb1
    clear hb1 C0
    go_wp2_with fail
    go_loopg [6, 7] xss.length (fun gg v s wr => ∃ i : Nat, i ≤ xss.length ∧ xss.length - i ≤ gg ∧ s = .int .i64 i ∧ Aside (Below w.heap.size w wr) ∧ Aside (OR wr w.heap.size wr.heap.size v ((List.range i).map (colN xss))))
    case atStart =>
      refine ⟨0, Nat.zero_le _, by omega, rfl, balloc HB1.out _, ?_⟩
      have := OR.wide (OR.lit0 w1) HB1.out.size (Nat.le_refl _)
      show OR _ _ _ _ _
      simpa using this
    case round =>
      obtain ⟨i, hi, hg, rfl, BW, OW⟩ := hrel
      obtain ⟨wo, rfl⟩ : ∃ wo : World, wo = wr := ⟨_, rfl⟩
      clear HB1
      by_cases hlt : i < xss.length
      · have hlt' : (i : Int) < (xss.length : Int) := by omega
        have hob := Own.of (World.ownsRow_lit (base := wo.heap.size) (e := 2) (size := 1) wo #[] 0 (Nat.le_refl _) (by simp [maxLen]) rfl)
        have HOB := hid hob
        have HBO : Hid (Below wo.heap.size wo (wo.alloc (.cells #[] 2))) := hid (ballocw _ _)
        clear hob
        go_wp2_with fail
        go_loopg [8, 9] xss.length (fun gg v s wr => ∃ k : Nat, k ≤ xss.length ∧ xss.length - k ≤ gg ∧ s = .int .i64 k ∧ Aside (Below wo.heap.size wo wr) ∧ Aside (Own wr wo.heap.size wr.heap.size 2 1 v k (ints ((List.range k).map (fun k => el (rw_ xss k) i)))))
        case atStart => exact ⟨0, Nat.zero_le _, by omega, rfl, HBO.out, by simpa [Aside, ints] using HOB.out⟩
        case round =>
          obtain ⟨k, hk, hgk, rfl, BJ, OJ⟩ := hrel
          clear HOB HBO
          by_cases hlk : k < xss.length
          · have hlk' : (k : Int) < (xss.length : Int) := by omega
            obtain ⟨bo, off, A', c', rfl, hc, _, hr⟩ := ((HR.out.below BW.out).below BJ.out).get hlk
            have hlen := HO.out.row k hlk
            obtain ⟨b', off', rfl, hc'⟩ := hr.get (k := i) (by omega)
            have hil : (i : Int) < ((rw_ xss k).length : Int) := by omega
            have hil2 : (rw_ xss k).length ≤ 16 := by omega
            have HTK := hid (colN_take xss i k)
            have hsz := BJ.out.size
            clear hr hlen HR HO HM OW BW
            generalize (rw_ xss k).length = rl at *
            go_wp2_with (at_builtin; refine wp_append1 wo.heap.size rfl _ _ 26 2 (.int .i64 0) 8 rfl Try.underlying26 infoInt rfl u8 k _ (.int .i64 (el (rw_ xss k) i)) rfl rfl rfl OJ.out hsz (by omega) (by omega) ?_; intro v1 w3 hown1 hbel1)
            go_roundg (xss.length - (k + 1))
            case measure => omega
            case rel =>
              refine ⟨k + 1, by omega, by omega, by go_num, ?_, ?_⟩
              · show Below _ _ _; exact BJ.out.trans hbel1
              · show Own _ _ _ _ _ _ _ _; rw [HTK.out, ints_append]; exact hown1
          · have : k = xss.length := by omega
            subst this
            have hlk' : ¬ ((xss.length : Nat) : Int) < ((xss.length : Nat) : Int) := by omega
            have hu : OI wr wo.heap.size wr.heap.size u8 (colN xss i) := by
              have := OJ.out
              unfold OI OwnI
              rw [colN_length]
              exact this
            obtain ⟨A2, c2, rfl, _, _, _⟩ := OI.shp hu
            have hr2 := OW.out.eqv (Eqv.of BJ.out (Nat.le_refl _))
            have HSW : Hid (w.heap.size ≤ wo.heap.size) := hid BW.out.size
            have HSL : Hid (wo.heap.size ≤ wr.heap.size) := hid BJ.out.size
            have hcnt : ((List.range i).map (colN xss)).length + 1 ≤ 1048576 := by simp; omega
            have HBW : Hid (Below w.heap.size w wr) := hid (bthen BW.out BJ.out)
            have HTK := hid (trN_take' xss i)
            clear OJ OW BW BJ HR HO HM
            go_wp2_with (at_builtin; refine wp_appendR w.heap.size wo.heap.size rfl _ _ rfl u6 _ A2 c2 (colN xss i) rfl rfl hr2 hu HSW.out HSL.out hcnt ?_; intro v1 w3 hr3 hb3)
            go_roundg (xss.length - (i + 1))
            case measure => omega
            case rel =>
              refine ⟨i + 1, by omega, by omega, by go_num, ?_, ?_⟩
              · show Below _ _ _; exact HBW.out.trans hb3
              · show OR _ _ _ _ _
                rw [HTK.out]
                exact hr3
      · have : i = xss.length := by omega
        subst this
        have hlt' : ¬ ((xss.length : Nat) : Int) < ((xss.length : Nat) : Int) := by omega
        go_wp2_with fail
        go_ret2
        exact ⟨_, by rw [HM.out]; rfl, by rw [HM.out]; exact OW.out, BW.out⟩
end Go.Proofs.Ytbijdbdgdolnpaa
