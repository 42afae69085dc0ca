import Derived.Test.YtcknhjeefdbhbaaVal3
import Derived.Test.YtcknhjeefdbhbaaCalm
set_option linter.unusedVariables false
set_option linter.unusedSimpArgs false
namespace Go.Proofs.Ytcknhjeefdbhbaa
open Go.RowKit

/-! ### The reference's states -/
def wordsB (bi : Int) (xs : List Int) : Bool := bitsB bi && xs.all (wordB bi)
def vrow2 (la bi : Int) (xs : List Int) : Bool := ((xs.length : Int) == la) && wordsB bi xs
def mrow2 (la : Int) (xs : List Int) : Bool := ((xs.length : Int) == la) && xs.all (fun x => inB x 0 1)
def st2B (la bi : Int) (s : StV) : Bool := decide (s.vec.length = 8) && (decide (s.msk.length = 4) && (decide (s.mem.length = 64) && (wordsB bi s.mem && (s.vec.all (vrow2 la bi) && s.msk.all (mrow2 la)))))
theorem st2_eq {la bi : Int} {s : StV} (h : machB la bi = true) : st2B la bi s = stateB la bi s := by
  simp only [machB, Bool.and_eq_true] at h
  have h1 : vrow2 la bi = vrowB la bi := by
    funext xs; unfold vrow2 vrowB wordsB vecB
    by_cases e : (xs.length : Int) = la
    · rw [e, h.1]; simp
    · have eb : ((xs.length : Int) == la) = false := by simpa using e
      rw [eb]; simp
  have h2 : mrow2 la = mrowB la := by
    funext xs; unfold mrow2 mrowB maskB
    by_cases e : (xs.length : Int) = la
    · rw [e, h.1]; simp
    · have eb : ((xs.length : Int) == la) = false := by simpa using e
      rw [eb]; simp
  unfold st2B stateB memB
  rw [h1, h2]
  unfold wordsB
  rw [show machB la bi = true by simp [machB, h.1, h.2], h.2]
  cases decide (s.vec.length = 8) <;> cases decide (s.msk.length = 4) <;> simp [Bool.and_assoc]
theorem allR_no {xss : List (List Int)} {p : List Int → Bool} {k : Nat} (hk : k < xss.length) (h : p (rw_ xss k) = false) : xss.all p = false := by
  rw [Bool.eq_false_iff]; intro h2
  rw [List.all_eq_true] at h2
  have := h2 _ (rw_mem hk); rw [h] at this; cases this
theorem allR_yes {xss : List (List Int)} {p : List Int → Bool} (h : ∀ k, k < xss.length → p (rw_ xss k) = true) : xss.all p = true := by
  rw [List.all_eq_true]; intro x hx
  obtain ⟨k, hk, rfl⟩ := List.getElem_of_mem hx
  have := h k hk
  unfold rw_ at this; rwa [List.getD_eq_getElem?_getD, List.getElem?_eq_getElem hk] at this
theorem allE_no {xs : List Int} {p : Int → Bool} {k : Nat} (hk : k < xs.length) (h : p (el xs k) = false) : xs.all p = false := by
  rw [Bool.eq_false_iff]; intro h2
  rw [List.all_eq_true] at h2
  have := h2 _ (el_mem hk); rw [h] at this; cases this
theorem allE_yes {xs : List Int} {p : Int → Bool} (h : ∀ k, k < xs.length → p (el xs k) = true) : xs.all p = true := by
  rw [← allN_ints]; unfold allN; rw [List.all_eq_true]; intro k hk; exact h k (List.mem_range.1 hk)
set_option maxRecDepth 100000 in
set_option maxHeartbeats 1000000 in
theorem s_L5 (w : World) (B D : Nat) (la bi : Int) (A1 A2 A3 : Option Addr) (n1 c1 n2 c2 n3 c3 : Nat) (V M : List (List Int)) (r wb : Bool) (hv : V.length = n1) (hm : M.length = n2) (hl1 : n1 ≤ 1048576) (hl2 : n2 ≤ 1048576) (hl3 : n3 ≤ 1048576)
    (hz1 : ∀ k, k < n1 → (rw_ V k).length ≤ 1048576) (hz2 : ∀ k, k < n2 → (rw_ M k).length ≤ 1048576)
    (m0 : w.cell? ⟨B, 0, none⟩ = some (.int .i64 la)) (m1 : w.cell? ⟨B, 1, none⟩ = some (.int .i64 bi))
    (s0 : w.cell? ⟨D, 0, none⟩ = some (.slice A1 n1 c1)) (s1 : w.cell? ⟨D, 1, none⟩ = some (.slice A2 n2 c2)) (s2 : w.cell? ⟨D, 2, none⟩ = some (.slice A3 n3 c3))
    (hV : RdR w A1 V) (hM : RdR w A2 M)
    (CW : Hid (∀ W, Below w.heap.size w W → Calls Try.prog 81 #[.int .i64 bi, .slice A3 n3 c3] W fun e w' => e = .returned (.bool wb) ∧ Below W.heap.size W w'))
    (HR : Hid (r = (decide (n1 = 8) && (decide (n2 = 4) && (decide (n3 = 64) && (wb && (V.all (vrow2 la bi) && M.all (mrow2 la)))))))) :
    Calls Try.prog 72 #[.pointer (some ⟨B, 0, none⟩), .pointer (some ⟨D, 0, none⟩)] w fun e w' => e = .returned (.bool r) ∧ Below w.heap.size w w' := by
  have m0l := lcell m0
  have m1l := lcell m1
  have s0l := lcell s0
  have s1l := lcell s1
  have s2l := lcell s2
  cases h1 : decide (n1 = 8) with
  | false =>
    have b1 : ((n1 : Int) != 8) = true := by simp at h1 ⊢; omega
    have HF : Hid (false = r) := hid (by rw [HR.out, h1]; rfl)
    clear h1 HR hV hM hz1 hz2 hv hm CW m0 m1 s0 s1 s2
    go_enter Try.func72, Try.ntmps72
    go_wp2
    refine wp_region_calm (by kernel_rfl) (by kernel_rfl) ?_
    repeat (go_big_quiet_step (fail))
    refine wpQuiet_nil ?_
    intro _ hw'
    obtain ⟨xq, hw''⟩ := hw'
    subst hw''
    go_wp2
    go_ret
    exact ⟨ret_b HF.out, xq.below⟩
  | true =>
  have b1 : ((n1 : Int) != 8) = false := by simp at h1 ⊢; omega
  cases h2 : decide (n2 = 4) with
  | false =>
    have b2 : ((n2 : Int) != 4) = true := by simp at h2 ⊢; omega
    have HF : Hid (false = r) := hid (by rw [HR.out, h1, h2]; rfl)
    clear h1 h2 HR hV hM hz1 hz2 hv hm CW m0 m1 s0 s1 s2
    go_enter Try.func72, Try.ntmps72
    go_wp2
    refine wp_region_calm (by kernel_rfl) (by kernel_rfl) ?_
    repeat (go_big_quiet_step (fail))
    refine wpQuiet_nil ?_
    intro _ hw'
    obtain ⟨xq, hw''⟩ := hw'
    subst hw''
    go_wp2
    go_ret
    exact ⟨ret_b HF.out, xq.below⟩
  | true =>
  have b2 : ((n2 : Int) != 4) = false := by simp at h2 ⊢; omega
  cases h3 : decide (n3 = 64) with
  | false =>
    have b3 : ((n3 : Int) != 64) = true := by simp at h3 ⊢; omega
    have HF : Hid (false = r) := hid (by rw [HR.out, h1, h2, h3]; rfl)
    clear h1 h2 h3 HR hV hM hz1 hz2 hv hm CW m0 m1 s0 s1 s2
    go_enter Try.func72, Try.ntmps72
    go_wp2
    refine wp_region_calm (by kernel_rfl) (by kernel_rfl) ?_
    repeat (go_big_quiet_step (fail))
    refine wpQuiet_nil ?_
    intro _ hw'
    obtain ⟨xq, hw''⟩ := hw'
    subst hw''
    go_wp2
    go_ret
    exact ⟨ret_b HF.out, xq.below⟩
  | true =>
  have b3 : ((n3 : Int) != 64) = false := by simp at h3 ⊢; omega
  cases wb with
  | false =>
    have HF : Hid (false = r) := hid (by rw [HR.out]; simp)
    clear h1 h2 h3 HR hV hM hz1 hz2 hv hm m0 m1 s0 s1 s2
    go_enter Try.func72, Try.ntmps72
    go_wp2
    refine wp_region_calm (by kernel_rfl) (by kernel_rfl) ?_
    repeat (go_big_quiet_step (exact calm_of (CW.out _ (Lat.below _))))
    refine wpQuiet_nil ?_
    intro _ hw'
    obtain ⟨xq, hw''⟩ := hw'
    subst hw''
    go_wp2
    go_ret
    exact ⟨ret_b HF.out, xq.below⟩
  | true =>
  have HNV : Hid (∀ k, k < n1 → vrow2 la bi (rw_ V k) = false → false = r) := hid fun k hk h => by rw [HR.out, allR_no (k := k) (by omega) h]; simp
  have HNM : Hid (∀ k, k < n2 → mrow2 la (rw_ M k) = false → false = r) := hid fun k hk h => by rw [HR.out, allR_no (xss := M) (k := k) (by omega) h]; simp
  have HY : Hid ((∀ k, k < n1 → vrow2 la bi (rw_ V k) = true) → (∀ k, k < n2 → mrow2 la (rw_ M k) = true) → true = r) := hid fun ha hb => by
    rw [HR.out, h1, h2, h3, allR_yes (fun k hk => ha k (by omega)), allR_yes (fun k hk => hb k (by omega))]; rfl
  have HV : Hid (∀ W, Below w.heap.size w W → ∀ k, k < n1 → _) := hid fun W (hW : Below w.heap.size w W) k (hk : k < n1) => (hV.below hW).get (k := k) (by omega)
  have HM : Hid (∀ W, Below w.heap.size w W → ∀ k, k < n2 → _) := hid fun W (hW : Below w.heap.size w W) k (hk : k < n2) => (hM.below hW).get (k := k) (by omega)
  have HZ1 := hid hz1
  have HZ2 := hid hz2
  have HVR : Hid (∀ xs, vrow2 la bi xs = (((xs.length : Int) == la) && wordsB bi xs)) := hid fun _ => rfl
  have HMR : Hid (∀ xs, mrow2 la xs = (((xs.length : Int) == la) && xs.all (fun x => inB x 0 1))) := hid fun _ => rfl
  have M0 := hid m0
  have M1 := hid m1
  have S0 := hid s0
  have S1 := hid s1
  clear h1 h2 h3 HR hV hM hz1 hz2 hv hm m0 m1 s0 s1 s2
  go_enter Try.func72, Try.ntmps72
  go_wp2
  refine wp_region_calm (by kernel_rfl) (by kernel_rfl) ?_
  repeat (go_big_quiet_step (exact calm_of (CW.out _ (Lat.below _))))
  refine wpQuiet_nil ?_
  intro _ hw'
  obtain ⟨xq, hw''⟩ := hw'
  subst hw''
  have hxb := xq.below
  generalize xq.val = wx at *
  have HX := hid hxb
  clear hxb m0l m1l s0l s1l s2l CW b1 b2 b3
  go_wp2
  go_loopg [5] n1 (fun gg s wr => ∃ k : Nat, k ≤ n1 ∧ n1 - k ≤ gg ∧ s = .int .i64 k ∧ Aside (Below w.heap.size w wr) ∧ Aside (∀ j, j < k → vrow2 la bi (rw_ V j) = true))
  case atStart => exact ⟨0, Nat.zero_le _, by omega, rfl, HX.out, fun j hj => absurd hj (Nat.not_lt_zero _)⟩
  case round =>
    obtain ⟨k, hk, hg, rfl, BW, AL⟩ := hrel
    have s0r := bcell BW.out S0.out
    by_cases hlt : k < n1
    · have hlt' : (k : Int) < (n1 : Int) := by omega
      obtain ⟨b, off, A', c', rfl, hc, _, hrow⟩ := HV.out wr BW.out k hlt
      have hzk := HZ1.out k hlt
      have m0l := lcell (bcell BW.out M0.out)
      have m1l := lcell (bcell BW.out M1.out)
      have s0l := lcell s0r
      have hcl := lcell hc
      have CK := hid (fun W (hW : Below wr.heap.size wr W) => s_l01Words W bi A' c' (rw_ V k) (by omega) (hrow.below hW))
      have HE := hid (HVR.out (rw_ V k))
      have HN := hid (HNV.out k hlt)
      have HBB : Hid (∀ x : Lat wr, Below w.heap.size w x.val) := hid fun x => bthen BW.out x.below
      clear HNV HNM HM HV HZ1 HZ2 HVR HMR hrow S1 M0 M1 S0
      change Hid (∀ W, _ → Calls Try.prog _ _ W fun e w' => e = .returned (.bool (wordsB bi (rw_ V k))) ∧ _) at CK
      generalize hx : vrow2 la bi (rw_ V k) = xv at HE HN
      generalize wordsB bi (rw_ V k) = xw at *
      generalize (rw_ V k).length = nk at *
      by_cases hq : (nk : Int) = la
      · have hq' : ((nk : Int) != la) = false := by simp [hq]
        cases xw with
        | false =>
          have HF := hid (HN.out (by rw [HE.out]; simp))
          clear HN HE hx AL hc HY HX hq
          go_wp2
          refine wp_region_calm (by kernel_rfl) (by kernel_rfl) ?_
          repeat (go_big_quiet_step (exact calm_of (CK.out _ (Lat.below _))))
          refine wpQuiet_nil ?_
          intro _ hw'
          obtain ⟨xq, hw''⟩ := hw'
          subst hw''
          go_wp2
          go_ret
          exact ⟨ret_b HF.out, HBB.out _⟩
        | true =>
          have AL' : Aside (∀ j, j < k + 1 → vrow2 la bi (rw_ V j) = true) := by
            intro j hj
            by_cases e : j = k
            · subst e; rw [hx, HE.out]; simp [hq]
            · exact AL.out j (by omega)
          clear HN HE hx AL hc HY HX hq
          go_wp2
          refine wp_region_calm (by kernel_rfl) (by kernel_rfl) ?_
          repeat (go_big_quiet_step (exact calm_of (CK.out _ (Lat.below _))))
          refine wpQuiet_nil ?_
          intro _ hw'
          obtain ⟨xq, hw''⟩ := hw'
          subst hw''
          go_wp2
          go_roundg (n1 - (k + 1))
          case measure => omega
          case rel => exact ⟨k + 1, by omega, by omega, by go_num, HBB.out _, AL'⟩
      · have hq' : ((nk : Int) != la) = true := by simpa using hq
        have HF := hid (HN.out (by rw [HE.out]; simp [hq]))
        clear HN HE hx AL hc HY HX hq CK
        go_wp2
        refine wp_region_calm (by kernel_rfl) (by kernel_rfl) ?_
        repeat (go_big_quiet_step (fail))
        refine wpQuiet_nil ?_
        intro _ hw'
        obtain ⟨xq, hw''⟩ := hw'
        subst hw''
        go_wp2
        go_ret
        exact ⟨ret_b HF.out, HBB.out _⟩
    · obtain rfl : k = n1 := by omega
      have HY2 := hid (HY.out AL.out)
      clear HY HV HVR HNV HZ1 AL hlt
      go_wp2
      go_loopg [6] n2 (fun gg s wr => ∃ k : Nat, k ≤ n2 ∧ n2 - k ≤ gg ∧ s = .int .i64 k ∧ Aside (Below w.heap.size w wr) ∧ Aside (∀ j, j < k → mrow2 la (rw_ M j) = true))
      case atStart => exact ⟨0, Nat.zero_le _, by omega, rfl, BW, fun j hj => absurd hj (Nat.not_lt_zero _)⟩
      case round =>
        clear BW s0r
        obtain ⟨k2, hk2, hg2, rfl, BW, AL⟩ := hrel
        obtain ⟨wo, rfl⟩ : ∃ wo : World, wo = wr := ⟨_, rfl⟩
        have s1r := bcell BW.out S1.out
        by_cases hlt : k2 < n2
        · have hlt' : (k2 : Int) < (n2 : Int) := by omega
          obtain ⟨b, off, A', c', rfl, hc, _, hrow⟩ := HM.out wo BW.out k2 hlt
          have hzk := HZ2.out k2 hlt
          have m0l := lcell (bcell BW.out M0.out)
          have s1l := lcell s1r
          have hcl := lcell hc
          have HE := hid (HMR.out (rw_ M k2))
          have HN := hid (HNM.out k2 hlt)
          have HRW := hid hrow
          have HBB : Hid (∀ x : Lat wo, Below w.heap.size w x.val) := hid fun x => bthen BW.out x.below
          have S1r := hid s1r
          have HC := hid hc
          have HNO : Hid (∀ j, j < (rw_ M k2).length → inB (el (rw_ M k2) j) 0 1 = false → (rw_ M k2).all (fun x => inB x 0 1) = false) := hid fun j hj h => allE_no hj h
          have HYE : Hid ((∀ j, j < (rw_ M k2).length → inB (el (rw_ M k2) j) 0 1 = true) → (rw_ M k2).all (fun x => inB x 0 1) = true) := hid fun h => allE_yes h
          have HS : Hid (mrow2 la (rw_ M k2) = true → Aside (∀ j, j < k2 + 1 → mrow2 la (rw_ M j) = true)) := hid fun h j hj => by
            by_cases e : j = k2
            · subst e; exact h
            · exact AL.out j (by omega)
          clear HNM HM HZ2 HMR hrow M0 M1 S0 S1 AL HX
          generalize rw_ M k2 = R at *
          by_cases hq : (R.length : Int) = la
          · have HQ := hid hq
            have hq' : ((R.length : Int) != la) = false := by simp [hq]
            clear hc hq
            go_wp2
            refine wp_region_calm (by kernel_rfl) (by kernel_rfl) ?_
            repeat (go_big_quiet_step (fail))
            refine wpQuiet_nil ?_
            intro _ hw'
            obtain ⟨xq, hw''⟩ := hw'
            subst hw''
            have hxb := xq.below
            have hb2 := HBB.out xq
            generalize xq.val = wx2 at *
            have S2 := hid (bcell hxb S1r.out)
            have HC2 := hid (bcell hxb HC.out)
            have HRW2 := hid (HRW.out.below hxb)
            have HB2 := hid hb2
            clear hxb hb2 hcl s1l m0l S1r HC HRW HBB hq' s1r
            go_wp2
            go_loopg [7] R.length (fun gg s wr => ∃ k : Nat, k ≤ R.length ∧ R.length - k ≤ gg ∧ s = .int .i64 k ∧ Aside (wr = wx2) ∧ Aside (∀ j, j < k → inB (el R j) 0 1 = true))
            case atStart => exact ⟨0, Nat.zero_le _, by omega, rfl, rfl, fun j hj => absurd hj (Nat.not_lt_zero _)⟩
            case round =>
              obtain ⟨k3, hk3, hg3, rfl, BN, AL3⟩ := hrel
              obtain rfl := BN.out
              clear BN
              have s1r := S2.out
              have hc := HC2.out
              by_cases hl3 : k3 < R.length
              · have hl3' : (k3 : Int) < (R.length : Int) := by omega
                obtain ⟨b5, off5, rfl, hce⟩ := HRW2.out.get hl3
                have c5 := fun W => s_l00In (el R k3) 0 1 W
                cases hi : inB (el R k3) 0 1 with
                | false =>
                  rw [hi] at c5
                  have C5 := hid c5
                  have HF := hid (HN.out (by rw [HE.out, HNO.out k3 hl3 hi]; simp))
                  clear c5 hi HN HE HNO HYE HS AL3 HRW2 HY2 HQ
                  generalize el R k3 = x at *
                  generalize R.length = nr at *
                  go_wp2_with fail
                  refine (C5.out _).mono ?_
                  rintro e w5 ⟨rfl, rfl⟩
                  go_wp2_with fail
                  go_ret
                  exact ⟨ret_b HF.out, HB2.out⟩
                | true =>
                  rw [hi] at c5
                  have C5 := hid c5
                  have AL' : Aside (∀ j, j < k3 + 1 → inB (el R j) 0 1 = true) := by
                    intro j hj
                    by_cases e : j = k3
                    · subst e; exact hi
                    · exact AL3.out j (by omega)
                  clear c5 hi HN HE HNO HYE HS AL3 HRW2 HY2 HQ
                  generalize el R k3 = x at *
                  go_wp2_with fail
                  refine (C5.out _).mono ?_
                  rintro e w5 ⟨rfl, rfl⟩
                  go_wp2_with fail
                  go_roundg (R.length - (k3 + 1))
                  case measure => omega
                  case rel => exact ⟨k3 + 1, by omega, by omega, by go_num, rfl, AL'⟩
              · obtain rfl : k3 = R.length := by omega
                have AL' := HS.out (by rw [HE.out, HYE.out AL3.out]; simp [HQ.out])
                clear HN HE HNO HYE HS AL3 HRW2 HY2 HQ
                go_wp2
                go_roundg (n2 - (k2 + 1))
                case measure => omega
                case rel => exact ⟨k2 + 1, by omega, by omega, by go_num, HB2.out, AL'⟩
          · have hq' : ((R.length : Int) != la) = true := by simpa using hq
            have HF := hid (HN.out (by rw [HE.out]; simp [hq]))
            clear HN HE HNO HYE HS HRW S1r HC HY2 hq
            generalize R.length = nr at *
            go_wp2
            refine wp_region_calm (by kernel_rfl) (by kernel_rfl) ?_
            repeat (go_big_quiet_step (fail))
            refine wpQuiet_nil ?_
            intro _ hw'
            obtain ⟨xq, hw''⟩ := hw'
            subst hw''
            go_wp2
            go_ret
            exact ⟨ret_b HF.out, HBB.out _⟩
        · obtain rfl : k2 = n2 := by omega
          have HF := hid (HY2.out AL.out)
          clear HY2 AL HNM HM HZ2 HMR
          go_wp2
          go_ret
          exact ⟨ret_b HF.out, BW.out⟩
end Go.Proofs.Ytcknhjeefdbhbaa
