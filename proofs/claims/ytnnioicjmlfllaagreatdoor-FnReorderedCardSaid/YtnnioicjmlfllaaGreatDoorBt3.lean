import Derived.Test.YtnnioicjmlfllaaGreatDoorBt2
import Derived.Test.YtnnioicjmlfllaaGreatDoorOwnA
import Derived.Test.YtnnioicjmlfllaaGreatDoorAppE
set_option linter.unusedVariables false
set_option linter.unusedSimpArgs false
namespace Go.Proofs.YtnnioicjmlfllaaGreatDoor
open Go.RowKit

/-! ### An order of code that is drawn -/
theorem nodup_few : ∀ (n : Nat) (l : List Int), l.Nodup → (∀ x ∈ l, 0 ≤ x ∧ x < n) → l.length ≤ n := by
  intro n
  induction n with
  | zero =>
    intro l _ h
    cases l with
    | nil => simp
    | cons x r => have := h x (by simp); omega
  | succ n ih =>
    intro l hn h
    by_cases hm : (n : Int) ∈ l
    · have h1 := ih (l.erase n) (hn.erase _) (fun x hx => by
        have := (hn.mem_erase_iff).1 hx
        have := h x this.2
        have := ‹x ≠ (n : Int) ∧ x ∈ l›.1
        omega)
      rw [List.length_erase_of_mem hm] at h1
      omega
    · have := ih l hn (fun x hx => by
        have := h x hx
        have : x ≠ n := fun q => hm (q ▸ hx)
        omega)
      omega
/-- What stands in an order of code so far: each number once, behind all that it must follow. -/
structure OrdC (cs : List SmV) (ys : List Int) : Prop where
  nd : ys.Nodup
  rg : ∀ x ∈ ys, 0 ≤ x ∧ x < cs.length
  dep : ∀ k, k < ys.length → ∀ i : Nat, (i : Int) < el ys k → folB (sel cs i) (sel cs (el ys k).toNat) = true → (i : Int) ∈ ys.take k
def fneN (cs : List SmV) (xs : List Int) (j i : Nat) : Bool := !hasB xs (j : Int) && (List.range i).all fun i' => hasB xs (i' : Int) || !folB (sel cs i') (sel cs j)
theorem fneN_zero (cs : List SmV) (xs : List Int) (j : Nat) : fneN cs xs j 0 = !hasB xs (j : Int) := by simp [fneN]
theorem fneN_next (cs : List SmV) (xs : List Int) (j i : Nat) : fneN cs xs j (i + 1) = (fneN cs xs j i && (hasB xs (i : Int) || !folB (sel cs i) (sel cs j))) := by
  unfold fneN; rw [List.range_succ, List.all_append]; simp [Bool.and_assoc]
def freN (cs : List SmV) (xs : List Int) (j : Nat) : List Int := ((List.range j).filter fun j' => fneN cs xs j' j').map fun j' : Nat => (j' : Int)
theorem freN_next (cs : List SmV) (xs : List Int) (j : Nat) : freN cs xs (j + 1) = freN cs xs j ++ (if fneN cs xs j j then [(j : Int)] else []) := by
  unfold freN; rw [List.range_succ, List.filter_append, List.map_append]
  congr 1
  by_cases h : fneN cs xs j j = true
  · rw [if_pos h]; simp [h]
  · rw [if_neg h]; simp [h]
theorem freN_le (cs : List SmV) (xs : List Int) (j : Nat) : (freN cs xs j).length ≤ j := by
  unfold freN; rw [List.length_map]; refine Nat.le_trans (List.length_filter_le _ _) ?_; simp
theorem freN_mem {cs : List SmV} {xs : List Int} {n : Nat} {x : Int} (h : x ∈ freN cs xs n) : ∃ j : Nat, x = j ∧ j < n ∧ fneN cs xs j j = true := by
  unfold freN at h
  obtain ⟨j, hj, rfl⟩ := List.mem_map.1 h
  rw [List.mem_filter, List.mem_range] at hj
  exact ⟨j, rfl, hj.1, hj.2⟩
theorem OrdC.few {cs : List SmV} {ys : List Int} (h : OrdC cs ys) : ys.length ≤ cs.length := nodup_few _ _ h.nd h.rg
theorem OrdC.snoc {cs : List SmV} {xs : List Int} (h : OrdC cs xs) {j : Nat} (hj : j < cs.length) (hf : fneN cs xs j j = true) : OrdC cs (xs ++ [(j : Int)]) := by
  unfold fneN at hf
  rw [Bool.and_eq_true, List.all_eq_true] at hf
  obtain ⟨h1, h2⟩ := hf
  have hn : (j : Int) ∉ xs := fun hm => by rw [hasB_iff.2 hm] at h1; cases h1
  refine ⟨List.nodup_append.2 ⟨h.nd, by simp, fun a ha b hb e => ?_⟩, fun x hx => ?_, fun k hk i hi hfo => ?_⟩
  · simp at hb; subst hb; subst e; exact hn ha
  · rcases List.mem_append.1 hx with hx | hx
    · exact h.rg x hx
    · simp at hx; subst hx; omega
  · rw [List.length_append, List.length_singleton] at hk
    by_cases e : k < xs.length
    · have ee : el (xs ++ [(j : Int)]) k = el xs k := by unfold el; rw [List.getD_eq_getElem?_getD, List.getD_eq_getElem?_getD, List.getElem?_append_left e]
      rw [ee] at hi hfo
      rw [List.take_append_of_le_length (by omega)]
      exact h.dep k e i hi hfo
    · obtain rfl : k = xs.length := by omega
      have ee : el (xs ++ [(j : Int)]) xs.length = (j : Int) := by unfold el; rw [List.getD_eq_getElem?_getD]; simp
      rw [ee, Int.toNat_natCast] at hfo
      rw [ee] at hi
      rw [List.take_append_of_le_length (Nat.le_refl _), List.take_length]
      have := h2 i (List.mem_range.2 (by omega))
      rw [hfo, Bool.not_true, Bool.or_false] at this
      exact hasB_iff.1 this
theorem OrdC.nil (cs : List SmV) : OrdC cs [] := ⟨List.nodup_nil, fun x hx => absurd hx (by simp), fun k hk => absurd hk (Nat.not_lt_zero _)⟩
/-- Some number is free as long as the order is not whole. -/
theorem OrdC.free {cs : List SmV} {xs : List Int} (h : OrdC cs xs) (hl : xs.length < cs.length) : 1 ≤ (freN cs xs cs.length).length := by
  have hex : ∃ j : Nat, j < cs.length ∧ (j : Int) ∉ xs := by
    refine Classical.byContradiction fun hno => ?_
    have hall : ∀ k, k < cs.length → 1 ≤ xs.count (k : Int) := fun k hk => by
      refine Nat.one_le_iff_ne_zero.2 fun h0 => hno ⟨k, hk, ?_⟩
      exact List.count_eq_zero.1 h0
    have h1 := (sumTo_ge (fun k => xs.count (k : Int)) cs.length hall).1
    have h2 := sum_count xs cs.length
    omega
  have hmin : ∃ j : Nat, j < cs.length ∧ (j : Int) ∉ xs ∧ ∀ i : Nat, i < j → (i : Int) ∈ xs := by
    obtain ⟨j, hj, hn⟩ := hex
    induction j using Nat.strongRecOn with
    | _ j ih =>
      by_cases hh : ∃ i : Nat, i < j ∧ (i : Int) ∉ xs
      · obtain ⟨i, hi, hni⟩ := hh
        exact ih i hi (by omega) hni
      · exact ⟨j, hj, hn, fun i hi => Classical.byContradiction fun q => hh ⟨i, hi, q⟩⟩
  obtain ⟨j, hj, hn, hb⟩ := hmin
  have hf : fneN cs xs j j = true := by
    unfold fneN
    rw [Bool.and_eq_true, List.all_eq_true]
    refine ⟨?_, fun i hi => ?_⟩
    · cases e : hasB xs (j : Int) with
      | true => exact absurd (hasB_iff.1 e) hn
      | false => rfl
    · rw [hasB_iff.2 (hb i (List.mem_range.1 hi))]; rfl
  have hm : (j : Int) ∈ freN cs xs cs.length := by
    unfold freN
    exact List.mem_map.2 ⟨j, List.mem_filter.2 ⟨List.mem_range.2 hj, hf⟩, rfl⟩
  exact List.length_pos_of_mem hm
theorem Grw.belowF {w0 w wr w1 : World} {B N c : Nat} {A : Option Addr} {bs : List Int} {v : Value} {xs : List Int} (h : Grw w0 w wr B N A c bs v xs) (hb : Below wr.heap.size wr w1) : Grw w0 w w1 B N A c bs v xs :=
  ⟨h.src.below hb, h.chg.trans (Chg.of hb (Nat.le_refl _)), Own.wide (Own.eqv h.own (Eqv.of hb (Nat.le_refl _))) (Nat.le_refl _) hb.size⟩
set_option maxRecDepth 100000 in
set_option maxHeartbeats 2000000 in
theorem s_B10Order (w : World) (A A' : Option Addr) (c c' : Nat) (bs : List Int) (cs : List SmV) (h16 : cs.length ≤ 16) (hl : bs.length ≤ 1048576) (hR : RdU w A bs) (hC : RdC w A' cs) :
    Calls Tryz.prog 8 #[.slice A bs.length c, .slice A' cs.length c'] w fun e w' => ∃ v xs, e = .returned v ∧ (xs.length = cs.length ∧ OrdC cs xs) ∧ OI w' w.heap.size w'.heap.size v xs ∧ Below w.heap.size w w' := by
  have C1 := hid (s_l00From w A c bs)
  have CP := hid (fun W M n' (hM : M ≤ 1000) (hn' : n' ≤ 65536) hS => s_pick w W w.heap.size M A c bs n' hl (by omega) hn' hR hS)
  have HC := hid hC
  clear hR hC
  go_enter Tryz.func8, Tryz.ntmps8
  go_wp2_with fail
  refine C1.out.mono ?_
  rintro e w1 ⟨rfl, hs1, hz⟩
  have hlt := hs1.lt
  have hown := Own.of (World.ownsRow_lit (base := w1.heap.size) (e := 2) (size := 1) w1 #[] 0 (Nat.le_refl _) (by simp [maxLen]) rfl)
  have HG : Hid (Grw w w1 (w1.alloc (.cells #[] 2)) w.heap.size 0 A c bs (.slice (some ⟨w1.heap.size, 0, none⟩) 0 0) []) := hid ⟨hs1.below (ballocw _ _), Chg.of (ballocw _ _) (Nat.le_refl _), by simpa [OwnI, ints] using hown⟩
  have HZ := hid hz
  have H16 := hid h16
  clear hown hs1 hz C1 h16
  go_wp2_with fail
  go_loopg [6] cs.length (fun gg v wr => ∃ k : Nat, k ≤ cs.length ∧ cs.length - k ≤ gg ∧ ∃ A6 c6, v = .slice A6 k c6 ∧ Aside (∃ xs M, (xs.length = k ∧ OrdC cs xs) ∧ M ≤ 4 * k ∧ Grw w w1 wr w.heap.size M A c bs (.slice A6 k c6) xs))
  case atStart => exact ⟨0, Nat.zero_le _, by omega, _, _, rfl, ⟨[], 0, ⟨rfl, OrdC.nil cs⟩, by omega, HG.out⟩⟩
  case round =>
    obtain ⟨k, hk, hg, A6, c6, rfl, GG⟩ := hrel
    clear HG
    obtain ⟨wk, rfl⟩ : ∃ wk : World, wk = wr := ⟨_, rfl⟩
    obtain ⟨xs, M, ⟨hx1, hx2⟩, hM, hG⟩ := GG.out
    clear GG
    by_cases hlk : k < cs.length
    · have hlk' : (k : Int) < (cs.length : Int) := by omega
      have HG := hid hG
      have HX1 := hid hx1
      have HX2 := hid hx2
      have HM := hid hM
      have HKG := hid hg
      have HLK := hid hlk
      have hf0 := Own.of (World.ownsRow_lit (base := wk.heap.size) (e := 2) (size := 1) wk #[] 0 (Nat.le_refl _) (by simp [maxLen]) rfl)
      have HF0 : Hid (OwnI (wk.alloc (.cells #[] 2)) wk.heap.size (wk.alloc (.cells #[] 2)).heap.size 2 (.slice (some ⟨wk.heap.size, 0, none⟩) 0 0) (freN cs xs 0)) := hid (by simpa [OwnI, ints, freN] using hf0)
      have HRX : Hid (RdI wk A6 xs) := hid (OwnI.rd hG.own)
      have HCK : Hid (RdC wk A' cs) := hid (HC.out.below hG.src.bel')
      clear hf0 hx1 hx2 hM hg hlk hG
      go_wp2_with fail
      go_loopg [7, 8] cs.length (fun gg v7 s8 wr => ∃ j : Nat, j ≤ cs.length ∧ cs.length - j ≤ gg ∧ s8 = .int .i64 j ∧ ∃ A7 m c7, v7 = .slice A7 m c7 ∧ Aside (m = (freN cs xs j).length ∧ OwnI wr wk.heap.size wr.heap.size 2 (.slice A7 m c7) (freN cs xs j)) ∧ Aside (Below wk.heap.size wk wr))
      case atStart => exact ⟨0, Nat.zero_le _, by omega, rfl, _, _, _, rfl, ⟨rfl, HF0.out⟩, ballocw _ _⟩
      case round =>
        obtain ⟨j, hj, hgj, rfl, A7, m, c7, rfl, FF, BJ⟩ := hrel
        clear HF0
        obtain ⟨wj, rfl⟩ : ∃ wj : World, wj = wr := ⟨_, rfl⟩
        by_cases hlj : j < cs.length
        · have hlj' : (j : Int) < (cs.length : Int) := by omega
          have CH0 := hid (s_l00Has wj A6 c6 xs (j : Int) (by have := HX1.out; have := H16.out; omega) (HRX.out.below BJ.out))
          rw [HX1.out] at CH0
          have HFZ := hid (fneN_zero cs xs j)
          have HLJ := hid hlj
          have HGJ := hid hgj
          generalize hr0 : hasB xs (j : Int) = r0 at CH0 HFZ
          clear hr0 hgj
          go_wp2_with (go_at_call 34; refine CH0.out.mono ?_; rintro e w' ⟨rfl, rfl⟩)
          go_loopg [9, 10] j (fun gg s9 s10 wr => ∃ i : Nat, i ≤ j ∧ j - i ≤ gg ∧ s10 = .int .i64 i ∧ ∃ b, s9 = .bool b ∧ Aside (b = fneN cs xs j i) ∧ Aside (Below wj.heap.size wj wr))
          case atStart => exact ⟨0, Nat.zero_le _, by omega, rfl, _, rfl, HFZ.out.symm, Below.refl _ _⟩
          case round =>
            obtain ⟨i, hi, hgi, rfl, b, rfl, FB, BI⟩ := hrel
            clear HFZ CH0
            obtain ⟨wi, rfl⟩ : ∃ wi : World, wi = wr := ⟨_, rfl⟩
            by_cases hil : i < j
            · obtain ⟨ba, oa, rfl, hat⟩ := HCK.out.at (by omega)
              have hiz : (i : Int) < (j : Int) := by omega
              have hi16 : (i : Int) < 16 := by have := H16.out; omega
              have hic : (i : Int) < (cs.length : Int) := by omega
              have BKI : Hid (Below wk.heap.size wk wi) := hid (bthen BJ.out BI.out)
              have CM := hid (fun (z : Lat wi) => s_l03Must z.val ba (oa + i * 4) ba (oa + j * 4) (sel cs i) (sel cs j) ((hat i (by omega)).below (bthen BKI.out z.below)) ((hat j hlj).below (bthen BKI.out z.below)))
              have CD := hid (fun (z : Lat wi) => s_l00Has z.val A6 c6 xs (i : Int) (by have := HX1.out; have := H16.out; omega) (HRX.out.below (bthen BKI.out z.below)))
              rw [HX1.out] at CD
              have HIL := hid hil
              have HIG := hid hgi
              have HN := hid (fneN_next cs xs j i)
              rw [← FB.out] at HN
              clear hat hil hgi hi FB hlj
              generalize folB (sel cs i) (sel cs j) = r1 at *
              generalize hasB xs (i : Int) = r2 at *
              cases b with
              | false =>
                have AX : Aside (false = fneN cs xs j (i + 1)) := by rw [HN.out]; rfl
                clear HN
                go_wp2
                refine wp_region_calm (by kernel_rfl) (by kernel_rfl) ?_
                repeat (go_big_quiet_step (first | (go_at_call 35; exact calm_of (CM.out _)) | (go_at_call 34; exact calm_same (CD.out _))))
                refine wpQuiet_nil ?_
                intro _ hw'
                obtain ⟨xq, hw''⟩ := hw'
                subst hw''
                have BX : Aside (Below wj.heap.size wj xq.val) := bthen BI.out xq.below
                go_wp2
                go_roundg (j - (i + 1))
                case measure => have := HIL.out; have := HIG.out; go_light; omega
                case rel => exact ⟨i + 1, HIL.out, Nat.le_refl _, by have := HIL.out; have := HLJ.out; have := H16.out; go_num, _, rfl, AX, BX⟩
              | true =>
                cases r2 with
                | true =>
                  have AX : Aside (true = fneN cs xs j (i + 1)) := by rw [HN.out]; rfl
                  clear HN
                  go_wp2
                  refine wp_region_calm (by kernel_rfl) (by kernel_rfl) ?_
                  repeat (go_big_quiet_step (first | (go_at_call 35; exact calm_of (CM.out _)) | (go_at_call 34; exact calm_same (CD.out _))))
                  refine wpQuiet_nil ?_
                  intro _ hw'
                  obtain ⟨xq, hw''⟩ := hw'
                  subst hw''
                  have BX : Aside (Below wj.heap.size wj xq.val) := bthen BI.out xq.below
                  go_wp2
                  go_roundg (j - (i + 1))
                  case measure => have := HIL.out; have := HIG.out; go_light; omega
                  case rel => exact ⟨i + 1, HIL.out, Nat.le_refl _, by have := HIL.out; have := HLJ.out; have := H16.out; go_num, _, rfl, AX, BX⟩
                | false =>
                  have AX : Aside ((!r1) = fneN cs xs j (i + 1)) := by rw [HN.out]; rfl
                  clear HN
                  cases r1 with
                  | true =>
                    go_wp2
                    refine wp_region_calm (by kernel_rfl) (by kernel_rfl) ?_
                    repeat (go_big_quiet_step (first | (go_at_call 35; exact calm_of (CM.out _)) | (go_at_call 34; exact calm_same (CD.out _))))
                    refine wpQuiet_nil ?_
                    intro _ hw'
                    obtain ⟨xq, hw''⟩ := hw'
                    subst hw''
                    have BX : Aside (Below wj.heap.size wj xq.val) := bthen BI.out xq.below
                    go_wp2
                    go_roundg (j - (i + 1))
                    case measure => have := HIL.out; have := HIG.out; go_light; omega
                    case rel => exact ⟨i + 1, HIL.out, Nat.le_refl _, by have := HIL.out; have := HLJ.out; have := H16.out; go_num, _, rfl, AX, BX⟩
                  | false =>
                    go_wp2
                    refine wp_region_calm (by kernel_rfl) (by kernel_rfl) ?_
                    repeat (go_big_quiet_step (first | (go_at_call 35; exact calm_of (CM.out _)) | (go_at_call 34; exact calm_same (CD.out _))))
                    refine wpQuiet_nil ?_
                    intro _ hw'
                    obtain ⟨xq, hw''⟩ := hw'
                    subst hw''
                    have BX : Aside (Below wj.heap.size wj xq.val) := bthen BI.out xq.below
                    go_wp2
                    go_roundg (j - (i + 1))
                    case measure => have := HIL.out; have := HIG.out; go_light; omega
                    case rel => exact ⟨i + 1, HIL.out, Nat.le_refl _, by have := HIL.out; have := HLJ.out; have := H16.out; go_num, _, rfl, AX, BX⟩
            · obtain rfl : i = j := by omega
              have hiz : ¬ (i : Int) < (i : Int) := by omega
              have hi16 : (i : Int) < 16 := by have := H16.out; omega
              have HNX := hid (freN_next cs xs i)
              rw [← FB.out] at HNX
              have BKI : Hid (Below wk.heap.size wk wi) := hid (bthen BJ.out BI.out)
              have HOF : Hid (OwnI wi wk.heap.size wi.heap.size 2 (.slice A7 m c7) (freN cs xs i)) := hid (Own.wide (Own.eqv FF.out.2 (Eqv.of BI.out (Nat.le_refl _))) (Nat.le_refl _) BI.out.size)
              have hzi : wk.heap.size ≤ wi.heap.size := BKI.out.size
              have hfl : (freN cs xs i).length ≤ 16 := Nat.le_trans (freN_le cs xs i) (by have := H16.out; omega)
              have HM7 := hid FF.out.1
              clear FB FF
              cases b with
              | false =>
                have FX : Aside (m = (freN cs xs (i + 1)).length ∧ OwnI wi wk.heap.size wi.heap.size 2 (.slice A7 m c7) (freN cs xs (i + 1))) := by
                  rw [HNX.out]
                  rw [if_neg (by simp), List.append_nil]; exact ⟨HM7.out, HOF.out⟩
                clear HNX HOF hfl
                go_wp2
                go_roundg (cs.length - (i + 1))
                case measure => have := HLJ.out; have := HGJ.out; go_light; omega
                case rel => exact ⟨i + 1, HLJ.out, Nat.le_refl _, by have := HLJ.out; have := H16.out; go_num, _, _, _, rfl, FX, BKI.out⟩
              | true =>
                rw [HM7.out] at HOF
                have HFL := hid hfl
                have hml : m ≤ 16 := by rw [HM7.out]; exact hfl
                clear hfl
                go_wp2_with (at_builtin; refine wp_append1 wk.heap.size rfl _ _ 27 2 (.int .i64 0) 8 rfl Tryz.underlying27 infoInt rfl (.slice A7 m c7) (freN cs xs i).length _ (.int .i64 (i : Nat)) rfl rfl rfl (by rw [HM7.out]; exact HOF.out) hzi (by have := HFL.out; omega) (by have := HFL.out; omega) ?_; intro v8 w8 hown8 hbel8; obtain ⟨A8, c8, rfl, _, _, _⟩ := hown8.shape)
                have FX : Aside ((freN cs xs i).length + 1 = (freN cs xs (i + 1)).length ∧ OwnI w8 wk.heap.size w8.heap.size 2 (.slice A8 ((freN cs xs i).length + 1) c8) (freN cs xs (i + 1))) := by
                  rw [HNX.out]
                  rw [if_pos (by trivial)]
                  refine ⟨by rw [List.length_append, List.length_singleton], ?_⟩
                  unfold OwnI; rw [ints_append, List.length_append]; exact hown8
                have BX : Aside (Below wk.heap.size wk w8) := BKI.out.trans hbel8
                clear HNX HOF hown8 hbel8
                go_wp2
                go_roundg (cs.length - (i + 1))
                case measure => have := HLJ.out; have := HGJ.out; go_light; omega
                case rel => exact ⟨i + 1, HLJ.out, Nat.le_refl _, by have := HLJ.out; have := H16.out; go_num, _, _, _, rfl, FX, BX⟩
        · obtain rfl : j = cs.length := by omega
          have hlj' : ¬ ((cs.length : Nat) : Int) < ((cs.length : Nat) : Int) := by omega
          have hm0 : 1 ≤ m := by rw [FF.out.1]; exact HX2.out.free (by rw [HX1.out]; exact HLK.out)
          have hm16 : m ≤ 16 := by rw [FF.out.1]; exact Nat.le_trans (freN_le _ _ _) H16.out
          have hG2 := HG.out.belowF BJ.out
          have hzk : w1.heap.size ≤ wk.heap.size := HG.out.chg.size
          have HG2 := hid hG2
          have HF := hid FF.out.2
          have HFM := hid FF.out.1
          have C5 := hid (CP.out wj M m (by have := HM.out; have := HLK.out; have := H16.out; omega) (by omega) hG2.src)
          clear FF hG2 HG
          go_wp2_with fail
          refine C5.out.mono ?_
          rintro e w5 ⟨r, rfl, ⟨r0, r1, r2⟩, hs5, hc5⟩
          obtain ⟨r, rfl⟩ : ∃ q : Nat, r = q := ⟨r.toNat, by omega⟩
          have hrm : r < m := by omega
          have hg5 := HG2.out.drew hlt hs5 hc5
          have HG5 := hid hg5
          have hof : OwnI w5 wk.heap.size wj.heap.size 2 (.slice A7 m c7) (freN cs xs cs.length) := Own.eqv HF.out (hc5.eqv (.inr (by omega)) (Nat.le_refl _))
          have hrl : r < (freN cs xs cs.length).length := by rw [← HFM.out]; exact hrm
          obtain ⟨b7, off7, rfl, hc7⟩ := (OwnI.rd hof).get hrl
          obtain ⟨y, hy, hyl, hyf⟩ := freN_mem (el_mem hrl)
          rw [hy] at hc7
          have hrz : (r : Int) < (m : Int) := by omega
          have HOR := hid (HX2.out.snoc hyl hyf)
          have hzs : w1.heap.size ≤ w5.heap.size := hg5.chg.size
          have hk16 : k ≤ 16 := by have := HLK.out; have := H16.out; omega
          have hko : Own w5 w1.heap.size w5.heap.size 2 1 (.slice A6 k c6) k (ints xs) := by have := hg5.own; unfold OwnI at this; rw [HX1.out] at this; exact this
          have HKO := hid hko
          clear C5 HG2 hs5 hc5 hg5 hof HF HFM r1 r2 hko
          go_wp2_with (at_builtin; refine wp_append1 w1.heap.size rfl _ _ 27 2 (.int .i64 0) 8 rfl Tryz.underlying27 infoInt rfl (.slice A6 k c6) k _ (.int .i64 (y : Nat)) rfl rfl rfl HKO.out hzs (by omega) (by omega) ?_; intro v8 w8 hown8 hbel8; obtain ⟨A8, c8, rfl, _, _, _⟩ := hown8.shape)
          have GG : Aside (∃ ys M', (ys.length = k + 1 ∧ OrdC cs ys) ∧ M' ≤ 4 * (k + 1) ∧ Grw w w1 w8 w.heap.size M' A c bs (.slice A8 (k + 1) c8) ys) :=
            ⟨xs ++ [(y : Int)], M + 2, ⟨by rw [List.length_append, List.length_singleton, HX1.out], HOR.out⟩, by have := HM.out; omega, HG5.out.app hlt hbel8 (by rw [HX1.out]; exact hown8)⟩
          clear HOR HKO HG5 hown8 hbel8
          go_wp2
          go_roundg (cs.length - (k + 1))
          case measure => have := HLK.out; have := HKG.out; go_light; omega
          case rel => exact ⟨k + 1, HLK.out, Nat.le_refl _, _, _, rfl, GG⟩
    · obtain rfl : k = cs.length := by omega
      have hlk' : ¬ ((cs.length : Nat) : Int) < ((cs.length : Nat) : Int) := by omega
      have HX := hid (And.intro hx1 hx2)
      have HG := hid hG
      clear hx1 hx2 hG CP
      go_wp2_with fail
      go_ret
      exact ⟨_, rfl, xs, HX.out, Own.wide HG.out.own (by have := HZ.out; omega) (Nat.le_refl _), HG.out.src.bel'⟩
end Go.Proofs.YtnnioicjmlfllaaGreatDoor
