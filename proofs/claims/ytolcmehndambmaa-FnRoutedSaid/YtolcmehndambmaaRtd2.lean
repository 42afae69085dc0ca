import Derived.Test.YtolcmehndambmaaRtd
set_option linter.unusedVariables false
set_option linter.unusedSimpArgs false
namespace Go.Proofs.Ytolcmehndambmaa
open Go.RowKit

structure NE (h far : Nat) : Prop where
  per : ∀ i, i < h → bt far (h + i) = bt far i ∧ cnP far (h + i) = h / 2 + cnP far i
  lt : ∀ i, i < h → bt far i = 0 → cnP far i < h / 2
theorem NE_2_1 : NE 2 1 := ⟨by decide, by decide⟩
theorem NE_4_1 : NE 4 1 := ⟨by decide, by decide⟩
theorem NE_4_2 : NE 4 2 := ⟨by decide, by decide⟩
theorem NE_8_1 : NE 8 1 := ⟨by decide, by decide⟩
theorem NE_8_2 : NE 8 2 := ⟨by decide, by decide⟩
theorem NE_8_4 : NE 8 4 := ⟨by decide, by decide⟩
theorem NE.of {h far : Nat} (hn : h = 2 ∨ h = 4 ∨ h = 8) (hf : far = 1 ∨ far = 2 ∨ far = 4 ∨ far = 8) (hl : far < h) : NE h far := by
  rcases hn with rfl | rfl | rfl <;> rcases hf with rfl | rfl | rfl | rfl
  all_goals first | (exfalso; omega) | skip
  · exact NE_2_1
  · exact NE_4_1
  · exact NE_4_2
  · exact NE_8_1
  · exact NE_8_2
  · exact NE_8_4
structure HB (h : Nat) : Prop where
  all : ∀ i, i < h → bt h i = 0 ∧ bt h (h + i) = 1 ∧ cnP h i = i
theorem HB_2 : HB 2 := ⟨by decide⟩
theorem HB_4 : HB 4 := ⟨by decide⟩
theorem HB_8 : HB 8 := ⟨by decide⟩
theorem HB.of {h : Nat} (hn : h = 2 ∨ h = 4 ∨ h = 8) : HB h := by
  rcases hn with rfl | rfl | rfl
  · exact HB_2
  · exact HB_4
  · exact HB_8
theorem el_app1 {xs ys : List Int} {k : Nat} (h : k < xs.length) : el (xs ++ ys) k = el xs k := by
  unfold el; rw [List.getD_eq_getElem?_getD, List.getD_eq_getElem?_getD, List.getElem?_append_left h]
theorem el_app2 {xs ys : List Int} {n k : Nat} (h : xs.length = n) : el (xs ++ ys) (n + k) = el ys k := by
  unfold el; rw [List.getD_eq_getElem?_getD, List.getD_eq_getElem?_getD, List.getElem?_append_right (by omega), h, Nat.add_sub_cancel_left]
theorem stg_lo {h far j : Nat} (hF : FO h far) (hN : NE h far) (r0 r1 : List Int) (hr : r0.length = h / 2) (hj : j < h) : stg far (r0 ++ r1) j = stg far r0 j := by
  unfold stg
  rw [el_app1 (by rw [hr]; exact hN.lt _ (rp_lt hF hj) (hF.rp_bt hj))]
theorem stg_hi {h far j : Nat} (hF : FO h far) (hN : NE h far) (r0 r1 : List Int) (hr : r0.length = h / 2) (hj : j < h) : stg far (r0 ++ r1) (h + j) = h + stg far r1 j := by
  have hb := (hN.per j hj).1
  have e1 : rp far (h + j) = h + rp far j := by
    unfold rp; rw [hb]
    by_cases q : bt far j = 0
    · rw [if_pos q, if_pos q]
    · rw [if_neg q, if_neg q]; have := (hF.hi j hj q).1; omega
  have e2 : pt far (h + j) = h + pt far j := by
    unfold pt; rw [hb]
    by_cases q : bt far j = 0
    · rw [if_pos q, if_pos q]; omega
    · rw [if_neg q, if_neg q]; have := (hF.hi j hj q).1; omega
  unfold stg
  rw [e1, e2, (hN.per _ (rp_lt hF hj)).2, el_app2 hr]
  split <;> rfl
theorem farN_succ (m s : Nat) : farN (m + 1) (s + 1) = farN m s := by
  unfold farN
  by_cases h : s < m
  · rw [if_pos (by omega), if_pos h]; congr 1; omega
  · rw [if_neg (by omega), if_neg h]; congr 1; omega
/-- The inner steps act on both halves by themselves. -/
theorem pos_inner {xss X0 X1 : List (List Int)} {h m M : Nat} (hS : StO h m M) (hN : ∀ s, s < M → NE h (farN m s)) (hr : ∀ s, s < M → rw_ xss (s + 1) = rw_ X0 s ++ rw_ X1 s ∧ (rw_ X0 s).length = h / 2) :
    ∀ s, s ≤ M → ∀ j, j < h → posN xss (m + 1) (s + 1) j = stg (farN (m + 1) 0) (rw_ xss 0) (posN X0 m s j) ∧ posN xss (m + 1) (s + 1) (h + j) = stg (farN (m + 1) 0) (rw_ xss 0) (h + posN X1 m s j) := by
  intro s
  induction s with
  | zero => intro _ j _; exact ⟨rfl, rfl⟩
  | succ s ih =>
    intro hs j hj
    have hF := hS s (by omega)
    have hn := hN s (by omega)
    obtain ⟨e, hl⟩ := hr s (by omega)
    rw [posN_succ xss (m + 1) (s + 1) j, posN_succ xss (m + 1) (s + 1) (h + j), farN_succ, e, stg_lo hF hn _ _ hl hj, stg_hi hF hn _ _ hl hj, posN_succ X0, posN_succ X1]
    exact ⟨(ih (by omega) _ (hF.stg_lt _ hj)).1, (ih (by omega) _ (hF.stg_lt _ hj)).2⟩
theorem rt_rows (d : Nat) (g : List Int) (h : Nat) (hh : g.length / 2 = h) :
    rw_ (rtN (d + 1) g) 0 = (goN g (sdN g)).take h ∧ rw_ (rtN (d + 1) g) (2 * d + 2) = (sdN g).take h ∧
    ∀ s, s < 2 * d + 1 → rw_ (rtN (d + 1) g) (s + 1) = rw_ (rtN d (sbN g (sdN g) h 0)) s ++ rw_ (rtN d (sbN g (sdN g) h 1)) s := by
  have e : rtN (d + 1) g = (goN g (sdN g)).take h :: (cat2 (rtN d (sbN g (sdN g) h 0)) (rtN d (sbN g (sdN g) h 1)) ++ [(sdN g).take h]) := by
    simp only [rtN, hh]; rfl
  have hl : (cat2 (rtN d (sbN g (sdN g) h 0)) (rtN d (sbN g (sdN g) h 1))).length = 2 * d + 1 := by rw [cat2_length, rtN_length]
  rw [e]
  refine ⟨rfl, ?_, fun s hs => ?_⟩
  · unfold rw_
    rw [List.getD_eq_getElem?_getD, List.getElem?_cons_succ, List.getElem?_append_right (by omega), hl, Nat.sub_self]; rfl
  · unfold rw_
    rw [List.getD_eq_getElem?_getD, List.getElem?_cons_succ, List.getElem?_append_left (by omega)]
    unfold cat2
    rw [List.getElem?_map, List.getElem?_range (by rw [rtN_length]; exact hs)]
    rfl
theorem stg_h {h : Nat} (hB : HB h) (l : List Int) {j : Nat} (hj : j < h) : stg h l j = (if el l j = 1 then j + h else j) ∧ stg h l (h + j) = (if el l j = 1 then j else h + j) := by
  obtain ⟨b0, b1, c⟩ := hB.all j hj
  constructor
  · simp [stg, rp, pt, b0, c]
  · simp [stg, rp, pt, b1, c]
/-- The routed network takes each lane from where the goal says. -/
theorem rt_pos : ∀ d, d ≤ 3 → ∀ g : List Int, Prm g (2 ^ (d + 1)) → ∀ i, i < 2 ^ (d + 1) → posN (rtN d g) (d + 1) (2 * d + 1) i = gN g i := by
  intro d
  induction d with
  | zero =>
    intro _ g hp i hi
    have h0 := hp.lt (i := 0) (by decide)
    have h1 := hp.lt (i := 1) (by decide)
    have hne : gN g 0 ≠ gN g 1 := fun e => by have := hp.inj (i := 0) (j := 1) (by decide) (by decide) e; omega
    have hf : farN (0 + 1) 0 = 1 := by decide
    show stg (farN (0 + 1) 0) (rw_ (rtN 0 g) 0) i = _
    rw [hf]
    show stg 1 [el g 0] i = _
    have hi2 : i = 0 ∨ i = 1 := by have : i < 2 := hi; omega
    have b : gN g 0 < 2 ∧ gN g 1 < 2 := ⟨h0.1, h1.1⟩
    rcases hi2 with rfl | rfl
    · show (if el g 0 = 1 then 1 else 0) = _
      rw [h0.2]
      split <;> omega
    · show (if el g 0 = 1 then 0 else 1) = _
      rw [h0.2]
      split <;> omega
  | succ d ih =>
    intro hd g hp i hi
    obtain ⟨h, hh⟩ : ∃ h, h = 2 ^ (d + 1) := ⟨_, rfl⟩
    have hn : 2 ^ (d + 1 + 1) = 2 * h := by rw [hh, Nat.pow_succ]; omega
    have hh3 : h = 2 ∨ h = 4 ∨ h = 8 := by
      rcases (show d = 0 ∨ d = 1 ∨ d = 2 by omega) with rfl | rfl | rfl <;> rw [hh] <;> decide
    rw [hn] at hp hi
    have hgl : g.length / 2 = h := by rw [hp.len]; omega
    have hC := sdN_spec hp
    obtain ⟨e0, eL, eM⟩ := rt_rows d g h hgl
    have hB := HB.of hh3
    have hS : StO h (d + 1) (2 * d + 1) := StO.of (by omega) (by omega) hh (by omega)
    have hf0 : farN (d + 1 + 1) 0 = h := by unfold farN; rw [if_pos (by omega), hh]; congr 1
    have hfL : farN (d + 1 + 1) (2 * d + 2) = h := by unfold farN; rw [if_neg (by omega), hh]; congr 1; omega
    have hNE : ∀ s, s < 2 * d + 1 → NE h (farN (d + 1) s) := fun s hs => by
      obtain ⟨sh, far, q⟩ := StepOk.of (n := h) (m := d + 1) (by omega) (by omega) hh (s := s) (by omega)
      have hlt : farN (d + 1) s < h := by
        have := (hS s hs).lo 0 (by omega) (by simp [bt])
        omega
      refine NE.of hh3 ?_ hlt
      unfold farN
      split
      · rcases (show d + 1 - 1 - s = 0 ∨ d + 1 - 1 - s = 1 ∨ d + 1 - 1 - s = 2 ∨ d + 1 - 1 - s = 3 by omega) with e | e | e | e <;> rw [e] <;> decide
      · rcases (show s + 1 - (d + 1) = 0 ∨ s + 1 - (d + 1) = 1 ∨ s + 1 - (d + 1) = 2 ∨ s + 1 - (d + 1) = 3 by omega) with e | e | e | e <;> rw [e] <;> decide
    have hI := pos_inner (xss := rtN (d + 1) g) (X0 := rtN d (sbN g (sdN g) h 0)) (X1 := rtN d (sbN g (sdN g) h 1)) hS hNE (fun s hs => ⟨eM s hs, by
      rw [rtN_rw (by rw [sbN_length, hh]) hs, hh, Nat.pow_succ]; omega⟩) (2 * d + 1) (Nat.le_refl _)
    have ih0 := ih (by omega) (sbN g (sdN g) h 0) (hh ▸ sbN_prm hp hC 0 (.inl rfl))
    have ih1 := ih (by omega) (sbN g (sdN g) h 1) (hh ▸ sbN_prm hp hC 1 (.inr rfl))
    rw [← hh] at ih0 ih1
    rw [show 2 * (d + 1) + 1 = 2 * d + 2 + 1 from by omega, posN_succ, hfL, eL]
    -- the end's place in its half, and the half
    obtain ⟨k, hk, hik⟩ : ∃ k, k < h ∧ (i = k ∨ i = h + k) := by
      by_cases q : i < h
      · exact ⟨i, q, .inl rfl⟩
      · exact ⟨i - h, by omega, .inr (by omega)⟩
    have hck : el ((sdN g).take h) k = el (sdN g) k := el_takeI hk
    have hpk := hC.pai k (by omega)
    rw [ot_cases (by omega), if_pos hk] at hpk
    have hbk := hC.bit k (by omega)
    have hgi := hp.lt (i := i) (by omega)
    -- the value at the place in the half
    have hmod : ∀ s : Int, el (sdN g) i = s → gN (sbN g (sdN g) h s) k = gN g i % h := fun s hs => by
      unfold gN
      rw [sbN_el _ _ _ _ hk]
      unfold sbEl
      have : (if el (sdN g) k = s then k else k + h) = i := by
        rcases hik with q | q
        · rw [q] at hs ⊢; rw [if_pos hs]
        · rw [q, Nat.add_comm h k] at hs ⊢; rw [if_neg (by omega)]
      rw [this, hgi.2]
      have hg0 : ((gN g i : Nat) : Int) % (h : Int) = ((gN g i % h : Nat) : Int) := (Int.natCast_emod _ _).symm
      show Int.toNat (((gN g i : Nat) : Int) % (h : Int)) = _
      rw [hg0]
      show _ = (el g i).toNat % h
      rfl
    -- the step at the beginning
    have hr : gN g i % h < h := Nat.mod_lt _ (by omega)
    have hin := hp.back (i := i) (by omega)
    have hgo : el ((goN g (sdN g)).take h) (gN g i % h) = el (sdN g) (iN g (gN g i % h)) := goN_take hp rfl hr
    have hcl := hC.cls i (by omega)
    have hci := hC.bit i (by omega)
    have hT : el ((goN g (sdN g)).take h) (gN g i % h) = (if gN g i < h then el (sdN g) i else 1 - el (sdN g) i) := by
      rw [hgo]
      by_cases q : gN g i < h
      · rw [if_pos q, Nat.mod_eq_of_lt q, hin]
      · rw [if_neg q, ← hcl]
        unfold bq
        rw [ot_cases hgi.1, if_neg q, mod_h hgi.1, if_neg q]
    have hst := stg_h hB ((goN g (sdN g)).take h) hr
    rw [hT] at hst
    have hmg := mod_h hgi.1
    -- which half
    have hpos : ∀ s : Int, el (sdN g) i = s → stg h ((sdN g).take h) i = (if s = 1 then h + k else k) := fun s hs => by
      have hsk := stg_h hB ((sdN g).take h) hk
      rw [hck] at hsk
      rcases hik with q | q
      · rw [q] at hs ⊢
        rw [hsk.1, hs]; split <;> omega
      · rw [q] at hs ⊢
        rw [hsk.2]
        rw [Nat.add_comm h k] at hs
        by_cases r : el (sdN g) k = 1
        · rw [if_pos r, if_neg (by omega)]
        · rw [if_neg r, if_pos (by omega)]
    rcases hci with hs | hs
    · rw [hpos 0 hs, if_neg (by omega), show 2 * d + 2 = 2 * d + 1 + 1 from rfl, (hI k hk).1, hf0, e0, ih0 k hk, hmod 0 hs, hst.1]
      by_cases q : gN g i < h
      · rw [if_pos q] at hmg ⊢
        rw [hs, if_neg (by omega), hmg]
      · rw [if_neg q] at hmg ⊢
        rw [hs, if_pos (by omega), hmg]; omega
    · rw [hpos 1 hs, if_pos rfl, show 2 * d + 2 = 2 * d + 1 + 1 from rfl, (hI k hk).2, hf0, e0, ih1 k hk, hmod 1 hs, hst.2]
      by_cases q : gN g i < h
      · rw [if_pos q] at hmg ⊢
        rw [hs, if_pos rfl, hmg]
      · rw [if_neg q] at hmg ⊢
        rw [hs, if_neg (by omega), hmg]; omega
end Go.Proofs.Ytolcmehndambmaa
