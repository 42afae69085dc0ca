import Derived.Test.YtcknhjeefdbhbaaLp
set_option linter.unusedVariables false
set_option linter.unusedSimpArgs false
namespace Go.Proofs.Ytcknhjeefdbhbaa
open Go.RowKit

theorem ords_step {ts : List TaskV} {o : List Int} (h : o ∈ ords ts) : o.length = ts.length ∧ stepN ts o o.length = true := by
  obtain ⟨h1, _, h3⟩ := ordD_spec h
  have hl : o.length = ts.length := by simpa using h1
  refine ⟨hl, stepN_of fun k hk => ?_⟩
  obtain ⟨i, hi, he, hr⟩ := h3 k (by simp) hk
  simp only [rdyO, Bool.and_eq_true] at hr
  unfold stepB seenB
  rw [he]
  simp only [Bool.and_eq_true, inB_iff]
  refine ⟨⟨by omega, by omega⟩, hr.1, ?_⟩
  rw [Int.toNat_natCast]
  exact hr.2
theorem ords_plc {ts : List TaskV} (hO : TOk ts) {o : List Int} (h : o ∈ ords ts) : o.length = ts.length ∧ plcB ts o = true ∧ aftN ts o ts.length = true := by
  obtain ⟨h1, h2⟩ := ords_step h
  have he := order_eq hO o
  rw [h2, show decide (o.length = ts.length) = true by simpa using h1] at he
  have := he.symm
  simp only [Bool.and_self, Bool.and_eq_true] at this
  exact ⟨h1, this.1, this.2⟩
theorem mem_ordD {ts : List TaskV} {d : Nat} {p o : List Int} (h1 : o.length = p.length + d) (h2 : o.take p.length = p) (h3 : ∀ k, p.length ≤ k → k < o.length → ∃ i, i < ts.length ∧ el o k = (i : Nat) ∧ rdyO ts (o.take k) i = true) : o ∈ ordD ts d p := by
  induction d generalizing p with
  | zero => simp only [ordD, List.mem_singleton]; rw [← h2, List.take_of_length_le (by omega)]
  | succ d ih =>
    obtain ⟨i, hi, he, hr⟩ := h3 p.length (Nat.le_refl _) (by omega)
    rw [h2] at hr
    simp only [ordD]
    refine (ordI_spec (Nat.le_refl _)).2 ⟨i, by omega, hi, hr, ih (by simp; omega) ?_ ?_⟩
    · rw [List.length_append, List.length_singleton, el_take (by omega), h2, he]
    · intro k hk; exact h3 k (by rw [List.length_append] at hk; omega)
theorem mem_ords {ts : List TaskV} (hO : TOk ts) {o : List Int} (h1 : plcB ts o = true) (h2 : aftN ts o ts.length = true) : o ∈ ords ts := by
  have hl : o.length = ts.length := (m_places_yes h1).2
  have he := order_eq hO o
  rw [h1, h2] at he
  simp only [Bool.and_self, Bool.and_eq_true] at he
  refine mem_ordD (by simpa using hl) (by simp) fun k _ hk => ?_
  have hs := stepN_at he.1 hk
  unfold stepB seenB at hs
  simp only [Bool.and_eq_true, inB_iff] at hs
  refine ⟨(el o k).toNat, by omega, by omega, ?_⟩
  unfold rdyO
  rw [Int.toNat_of_nonneg hs.1.1, hs.2.1]
  exact hs.2.2
def idn (n : Nat) : List Int := (List.range n).map fun k : Nat => (k : Int)
theorem idn_take {n k : Nat} (h : k ≤ n) : (idn n).take k = idn k := by
  unfold idn; rw [← List.map_take, List.take_range, Nat.min_eq_left h]
theorem idn_has (n : Nat) (x : Int) : hasB (idn n) x = decide (0 ≤ x ∧ x < n) := by
  rw [Bool.eq_iff_iff, hasB_iff, decide_eq_true_eq]
  simp only [idn, List.mem_map, List.mem_range]
  constructor
  · rintro ⟨k, hk, rfl⟩; omega
  · rintro ⟨h0, h1⟩; exact ⟨x.toNat, by omega, by omega⟩
theorem idn_mem {ts : List TaskV} (hO : TOk ts) : idn ts.length ∈ ords ts := by
  refine mem_ordD (by simp [idn]) (by simp) fun k _ hk => ?_
  have hk' : k < ts.length := by simpa [idn] using hk
  refine ⟨k, hk', by unfold idn; rw [el_range _ hk'], ?_⟩
  unfold rdyO
  rw [idn_take (by omega), idn_has]
  simp only [Bool.and_eq_true, Bool.not_eq_true', decide_eq_false_iff_not, List.all_eq_true]
  refine ⟨by omega, fun x hx => ?_⟩
  obtain ⟨j, hj, rfl⟩ := List.getElem_of_mem hx
  have hx' : (tel ts k).needs[j] = el (tel ts k).needs j := by have := el_get hj; rw [List.getElem?_eq_getElem hj] at this; exact Option.some.inj this
  rw [hx', idn_has, decide_eq_true_eq]
  exact hO.need k hk' j hj
/-- The fold keeps the first one that is least. -/
theorem up_fold {ts : List TaskV} (l : List (List Int)) : ∀ o0 : List Int, ∃ o, l.foldl (upB ts) (o0, prsI ts o0 ts.length) = (o, prsI ts o ts.length) ∧ o ∈ o0 :: l ∧
    (o0 :: l).find? (fun q => decide (prsI ts q ts.length ≤ prsI ts o ts.length)) = some o ∧ ∀ q ∈ o0 :: l, prsI ts o ts.length ≤ prsI ts q ts.length := by
  induction l with
  | nil => intro o0; exact ⟨o0, rfl, by simp, by simp, by simp⟩
  | cons q l ih =>
    intro o0
    have hp0 := (prsI_bnd ts o0 ts.length).1
    simp only [List.foldl_cons]
    by_cases h : prsI ts q ts.length < prsI ts o0 ts.length
    · have hu : upB ts (o0, prsI ts o0 ts.length) q = (q, prsI ts q ts.length) := by simp only [upB]; rw [if_pos (.inr h)]
      rw [hu]
      obtain ⟨o, h1, h2, h3, h4⟩ := ih q
      have h5 := h4 q (by simp)
      refine ⟨o, h1, List.mem_cons_of_mem _ h2, ?_, ?_⟩
      · rw [List.find?_cons, decide_eq_false (by omega)]; exact h3
      · intro x hx
        rcases List.mem_cons.1 hx with rfl | hx
        · omega
        · exact h4 x hx
    · have hn : ¬ (prsI ts o0 ts.length < 0 ∨ prsI ts q ts.length < prsI ts o0 ts.length) := by omega
      have hu : upB ts (o0, prsI ts o0 ts.length) q = (o0, prsI ts o0 ts.length) := by simp only [upB]; rw [if_neg hn]
      rw [hu]
      obtain ⟨o, h1, h2, h3, h4⟩ := ih o0
      have h5 := h4 o0 (by simp)
      refine ⟨o, h1, ?_, ?_, ?_⟩
      · rcases List.mem_cons.1 h2 with rfl | h2
        · simp
        · simp [h2]
      · by_cases e : prsI ts o0 ts.length ≤ prsI ts o ts.length
        · rw [List.find?_cons, decide_eq_true e] at h3 ⊢; exact h3
        · rw [List.find?_cons, decide_eq_false e] at h3 ⊢
          rw [List.find?_cons, decide_eq_false (by omega)]; exact h3
      · intro x hx
        rcases List.mem_cons.1 hx with rfl | hx
        · exact h5
        · rcases List.mem_cons.1 hx with rfl | hx
          · omega
          · exact h4 x (by simp [hx])
theorem lpI_spec {ts : List TaskV} (hO : TOk ts) : (lpI ts).1 ∈ ords ts ∧ (lpI ts).2 = prsI ts (lpI ts).1 ts.length ∧
    (ords ts).find? (fun q => decide (prsI ts q ts.length ≤ (lpI ts).2)) = some (lpI ts).1 ∧ ∀ q ∈ ords ts, (lpI ts).2 ≤ prsI ts q ts.length := by
  have hne := idn_mem hO
  unfold lpI
  generalize ords ts = l at *
  cases l with
  | nil => cases hne
  | cons q l =>
    have hu : upB ts ([], -1) q = (q, prsI ts q ts.length) := by simp only [upB]; rw [if_pos (.inl (by simp))]
    obtain ⟨o, h1, h2, h3, h4⟩ := up_fold (ts := ts) l q
    have e : (q :: l).foldl (upB ts) ([], -1) = (o, prsI ts o ts.length) := by rw [List.foldl_cons, hu, h1]
    generalize (q :: l).foldl (upB ts) ([], -1) = r at e ⊢
    subst e
    exact ⟨h2, rfl, h3, h4⟩
theorem prsS_le {ts : List TaskV} {o : List Int} {most : Int} (h0 : 0 ≤ most) (n : Nat) : prsS ts o n ≤ most ↔ ∀ k, k < n → (cntS ts (o.take (k + 1)) (k + 1) : Int) ≤ most := by
  induction n with
  | zero => simp [prsS, h0]
  | succ n ih =>
    simp only [prsS]
    constructor
    · intro h k hk
      by_cases e : k = n
      · subst e; omega
      · exact ih.1 (by omega) k (by omega)
    · intro h
      have h1 := ih.2 fun k hk => h k (by omega)
      have h2 := h n (by omega)
      omega
theorem wth_eq {ts : List TaskV} (hO : TOk ts) {most : Int} (h0 : 0 ≤ most) : wthD ts most ts.length [] = (ords ts).find? (fun q => decide (prsI ts q ts.length ≤ most)) := by
  rw [wth_find]
  refine find_congr fun o ho => ?_
  obtain ⟨h1, h2, _⟩ := ords_plc hO ho
  have hperm : ∀ k : Nat, k < ts.length → (k : Int) ∈ o := by
    have := h2; unfold plcB at this; simp only [Bool.and_eq_true] at this; exact ordB_iff.1 this.2
  rw [prs_eq hO h1 hperm (Nat.le_refl _)]
  unfold lowP
  rw [Bool.eq_iff_iff, decide_eq_true_eq, prsS_le h0, List.all_eq_true]
  simp [h1]
theorem lp_wth {ts : List TaskV} (hO : TOk ts) : 0 ≤ (lpI ts).2 ∧ (lpI ts).2 ≤ ts.length ∧ wthD ts (lpI ts).2 ts.length [] = some (lpI ts).1 ∧ ∀ m : Int, 0 ≤ m → m < (lpI ts).2 → wthD ts m ts.length [] = none := by
  obtain ⟨h1, h2, h3, h4⟩ := lpI_spec hO
  have hb := prsI_bnd ts (lpI ts).1 ts.length
  rw [← h2] at hb
  refine ⟨hb.1, hb.2, by rw [wth_eq hO hb.1]; exact h3, fun m hm0 hm => ?_⟩
  rw [wth_eq hO hm0, List.find?_eq_none]
  intro q hq
  have := h4 q hq
  simp; omega
def m_LeastPressure (ts : List TaskV) : List Int × Int × Bool := if tasksB ts then ((lpI ts).1, (lpI ts).2, true) else ([], 0, false)
theorem m_LeastPressure_len (ts : List TaskV) : (m_LeastPressure ts).1.length ≤ 1048576 := by
  unfold m_LeastPressure; split
  · rename_i h
    have hO := TOk.of h
    have := hO.few
    have h1 := (ords_plc hO (lpI_spec hO).1).1
    simp only; omega
  · simp
end Go.Proofs.Ytcknhjeefdbhbaa
