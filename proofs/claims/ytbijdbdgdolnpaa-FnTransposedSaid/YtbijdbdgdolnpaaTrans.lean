import Derived.Test.YtbijdbdgdolnpaaMarkR
set_option linter.unusedVariables false
set_option linter.unusedSimpArgs false
namespace Go.Proofs.Ytbijdbdgdolnpaa
open Go.RowKit

theorem box_newR (w : World) (v : Value) (t : TypeId) : (w.alloc (.cells #[v] t)).cell? ⟨w.heap.size, 0, none⟩ = some v := by simp
/-! ### Rows with as many lanes as there are rows: the plain functions -/
def rowsB (b : Int) (xss : List (List Int)) : Bool := lanesB xss.length && xss.all fun xs => vecB b xs && decide (xs.length = xss.length)
def colN (xss : List (List Int)) (i : Nat) : List Int := (List.range xss.length).map fun k => el (rw_ xss k) i
def trN (xss : List (List Int)) : List (List Int) := (List.range xss.length).map (colN xss)
def m_TransposeLanes (b : Int) (xss : List (List Int)) : List (List Int) × Bool := if rowsB b xss then (trN xss, true) else ([], false)
structure ROk (xss : List (List Int)) : Prop where
  few : xss.length = 2 ∨ xss.length = 4 ∨ xss.length = 8 ∨ xss.length = 16
  row : ∀ k, k < xss.length → (rw_ xss k).length = xss.length
theorem ROk.of {b : Int} {xss : List (List Int)} (h : rowsB b xss = true) : ROk xss := by
  simp only [rowsB, Bool.and_eq_true, List.all_eq_true, decide_eq_true_eq] at h
  have := lanesB_or h.1
  exact ⟨by omega, fun k hk => (h.2 _ (rw_mem hk)).2⟩
theorem rowsB_eq (b : Int) (xss : List (List Int)) : rowsB b xss = (decide (0 < xss.length) && (vecsB b xss && decide (xss.length = (rw_ xss 0).length))) := by
  rw [Bool.eq_iff_iff]
  simp only [rowsB, vecsB, Bool.and_eq_true, List.all_eq_true, decide_eq_true_eq]
  constructor
  · rintro ⟨h1, h2⟩
    have := lanesB_or h1
    have h0 := (h2 _ (rw_mem (xss := xss) (k := 0) (by omega))).2
    exact ⟨by omega, fun x hx => ⟨(h2 x hx).1, by rw [(h2 x hx).2, h0]⟩, h0.symm⟩
  · rintro ⟨h0, h1, h2⟩
    have h3 := (h1 _ (rw_mem (xss := xss) (k := 0) h0)).1
    simp only [vecB, Bool.and_eq_true] at h3
    exact ⟨by rw [h2]; exact h3.1.2, fun x hx => ⟨(h1 x hx).1, by rw [(h1 x hx).2, h2]⟩⟩
theorem rsz_le {xss : List (List Int)} {n m : Nat} (hl : xss.length ≤ n) (h : ∀ k, k < xss.length → (rw_ xss k).length ≤ m) : rsz xss ≤ n + n * m := by
  have : ∀ k, k ≤ xss.length → rtot xss k ≤ k * m := fun k => by
    induction k with
    | zero => intro _; simp [rtot]
    | succ k ih => intro hk; have := ih (by omega); have := h k (by omega); simp only [rtot]; rw [Nat.add_mul]; omega
  have h1 := this xss.length (Nat.le_refl _)
  have h2 : xss.length * m ≤ n * m := Nat.mul_le_mul_right m hl
  unfold rsz; omega
theorem colN_length (xss : List (List Int)) (i : Nat) : (colN xss i).length = xss.length := by simp [colN]
theorem trN_length (xss : List (List Int)) : (trN xss).length = xss.length := by simp [trN]
theorem trN_row (xss : List (List Int)) {k : Nat} (h : k < xss.length) : rw_ (trN xss) k = colN xss k := by unfold rw_ trN; rw [List.getD_eq_getElem?_getD]; simp [h]
theorem m_TransposeLanes_len (b : Int) (xss : List (List Int)) : rsz (m_TransposeLanes b xss).1 ≤ 1048576 := by
  unfold m_TransposeLanes; split
  · rename_i h
    have hf := (ROk.of h).few
    have := rsz_le (xss := trN xss) (n := 16) (m := 16) (by rw [trN_length]; omega) (fun k hk => by rw [trN_length] at hk; rw [trN_row _ hk, colN_length]; omega)
    exact Nat.le_trans this (by decide)
  · simp [rsz, rtot]
/-- What a call leaves that returns rows and a bool. -/
def RetRB (w : World) (r : List (List Int) × Bool) (en : Ending) (w' : World) : Prop := ∃ v, en = .returned (.tuple #[v, .bool r.2]) ∧ OR w' w.heap.size w'.heap.size v r.1 ∧ Below w.heap.size w w'
theorem OR.lit0 (w : World) : OR (w.alloc (.cells #[] 26)) w.heap.size (w.heap.size + 1) (.slice (some ⟨w.heap.size, 0, none⟩) 0 0) [] := by
  have h := Own.of (World.ownsRow_lit (base := w.heap.size) (e := 26) (size := 1) w #[] 0 (Nat.le_refl _) (by simp [maxLen]) rfl)
  refine ⟨fun _ => .slice none 0 0, ?_, fun k hk => absurd hk (Nat.not_lt_zero _), fun i j a b _ hj => absurd hj (Nat.not_lt_zero _), fun k a b hk => absurd hk (Nat.not_lt_zero _)⟩
  simpa using h
theorem i_areRows (w : World) (b : Int) (A : Option Addr) (c : Nat) (xss : List (List Int)) (hl : rsz xss ≤ 1048576) (hR : RdR w A xss) :
    Calls Try.prog 65 #[.int .i64 b, .slice A xss.length c] w fun e w' => e = .returned (.bool (rowsB b xss)) ∧ Below w.heap.size w w' := by
  have hn := rsz_len hl
  have c0 := i_areVectors w b A c xss hn (fun xs hx => by
    obtain ⟨k, hk, rfl⟩ := List.getElem_of_mem hx
    have e := rw_get hk; rw [List.getElem?_eq_getElem hk] at e; rw [Option.some.inj e]; exact rsz_row hl hk) hR
  have HE := hid (rowsB_eq b xss)
  generalize rowsB b xss = r at HE ⊢
  by_cases h0 : 0 < xss.length
  · have h0' : (0 : Int) < (xss.length : Int) := by omega
    have HR := hid hR
    clear hR
    cases h1 : vecsB b xss with
    | false =>
      rw [h1] at c0
      have C0 := hid c0
      have HF : Hid (false = r) := hid (by rw [HE.out, h1]; simp)
      clear c0 HE HR h1
      go_enter Try.func65, Try.ntmps65
      go_wp2_with fail
      refine C0.out.mono ?_
      rintro e w1 ⟨rfl, hb1⟩
      go_wp2_with fail
      go_ret
      exact ⟨ret_b HF.out, hb1⟩
    | true =>
      rw [h1] at c0
      have C0 := hid c0
      obtain ⟨bo, off, A0, c0', rfl, hc0, _, _⟩ := HR.out.get h0
      have HF : Hid (((xss.length : Int) == ((rw_ xss 0).length : Int)) = r) := hid (by rw [HE.out, h1, Bool.eq_iff_iff]; simp; omega)
      have hc0' : w.cell? ⟨bo, off, none⟩ = some (.slice A0 (rw_ xss 0).length c0') := by simpa using hc0
      have HC0 := hid hc0'
      clear c0 HE HR h1 hc0 hc0'
      generalize (rw_ xss 0).length = n0 at *
      go_enter Try.func65, Try.ntmps65
      go_wp2_with fail
      refine C0.out.mono ?_
      rintro e w1 ⟨rfl, hb1⟩
      have hc1 := bcell hb1 HC0.out
      go_wp2_with fail
      go_ret
      exact ⟨ret_b HF.out, hb1⟩
  · have h0' : ¬ (0 : Int) < (xss.length : Int) := by omega
    have HF : Hid (false = r) := hid (by rw [HE.out]; simp [h0])
    clear c0 HE hR
    go_enter Try.func65, Try.ntmps65
    go_wp2_with fail
    go_ret
    exact ⟨ret_b HF.out, Below.refl _ _⟩
def rowN (b : Int) (xss : List (List Int)) : Nat → Bool
  | 0 => true
  | k + 1 => rowN b xss k && (vecB b (rw_ xss k) && decide ((rw_ xss k).length = xss.length))
theorem rowN_mono {b : Int} {xss : List (List Int)} {j k : Nat} (h : rowN b xss j = false) (hk : j ≤ k) : rowN b xss k = false := by
  induction k with
  | zero => obtain rfl : j = 0 := by omega
            exact h
  | succ k ih => by_cases e : j = k + 1
                 · subst e; exact h
                 · simp only [rowN]; rw [ih (by omega)]; rfl
theorem rowN_all (b : Int) (xss : List (List Int)) : rowN b xss xss.length = xss.all fun xs => vecB b xs && decide (xs.length = xss.length) := by
  have : ∀ n, rowN b xss n = allN n (fun k => vecB b (rw_ xss k) && decide ((rw_ xss k).length = xss.length)) := fun n => by
    induction n with
    | zero => rfl
    | succ n ih =>
      have : allN (n + 1) (fun k => vecB b (rw_ xss k) && decide ((rw_ xss k).length = xss.length)) = (allN n (fun k => vecB b (rw_ xss k) && decide ((rw_ xss k).length = xss.length)) && (vecB b (rw_ xss n) && decide ((rw_ xss n).length = xss.length))) := by unfold allN; rw [List.range_succ, List.all_append]; simp
      rw [this]; simp only [rowN]; rw [ih]
  rw [this, allN_rows xss (fun xs => vecB b xs && decide (xs.length = xss.length))]
theorem s_l04Rows (w : World) (b : Int) (A : Option Addr) (c : Nat) (xss : List (List Int)) (hl : rsz xss ≤ 1048576) (hR : RdR w A xss) :
    Calls Try.prog 90 #[.int .i64 b, .slice A xss.length c] w fun e w' => e = .returned (.bool (rowsB b xss)) ∧ Below w.heap.size w w' := by
  have hn := rsz_len hl
  have c0 := s_l02Lanes (xss.length : Int) w
  have HR := hid hR
  have HL : Hid (∀ k, k < xss.length → (rw_ xss k).length ≤ 1048576) := hid fun k hk => rsz_row hl hk
  clear hR hl
  cases h0 : lanesB (xss.length : Int) with
  | false =>
    rw [h0] at c0
    have C0 := hid c0
    have HF : Hid (false = rowsB b xss) := hid (by unfold rowsB; rw [h0]; rfl)
    clear c0 h0 HR HL
    generalize rowsB b xss = r at HF ⊢
    go_enter Try.func90, Try.ntmps90
    go_wp2_with fail
    refine C0.out.mono ?_
    rintro e w1 ⟨rfl, rfl⟩
    go_wp2_with fail
    go_ret
    exact ⟨ret_b HF.out, Below.refl _ _⟩
  | true =>
    rw [h0] at c0
    have C0 := hid c0
    have HE : Hid (rowN b xss xss.length = rowsB b xss) := hid (by rw [rowN_all]; unfold rowsB; rw [h0]; rfl)
    have HN : Hid (∀ k, k < xss.length → (vecB b (rw_ xss k) && decide ((rw_ xss k).length = xss.length)) = false → false = rowsB b xss) := hid fun k hk h => by
      rw [← HE.out, rowN_mono (j := k + 1) (k := xss.length) (by simp only [rowN]; rw [h]; simp) (by omega)]
    clear c0 h0
    generalize rowsB b xss = r at HE HN ⊢
    go_enter Try.func90, Try.ntmps90
    go_wp2_with fail
    refine C0.out.mono ?_
    rintro e w1 ⟨rfl, rfl⟩
    clear C0
    go_wp2_with fail
    go_loopg [5] xss.length (fun gg s wr => ∃ k : Nat, k ≤ xss.length ∧ xss.length - k ≤ gg ∧ s = .int .i64 k ∧ Aside (Below w.heap.size w wr) ∧ Aside (rowN b xss k = true))
    case atStart => exact ⟨0, Nat.zero_le _, by omega, rfl, Below.refl _ _, rfl⟩
    case round =>
      obtain ⟨k, hk, hg, rfl, BW, AL⟩ := hrel
      by_cases hlt : k < xss.length
      · have hlt' : (k : Int) < (xss.length : Int) := by omega
        obtain ⟨bo, off, A', c', rfl, hc, _, hrow⟩ := (HR.out.below BW.out).get hlt
        have hv := s_l02Is wr b A' c' (rw_ xss k) (by have := HL.out k hlt; omega) hrow
        have HNk := hid (HN.out k hlt)
        have hrl := HL.out k hlt
        cases h1 : vecB b (rw_ xss k) with
        | false =>
          rw [h1] at hv
          have HV := hid hv
          have HF := hid (HNk.out (by rw [h1]; rfl))
          clear hv h1 HNk HN HE HR HL AL hrow
          generalize (rw_ xss k).length = rl at *
          go_wp2_with fail
          refine HV.out.mono ?_
          rintro e w2 ⟨rfl, hb2⟩
          go_wp2_with fail
          go_ret
          exact ⟨ret_b HF.out, bthen BW.out hb2⟩
        | true =>
          rw [h1] at hv
          have HV := hid hv
          have HC := hid hc
          by_cases hq : (rw_ xss k).length = xss.length
          · have hq' : (((rw_ xss k).length : Int) != (xss.length : Int)) = false := by simp [hq]
            have AL' : Aside (rowN b xss (k + 1) = true) := by unfold Aside; simp only [rowN]; rw [AL.out, h1]; simp [hq]
            clear hv h1 HNk HN HE HR HL AL hrow hq hc
            generalize (rw_ xss k).length = rl at *
            have hc := HC.out
            go_wp2_with fail
            refine HV.out.mono ?_
            rintro e w2 ⟨rfl, hb2⟩
            have hc2 := bcell hb2 HC.out
            have BW' : Aside (Below w.heap.size w w2) := bthen BW.out hb2
            clear HV hc BW hb2
            go_wp2_with fail
            go_roundg (xss.length - (k + 1))
            case measure => omega
            case rel => exact ⟨k + 1, by omega, by omega, by go_num, BW', AL'⟩
          · have hq' : (((rw_ xss k).length : Int) != (xss.length : Int)) = true := by simp; omega
            have HF := hid (HNk.out (by rw [h1]; simp [hq]))
            clear hv h1 HNk HN HE HR HL AL hrow hq hc
            generalize (rw_ xss k).length = rl at *
            have hc := HC.out
            go_wp2_with fail
            refine HV.out.mono ?_
            rintro e w2 ⟨rfl, hb2⟩
            have hc2 := bcell hb2 HC.out
            clear HV hc
            go_wp2_with fail
            go_ret
            exact ⟨ret_b HF.out, bthen BW.out hb2⟩
      · have : k = xss.length := by omega
        subst this
        have hlt' : ¬ ((xss.length : Nat) : Int) < ((xss.length : Nat) : Int) := by omega
        have HF : Hid (true = r) := hid (by rw [← HE.out, AL.out])
        clear HN HE HR HL AL
        go_wp2_with fail
        go_ret
        exact ⟨ret_b HF.out, BW.out⟩
end Go.Proofs.Ytbijdbdgdolnpaa
