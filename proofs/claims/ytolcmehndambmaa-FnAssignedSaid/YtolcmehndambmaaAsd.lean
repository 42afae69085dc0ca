import Derived.Test.YtolcmehndambmaaAsg2
import Derived.Test.YtolcmehndambmaaAsg3
import Derived.Test.YtolcmehndambmaaWidth
set_option linter.unusedVariables false
set_option linter.unusedSimpArgs false
namespace Go.Proofs.Ytolcmehndambmaa
open Go.RowKit

/-! ### The law of the registers: plain lists alone -/
theorem meet_comm (a b : PI) : meetB a b = meetB b a := by
  unfold meetB
  rw [Bool.eq_iff_iff, decide_eq_true_eq, decide_eq_true_eq]
  omega
/-- Registers that are given: below R, and apart where ranges meet. -/
structure AsdI (rs : List PI) (R : Int) (out : List Int) : Prop where
  len : out.length = rs.length
  lt : ∀ k, k < rs.length → el out k < R ∨ el out k < 0
  apart : ∀ k l, k < rs.length → l < rs.length → k ≠ l → 0 ≤ el out k → meetB (pel rs k) (pel rs l) = true → el out k ≠ el out l
theorem asd_inv {rs : List PI} {R : Int} {m : Nat} (hm : m ≤ rs.length) {out : List Int} (h : asgN rs R m = some out) : AsdI rs R out := by
  induction m generalizing out with
  | zero =>
    simp only [asgN, Option.some.injEq] at h
    subst h
    have hz : ∀ k, k < rs.length → el (List.replicate rs.length (-1 : Int)) k = -1 := fun k hk => by
      unfold el; rw [List.getD_eq_getElem?_getD, List.getElem?_replicate, if_pos hk]; rfl
    exact ⟨List.length_replicate, fun k hk => .inr (by rw [hz k hk]; omega), fun k l hk _ _ h0 => by rw [hz k hk] at h0; omega⟩
  | succ m ih =>
    simp only [asgN] at h
    cases e : asgN rs R m with
    | none => rw [e] at h; cases h
    | some o =>
      rw [e] at h
      simp only at h
      have hI := ih (by omega) e
      obtain ⟨i, hi, hin⟩ := ord_in rs (k := m) (by omega)
      rw [hi, Int.toNat_natCast] at h
      split at h
      · rename_i hlt
        cases h
        have hfree := reg_free hI.len i
        have hrr := reg_range rs o i
        have hl := hI.len
        have hno : ∀ k, k < rs.length → meetB (pel rs k) (pel rs i) = true → el o k ≠ regN rs o i := fun k hk hm he => by
          rw [tkn_iff.2 ⟨k, hk, he, hm⟩] at hfree; cases hfree
        refine ⟨by rw [List.length_set]; exact hl, fun k hk => ?_, fun k l hk hln hkl h0 hm => ?_⟩
        · by_cases ek : i = k
          · subst ek; rw [el_set_same (by omega)]; exact .inl hlt
          · rw [el_set_other ek]; exact hI.lt k hk
        · by_cases ek : i = k
          · subst ek
            rw [el_set_same (by omega), el_set_other hkl]
            exact (hno l hln (by rw [meet_comm]; exact hm)).symm
          · rw [el_set_other ek] at h0 ⊢
            by_cases el_ : i = l
            · subst el_
              rw [el_set_same (by omega)]
              exact hno k hk hm
            · rw [el_set_other el_]; exact hI.apart k l hk hln hkl h0 hm
      · cases h
/-- The registers of the first k ranges that contain a time. -/
def rgX (rs : List PI) (out : List Int) (x : Int) : Nat → List Int
  | 0 => []
  | k + 1 => if cont (pel rs k) x then el out k :: rgX rs out x k else rgX rs out x k
theorem rgX_len (rs : List PI) (out : List Int) (x : Int) (k : Nat) : ((rgX rs out x k).length : Int) = cntN rs x k := by
  induction k with
  | zero => rfl
  | succ k ih =>
    simp only [rgX, cntN]
    split
    · rw [List.length_cons, ← ih]; omega
    · rw [← ih]; omega
theorem rgX_mem {rs : List PI} {out : List Int} {x y : Int} {k : Nat} : y ∈ rgX rs out x k ↔ ∃ q, q < k ∧ cont (pel rs q) x = true ∧ el out q = y := by
  induction k with
  | zero => simp [rgX]
  | succ k ih =>
    simp only [rgX]
    by_cases hc : cont (pel rs k) x = true
    · rw [if_pos hc, List.mem_cons, ih]
      constructor
      · rintro (e | ⟨q, hq, h1, h2⟩)
        · exact ⟨k, by omega, hc, e.symm⟩
        · exact ⟨q, by omega, h1, h2⟩
      · rintro ⟨q, hq, h1, h2⟩
        by_cases e : q = k
        · subst e; exact .inl h2.symm
        · exact .inr ⟨q, by omega, h1, h2⟩
    · rw [if_neg hc, ih]
      constructor
      · rintro ⟨q, hq, h1, h2⟩; exact ⟨q, by omega, h1, h2⟩
      · rintro ⟨q, hq, h1, h2⟩
        by_cases e : q = k
        · subst e; exact absurd h1 hc
        · exact ⟨q, by omega, h1, h2⟩
theorem few_out (M : Nat) : ∀ ys : List Int, ys.Nodup → (∀ y ∈ ys, 0 ≤ y ∧ y < M) → ys.length ≤ M := by
  induction M with
  | zero => intro ys _ h; cases ys with
            | nil => simp
            | cons y ys => have := h y (by simp); omega
  | succ M ih =>
    intro ys hn h
    by_cases hm : (M : Int) ∈ ys
    · have h1 := ih (ys.erase (M : Int)) (hn.erase _) fun y hy => by
        have hy1 := List.mem_of_mem_erase hy
        have hne : y ≠ (M : Int) := (hn.mem_erase_iff.1 hy).1
        have := h y hy1; omega
      have h2 := List.length_erase_of_mem hm
      have h3 : 0 < ys.length := List.length_pos_of_mem hm
      omega
    · have := ih ys hn fun y hy => by
        have h1 := h y hy
        have hne : y ≠ (M : Int) := fun e => hm (e ▸ hy)
        omega
      omega
theorem cont_meet {a b : PI} {x : Int} (ha : cont a x = true) (hb : cont b x = true) : meetB a b = true := by
  unfold cont at ha hb
  rw [Bool.and_eq_true, decide_eq_true_eq, decide_eq_true_eq] at ha hb
  unfold meetB; rw [decide_eq_true_eq]; omega
theorem wid_le {rs : List PI} {L : Int} (h0 : 0 ≤ L) {n : Nat} (h : ∀ i, i < n → cntN rs (pel rs i).1 rs.length ≤ L) : widN rs n ≤ L := by
  induction n with
  | zero => exact h0
  | succ n ih => simp only [widN]; have := ih fun i hi => h i (by omega); have := h n (by omega); omega
theorem wid_ge {rs : List PI} {i n : Nat} (hi : i < n) : cntN rs (pel rs i).1 rs.length ≤ widN rs n := by
  induction n with
  | zero => omega
  | succ n ih =>
    simp only [widN]
    by_cases e : i = n
    · subst e; omega
    · have := ih (by omega); omega
theorem asd_wide {rs : List PI} {R : Int} (hR : 0 ≤ R) {out : List Int} (h : asgN rs R rs.length = some out) : widN rs rs.length ≤ R ∧ out.length = rs.length ∧ ∀ k, k < rs.length → 0 ≤ el out k ∧ el out k < R := by
  have hI := asd_inv (Nat.le_refl _) h
  have hA := asg_inv (Nat.le_refl _) h
  have hpos : ∀ k, k < rs.length → 0 ≤ el out k ∧ el out k < R := fun k hk => by
    obtain ⟨q, hq, e⟩ := ord_sur rs hk
    have h1 := hA.done q hq hq
    rw [e, Int.toNat_natCast] at h1
    have := hI.lt k hk
    omega
  refine ⟨wid_le hR fun i hi => ?_, hI.len, hpos⟩
  rw [← rgX_len rs out]
  have hnd : ∀ k, k ≤ rs.length → (rgX rs out (pel rs i).1 k).Nodup := by
    intro k
    induction k with
    | zero => intro _; exact List.nodup_nil
    | succ k ih =>
      intro hk
      simp only [rgX]
      by_cases hc : cont (pel rs k) (pel rs i).1 = true
      · rw [if_pos hc]
        refine List.nodup_cons.2 ⟨fun hm => ?_, ih (by omega)⟩
        obtain ⟨q, hq, h1, h2⟩ := rgX_mem.1 hm
        exact hI.apart q k (by omega) (by omega) (by omega) (hpos q (by omega)).1 (cont_meet h1 hc) h2
      · rw [if_neg hc]; exact ih (by omega)
  have := few_out R.toNat _ (hnd rs.length (Nat.le_refl _)) fun y hy => by
    obtain ⟨q, hq, _, h2⟩ := rgX_mem.1 hy
    have := hpos q hq
    omega
  omega
theorem asd_none {rs : List PI} (hr : rngsB rs = true) {R : Int} (hR : 0 ≤ R) (h : asgN rs R rs.length = none) : R < widN rs rs.length := by
  have key : ∀ m, m ≤ rs.length → asgN rs R m = none → R < widN rs rs.length := by
    intro m
    induction m with
    | zero => intro _ h; cases h
    | succ m ih =>
      intro hm h
      cases e : asgN rs R m with
      | none => exact ih (by omega) e
      | some o =>
        simp only [asgN] at h
        rw [e] at h
        simp only at h
        obtain ⟨i, hi, hin⟩ := ord_in rs (k := m) (by omega)
        rw [hi, Int.toNat_natCast] at h
        split at h
        · cases h
        · rename_i hge
          have hA := asg_inv (by omega) e
          have hio : el o i = -1 := by have := hA.rest m (Nat.le_refl _) (by omega); rw [hi, Int.toNat_natCast] at this; exact this
          have hri := rng_at hr hin
          have hself : cont (pel rs i) (pel rs i).1 = true := by unfold cont; rw [Bool.and_eq_true, decide_eq_true_eq, decide_eq_true_eq]; omega
          have hmi : (-1 : Int) ∈ rgX rs o (pel rs i).1 rs.length := rgX_mem.2 ⟨i, hin, hself, hio⟩
          have hall : ∀ r : Nat, r < R.toNat → (r : Int) ∈ rgX rs o (pel rs i).1 rs.length := fun r hrR => by
            obtain ⟨q, hq, h1, h2⟩ := tkn_iff.1 (reg_taken rs o i (q := (r : Int)) (by omega) (by omega))
            refine rgX_mem.2 ⟨q, hq, ?_, h1⟩
            obtain ⟨k, hk, ek⟩ := ord_sur rs hq
            have hkm : k < m := by
              by_cases hkm : k < m
              · exact hkm
              · have := hA.rest k (by omega) hk; rw [ek, Int.toNat_natCast] at this; omega
            have hs := (ordR_spec rs).sort k m hkm (by omega)
            rw [ek, hi] at hs
            have f1 : frX rs (q : Int) = (pel rs q).1 := by unfold frX; rw [Int.toNat_natCast]
            have f2 : frX rs (i : Int) = (pel rs i).1 := by unfold frX; rw [Int.toNat_natCast]
            unfold lexX at hs
            rw [f1, f2] at hs
            unfold meetB at h2
            rw [decide_eq_true_eq] at h2
            unfold cont
            rw [Bool.and_eq_true, decide_eq_true_eq, decide_eq_true_eq]
            omega
          have h1 := few_in R.toNat ((rgX rs o (pel rs i).1 rs.length).erase (-1)) fun r hrR => (List.mem_erase_of_ne (by omega)).2 (hall r hrR)
          have h2 := List.length_erase_of_mem hmi
          have h3 := List.length_pos_of_mem hmi
          have h4 := rgX_len rs o (pel rs i).1 rs.length
          have h5 := wid_ge (rs := rs) hin
          omega
  exact key rs.length (Nat.le_refl _) h
end Go.Proofs.Ytolcmehndambmaa
