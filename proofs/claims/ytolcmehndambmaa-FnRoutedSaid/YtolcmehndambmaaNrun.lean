import Derived.Test.YtolcmehndambmaaNet3
import Derived.Test.YtolcmehndambmaaStep
import Derived.Test.YtolcmehndambmaaCat
import Derived.BigRegion
set_option linter.unusedVariables false
set_option linter.unusedSimpArgs false
namespace Go.Proofs.Ytolcmehndambmaa
open Go.RowKit

/-! ### What becomes of a vector by a network: the plain functions -/
/-- How many lanes ahead of i have a pair behind them. -/
def cnP (far : Nat) : Nat → Nat
  | 0 => 0
  | i + 1 => cnP far i + (if bt far i = 0 then 1 else 0)
def exI (far : Nat) (l : List Int) (i : Nat) (o : List Int) : List Int := if bt far i = 0 then (if el l (cnP far i) = 1 then (o.set i (el o (i + far))).set (i + far) (el o i) else o) else o
def rowRun (far : Nat) (l : List Int) : Nat → List Int → List Int
  | 0, o => o
  | i + 1, o => exI far l i (rowRun far l i o)
def farN (m s : Nat) : Nat := if s < m then 2 ^ (m - 1 - s) else 2 ^ (s + 1 - m)
def netN (xss : List (List Int)) (m n : Nat) : Nat → List Int → List Int
  | 0, o => o
  | s + 1, o => rowRun (farN m s) (rw_ xss s) n (netN xss m n s o)
def m_RunNetwork (b : Int) (xss : List (List Int)) (a : List Int) : List Int × Bool := if vecB b a && netB a.length xss then (netN xss (dep a.length).toNat a.length xss.length a, true) else ([], false)
theorem exI_length (far : Nat) (l : List Int) (i : Nat) (o : List Int) : (exI far l i o).length = o.length := by unfold exI; split <;> (try split) <;> simp
theorem rowRun_length (far : Nat) (l : List Int) (i : Nat) (o : List Int) : (rowRun far l i o).length = o.length := by
  induction i with
  | zero => rfl
  | succ i ih => unfold rowRun; rw [exI_length, ih]
theorem netN_length (xss : List (List Int)) (m n s : Nat) (o : List Int) : (netN xss m n s o).length = o.length := by
  induction s with
  | zero => rfl
  | succ s ih => unfold netN; rw [rowRun_length, ih]
theorem m_RunNetwork_len (b : Int) (xss : List (List Int)) (a : List Int) : (m_RunNetwork b xss a).1.length ≤ 1048576 := by
  unfold m_RunNetwork; split
  · rename_i h
    have := vecB_len (Bool.and_eq_true_iff.1 h).1
    show (netN _ _ _ _ _).length ≤ _
    rw [netN_length]; omega
  · simp
theorem cnt_2_1 : ∀ i, i < 2 → bt 1 i = 0 → cnP 1 i < 2 / 2 := by decide
theorem cnt_4_1 : ∀ i, i < 4 → bt 1 i = 0 → cnP 1 i < 4 / 2 := by decide
theorem cnt_4_2 : ∀ i, i < 4 → bt 2 i = 0 → cnP 2 i < 4 / 2 := by decide
theorem cnt_8_1 : ∀ i, i < 8 → bt 1 i = 0 → cnP 1 i < 8 / 2 := by decide
theorem cnt_8_2 : ∀ i, i < 8 → bt 2 i = 0 → cnP 2 i < 8 / 2 := by decide
theorem cnt_8_4 : ∀ i, i < 8 → bt 4 i = 0 → cnP 4 i < 8 / 2 := by decide
theorem cnt_16_1 : ∀ i, i < 16 → bt 1 i = 0 → cnP 1 i < 16 / 2 := by decide
theorem cnt_16_2 : ∀ i, i < 16 → bt 2 i = 0 → cnP 2 i < 16 / 2 := by decide
theorem cnt_16_4 : ∀ i, i < 16 → bt 4 i = 0 → cnP 4 i < 16 / 2 := by decide
theorem cnt_16_8 : ∀ i, i < 16 → bt 8 i = 0 → cnP 8 i < 16 / 2 := by decide
theorem cnt_lt {n far : Nat} (hn : n = 2 ∨ n = 4 ∨ n = 8 ∨ n = 16) (hf : far = 1 ∨ far = 2 ∨ far = 4 ∨ far = 8) (hl : far < n) : ∀ i, i < n → bt far i = 0 → cnP far i < n / 2 := by
  rcases hn with rfl | rfl | rfl | rfl <;> rcases hf with rfl | rfl | rfl | rfl
  all_goals first | (exfalso; omega) | skip
  · exact cnt_2_1
  · exact cnt_4_1
  · exact cnt_4_2
  · exact cnt_8_1
  · exact cnt_8_2
  · exact cnt_8_4
  · exact cnt_16_1
  · exact cnt_16_2
  · exact cnt_16_4
  · exact cnt_16_8
/-- The distance of a step, and the shift that gives it. -/
structure StepOk (n m s sh far : Nat) : Prop where
  far_eq : farN m s = far
  wr : IntKind.i64.wrap (2 ^ sh) = (far : Int)
  sh3 : sh ≤ 3
  up : s < m → (m : Int) - 1 - (s : Int) = (sh : Int)
  dn : m ≤ s → (m : Int) - 1 - (s : Int) = -(sh : Int) ∧ 1 ≤ sh
  ok : FarOk n far
  cnt : ∀ i, i < n → bt far i = 0 → cnP far i < n / 2
theorem StepOk.of {n m s : Nat} (hm1 : 1 ≤ m) (hm4 : m ≤ 4) (hn : n = 2 ^ m) (hs : s + 1 < 2 * m) : ∃ sh far, StepOk n m s sh far := by
  obtain ⟨sh, e1, e2, e3, e4⟩ : ∃ sh, sh < m ∧ farN m s = 2 ^ sh ∧ (s < m → (m : Int) - 1 - (s : Int) = (sh : Int)) ∧ (m ≤ s → (m : Int) - 1 - (s : Int) = -(sh : Int) ∧ 1 ≤ sh) := by
    by_cases h : s < m
    · exact ⟨m - 1 - s, by omega, by unfold farN; rw [if_pos h], fun _ => by omega, fun _ => by omega⟩
    · exact ⟨s + 1 - m, by omega, by unfold farN; rw [if_neg h], fun _ => by omega, fun _ => by omega⟩
  have hn4 : n = 2 ∨ n = 4 ∨ n = 8 ∨ n = 16 := by
    rcases (show m = 1 ∨ m = 2 ∨ m = 3 ∨ m = 4 by omega) with rfl | rfl | rfl | rfl
    · exact .inl hn
    · exact .inr (.inl hn)
    · exact .inr (.inr (.inl hn))
    · exact .inr (.inr (.inr hn))
  have hlt : 2 ^ sh < n := by rw [hn]; exact Nat.pow_lt_pow_right (by omega) e1
  have hf : 2 ^ sh = 1 ∨ 2 ^ sh = 2 ∨ 2 ^ sh = 4 ∨ 2 ^ sh = 8 := by
    rcases (show sh = 0 ∨ sh = 1 ∨ sh = 2 ∨ sh = 3 by omega) with rfl | rfl | rfl | rfl <;> decide
  refine ⟨sh, 2 ^ sh, e2, ?_, by omega, e3, e4, FarOk.of hn4 hf hlt, cnt_lt hn4 hf hlt⟩
  rcases (show sh = 0 ∨ sh = 1 ∨ sh = 2 ∨ sh = 3 by omega) with rfl | rfl | rfl | rfl <;> decide
theorem dep_pow {n : Nat} (h : n = 2 ∨ n = 4 ∨ n = 8 ∨ n = 16) : ∃ m : Nat, dep (n : Int) = m ∧ 1 ≤ m ∧ m ≤ 4 ∧ n = 2 ^ m := by
  rcases h with rfl | rfl | rfl | rfl
  · exact ⟨1, by decide, by decide, by decide, by decide⟩
  · exact ⟨2, by decide, by decide, by decide, by decide⟩
  · exact ⟨3, by decide, by decide, by decide, by decide⟩
  · exact ⟨4, by decide, by decide, by decide, by decide⟩
/-- A list of the call's own that is not empty, in a block. -/
def ON (w : World) (lo hi g c n : Nat) (xs : List Int) : Prop := xs.length = n ∧ OwnI w lo hi 2 (.slice (some ⟨g, 0, none⟩) n c) xs
theorem ON.set {w : World} {lo hi g c n : Nat} {xs : List Int} (h : ON w lo hi g c n xs) (j : Nat) (x : Int) : ON (w.setCell ⟨g, j, none⟩ (.int .i64 x)) lo hi g c n (xs.set j x) := by
  obtain ⟨rfl, h⟩ := h
  refine ⟨by simp, ?_⟩
  have := Own.set h j (.int .i64 x)
  rw [ints_set] at this
  unfold OwnI
  rw [List.length_set]
  exact this
theorem ON.at_ {w : World} {lo hi g c n : Nat} {xs : List Int} (h : ON w lo hi g c n xs) {k : Nat} (hk : k < n) : w.cell? ⟨g, k, none⟩ = some (.int .i64 (el xs k)) ∧ w.frozen? ⟨g, k, none⟩ = false := by
  obtain ⟨rfl, h⟩ := h
  obtain ⟨A', c', e, _, _, hs⟩ := Own.shape h
  cases e
  rcases hs with ⟨hx, _⟩ | ⟨g', e, _, _, hcell, hfr⟩
  · cases hx
  cases e
  exact ⟨hcell k _ (ints_get hk), hfr k⟩
theorem ON.ge {w : World} {lo hi g c n : Nat} {xs : List Int} (h : ON w lo hi g c n xs) : lo ≤ g ∧ g < hi := by
  obtain ⟨rfl, h⟩ := h
  obtain ⟨A', c', e, _, _, hs⟩ := Own.shape h
  cases e
  rcases hs with ⟨hx, _⟩ | ⟨g', e, h1, h2, _⟩
  · cases hx
  cases e
  exact ⟨h1, h2⟩
theorem ON.cap {w : World} {lo hi g c n : Nat} {xs : List Int} (h : ON w lo hi g c n xs) : n ≤ c ∧ c ≤ 9223372036854775807 := by
  obtain ⟨rfl, h⟩ := h
  obtain ⟨A', c', e, h1, h2, hs⟩ := Own.shape h
  cases e
  exact ⟨h1, h2⟩
theorem ON.of {w : World} {lo hi : Nat} {v : Value} {xs : List Int} (h : OwnI w lo hi 2 v xs) (h0 : 0 < xs.length) : ∃ g c, v = .slice (some ⟨g, 0, none⟩) xs.length c ∧ ON w lo hi g c xs.length xs := by
  obtain ⟨A', c', e, h1, h2, hs⟩ := Own.shape h
  rcases hs with ⟨_, hx⟩ | ⟨g, e2, _⟩
  · omega
  subst e2
  exact ⟨g, c', e, rfl, by rw [← e]; exact h⟩
theorem ON.eqv {w w' : World} {lo hi g c n : Nat} {xs : List Int} (h : ON w lo hi g c n xs) (hq : Eqv lo hi w w') : ON w' lo hi g c n xs := ⟨h.1, Own.eqv h.2 hq⟩
end Go.Proofs.Ytolcmehndambmaa
