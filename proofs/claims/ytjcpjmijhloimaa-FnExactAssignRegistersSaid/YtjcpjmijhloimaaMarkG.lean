import Derived.Test.YtjcpjmijhloimaaRange4
set_option linter.unusedVariables false
set_option linter.unusedSimpArgs false
namespace Go.Proofs.Ytjcpjmijhloimaa
open Go.RowKit

theorem l_markRangeSO (w : World) (lo hi : Nat) (v : Value) (xs : List PI) (m : Int) (h0 : 0 ≤ m) (h1 : m + 2 * xs.length ≤ 9223372036854775807) (hO : OP w lo hi v xs) :
    Calls Try.prog 42 #[v, .int .i64 m] w fun e w' => e = .returned (.int .i64 (m + 2 * (xs.length : Nat))) ∧ True ∧ Chg lo hi w w' := by
  have hpl : (ints (pfl xs)).length = xs.length * 2 := by rw [ints_length, pfl_length]
  have HPL := hid hpl
  have HO : Hid (∃ cs : List Value, cs.length = xs.length * 2 ∧ Own w lo hi 118 2 v xs.length cs) := hid ⟨_, hpl, hO⟩
  have HCL : Hid (∀ k, k < xs.length → k * 2 < xs.length * 2 ∧ k * 2 + 1 < xs.length * 2) := hid fun k hk => by omega
  obtain ⟨A, c, rfl, hc1, hc2, _⟩ := Own.shape hO
  clear hpl hO
  go_enter Try.func42, Try.ntmps42
  go_wp2
  go_loopg [1, 5] xs.length (fun gg mk s wr => ∃ k : Nat, k ≤ xs.length ∧ xs.length - k ≤ gg ∧ s = .int .i64 k ∧ mk = .int .i64 (m + 2 * k) ∧ Aside (Chg lo hi w wr) ∧
    Aside (∃ cs : List Value, cs.length = xs.length * 2 ∧ Own wr lo hi 118 2 (.slice A xs.length c) xs.length cs))
  case atStart => exact ⟨0, Nat.zero_le _, by omega, rfl, by simp, Chg.refl _ _ _, HO.out⟩
  case round =>
    obtain ⟨k, hk, hg, rfl, rfl, CW, OW⟩ := hrel
    clear HO
    by_cases hlt : k < xs.length
    · obtain ⟨cs, hcl, hown⟩ := OW.out
      obtain ⟨A', c', e', _, _, hs⟩ := hown.shape
      obtain ⟨rfl, rfl⟩ : A' = A ∧ c' = c := by cases e'; exact ⟨rfl, rfl⟩
      rcases hs with ⟨_, hz⟩ | ⟨g, rfl, hlo, hhi, hcells, hfr⟩
      · omega
      obtain ⟨q1, q2⟩ := HCL.out k hlt
      obtain ⟨y0, hy0⟩ : ∃ y, cs[k * 2]? = some y := ⟨_, List.getElem?_eq_getElem (by omega)⟩
      obtain ⟨y1, hy1⟩ : ∃ y, cs[k * 2 + 1]? = some y := ⟨_, List.getElem?_eq_getElem (by omega)⟩
      have hc0 := hcells _ _ hy0
      have hc1' := hcells _ _ hy1
      have hf0 := hfr (k * 2)
      have hf1 := hfr (k * 2 + 1)
      have hown1 := hown.set (k * 2) (.int .i64 (m + 2 * k))
      have hown2 := hown1.set (k * 2 + 1) (.int .i64 (m + 2 * k + 1))
      obtain ⟨_, _, e2, _, _, hs2⟩ := hown1.shape
      rcases hs2 with ⟨hx, _⟩ | ⟨g2, hg2, _, _, hcells2, hfr2⟩
      · cases e2; cases hx
      cases e2
      cases hg2
      obtain ⟨y2, hy2⟩ : ∃ y, (cs.set (k * 2) (.int .i64 (m + 2 * k)))[k * 2 + 1]? = some y := ⟨_, List.getElem?_eq_getElem (by simp; omega)⟩
      have hc3 := hcells2 _ _ hy2
      have hf3 := hfr2 (k * 2 + 1)
      have OW' : Hid (∃ cs : List Value, cs.length = xs.length * 2 ∧ Own ((wr.setCell ⟨g, k * 2, none⟩ (.int .i64 (m + 2 * k))).setCell ⟨g, k * 2 + 1, none⟩ (.int .i64 (m + 2 * k + 1))) lo hi 118 2 (.slice (some ⟨g, 0, none⟩) xs.length c') xs.length cs) := hid ⟨_, by simp; exact hcl, hown2⟩
      have CW' : Hid (Chg lo hi w ((wr.setCell ⟨g, k * 2, none⟩ (.int .i64 (m + 2 * k))).setCell ⟨g, k * 2 + 1, none⟩ (.int .i64 (m + 2 * k + 1)))) := hid ((CW.out.trans (chg_set wr hlo hhi (k * 2) _)).trans (chg_set _ hlo hhi (k * 2 + 1) _))
      clear e' hcells hfr OW CW hown hown1 hown2 hcells2 hfr2 HCL HPL hy0 hy1 hy2
      have e1 : m + 2 * (k : Int) ≤ 9223372036854775800 + 7 := by omega
      have e3 : m + 2 * (k : Int) + 1 + 1 ≤ 9223372036854775807 := by omega
      have e2 : 0 ≤ m + 2 * (k : Int) := by omega
      clear hcl
      go_wp2
      go_roundg (xs.length - (k + 1))
      case measure => omega
      case rel => exact ⟨k + 1, by omega, by omega, by go_num, by congr 1; omega, CW'.out, OW'.out⟩
    · have : k = xs.length := by omega
      subst this
      clear HCL HPL
      go_wp2
      go_ret
      exact ⟨rfl, trivial, CW.out⟩
end Go.Proofs.Ytjcpjmijhloimaa
