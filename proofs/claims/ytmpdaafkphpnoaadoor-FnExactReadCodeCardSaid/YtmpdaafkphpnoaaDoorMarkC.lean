import Derived.Test.YtmpdaafkphpnoaaDoorStmA
set_option linter.unusedVariables false
set_option linter.unusedSimpArgs false
namespace Go.Proofs.YtmpdaafkphpnoaaDoor
open Go.RowKit

/-! ### Statements that are marked -/
theorem wrap64_inC {x : Int} (h0 : -9223372036854775808 ≤ x) (h1 : x ≤ 9223372036854775807) : wrap64 x = x := by unfold wrap64; omega
def mkCP (m : Int) (k : Nat) : SmV := ⟨m + 4 * k, m + 4 * k + 1, m + 4 * k + 2, m + 4 * k + 3⟩
def mkCS (m : Int) (n : Nat) : List SmV := (List.range n).map (mkCP m)
theorem mkCS_length (m : Int) (n : Nat) : (mkCS m n).length = n := by simp [mkCS]
theorem mkCS_at {m : Int} {n k : Nat} (h : k < n) : sel (mkCS m n) k = mkCP m k := by
  have := sel_get (xs := mkCS m n) (k := k) (by rw [mkCS_length]; exact h)
  unfold mkCS at this ⊢
  rw [List.getElem?_map, List.getElem?_range h] at this
  exact (Option.some.inj this).symm
theorem sfl_set {xs : List SmV} {k : Nat} (h : k < xs.length) (y : SmV) : ((((sfl xs).set (k * 4) y.o).set (k * 4 + 1) y.d).set (k * 4 + 2) y.a).set (k * 4 + 3) y.b = sfl (xs.set k y) := by
  have hl : (sfl (xs.take k)).length = k * 4 := by rw [sfl_length]; simp; omega
  have e : xs = xs.take k ++ (sel xs k :: xs.drop (k + 1)) := by rw [← sel_drop h, List.take_append_drop]
  have e2 : sfl xs = sfl (xs.take k) ++ ((sel xs k).o :: (sel xs k).d :: (sel xs k).a :: (sel xs k).b :: sfl (xs.drop (k + 1))) := by
    conv => lhs; rw [e]
    rw [sfl_append]; simp [sfl]
  have e3 : xs.set k y = xs.take k ++ (y :: xs.drop (k + 1)) := by rw [List.set_eq_take_append_cons_drop, if_pos h]
  rw [e2, e3, sfl_append, List.set_append_right _ _ (by omega), List.set_append_right _ _ (by omega), List.set_append_right _ _ (by omega), List.set_append_right _ _ (by omega), hl]
  simp [sfl]
theorem mkc_step {xs : List SmV} {m : Int} {k : Nat} (h : k < xs.length) : (mkCS m k ++ xs.drop k).set k (mkCP m k) = mkCS m (k + 1) ++ xs.drop (k + 1) := by
  rw [List.set_append_right _ _ (by rw [mkCS_length]; exact Nat.le_refl _), mkCS_length, Nat.sub_self, sel_drop h]
  simp [mkCS, List.range_succ]
theorem mkc_len {xs : List SmV} {m : Int} {k : Nat} (h : k ≤ xs.length) : (mkCS m k ++ xs.drop k).length = xs.length := by rw [List.length_append, mkCS_length, List.length_drop]; omega
set_option maxRecDepth 100000 in
theorem l_markStmtSO (w : World) (lo hi : Nat) (v : Value) (xs : List SmV) (m : Int) (h0 : 0 ≤ m) (h1 : m + 4 * xs.length ≤ 9223372036854775807) (hO : OC w lo hi v xs) :
    Calls Tryd.prog 18 #[v, .int .i64 m] w fun e w' => e = .returned (.int .i64 (m + 4 * (xs.length : Nat))) ∧ OC w' lo hi v (mkCS m xs.length) ∧ Chg lo hi w w' := by
  have HO := hid hO
  obtain ⟨A, c, rfl, hc1, hc2, _⟩ := Own.shape hO
  have H1 := hid h1
  have H0 := hid h0
  clear hO h1 h0
  go_enter Tryd.func18, Tryd.ntmps18
  go_wp2
  go_loopg [1, 5] xs.length (fun gg mk s wr => ∃ k : Nat, k ≤ xs.length ∧ xs.length - k ≤ gg ∧ s = .int .i64 k ∧ mk = .int .i64 (m + 4 * k) ∧ Aside (Chg lo hi w wr) ∧
    Aside (Own wr lo hi 57 4 (.slice A xs.length c) xs.length (ints (sfl (mkCS m k ++ xs.drop k)))))
  case atStart => exact ⟨0, Nat.zero_le _, by omega, rfl, by simp, Chg.refl _ _ _, by show Own _ _ _ _ _ _ _ _; simpa [mkCS] using (show Own _ _ _ _ _ _ _ _ from HO.out)⟩
  case round =>
    obtain ⟨k, hk, hg, rfl, rfl, CW, OW⟩ := hrel
    clear HO
    by_cases hlt : k < xs.length
    · have hown := OW.out
      have hll : (sfl (mkCS m k ++ xs.drop k)).length = xs.length * 4 := by rw [sfl_length, mkc_len hk]
      obtain ⟨A', c', e', _, _, hs⟩ := hown.shape
      obtain ⟨rfl, rfl⟩ : A' = A ∧ c' = c := by cases e'; exact ⟨rfl, rfl⟩
      rcases hs with ⟨_, hz⟩ | ⟨g, rfl, hlo, hhi, hcells, hfr⟩
      · omega
      have hck := hcells (k * 4) _ (ints_get (by omega))
      have hck1 := hcells (k * 4 + 1) _ (ints_get (by omega))
      have hck2 := hcells (k * 4 + 2) _ (ints_get (by omega))
      have hck3 := hcells (k * 4 + 3) _ (ints_get (by omega))
      have hfk := hfr (k * 4)
      have hfk1 := hfr (k * 4 + 1)
      have hfk2 := hfr (k * 4 + 2)
      have hfk3 := hfr (k * 4 + 3)
      have hst : ((((sfl (mkCS m k ++ xs.drop k)).set (k * 4) (m + 4 * k)).set (k * 4 + 1) (m + 4 * k + 1)).set (k * 4 + 2) (m + 4 * k + 2)).set (k * 4 + 3) (m + 4 * k + 3) = sfl (mkCS m (k + 1) ++ xs.drop (k + 1)) := by
        have := sfl_set (xs := mkCS m k ++ xs.drop k) (k := k) (by rw [mkc_len hk]; exact hlt) (mkCP m k)
        rw [mkc_step hlt] at this
        exact this
      have hb1 : 0 ≤ m + 4 * (k : Int) ∧ m + 4 * (k : Int) + 4 ≤ 9223372036854775807 := by have := H1.out; have := H0.out; omega
      have ha4 : m + 4 * ((k + 1 : Nat) : Int) = m + 4 * (k : Int) + 4 := by omega
      have HA4 := hid ha4
      clear ha4
      generalize m + 4 * (k : Int) = a0 at *
      obtain ⟨a1, hA1⟩ : ∃ a1, a1 = a0 + 1 := ⟨_, rfl⟩
      obtain ⟨a2, hA2⟩ : ∃ a2, a2 = a0 + 2 := ⟨_, rfl⟩
      obtain ⟨a3, hA3⟩ : ∃ a3, a3 = a0 + 3 := ⟨_, rfl⟩
      obtain ⟨a4, hA4⟩ : ∃ a4, a4 = a0 + 4 := ⟨_, rfl⟩
      have w1 : wrap64 (a0 + 1) = a1 := by rw [hA1]; exact wrap64_inC (by omega) (by omega)
      have w2 : wrap64 (a1 + 1) = a2 := by rw [wrap64_inC (by omega) (by omega)]; omega
      have w3 : wrap64 (a2 + 1) = a3 := by rw [wrap64_inC (by omega) (by omega)]; omega
      have w4 : wrap64 (a3 + 1) = a4 := by rw [wrap64_inC (by omega) (by omega)]; omega
      rw [← hA1, ← hA2, ← hA3] at hst
      rw [← hA4] at HA4
      have OW' : Hid (Own ((((wr.setCell ⟨g, k * 4, none⟩ (.int .i64 a0)).setCell ⟨g, k * 4 + 1, none⟩ (.int .i64 a1)).setCell ⟨g, k * 4 + 2, none⟩ (.int .i64 a2)).setCell ⟨g, k * 4 + 3, none⟩ (.int .i64 a3)) lo hi 57 4 (.slice (some ⟨g, 0, none⟩) xs.length c') xs.length (ints (sfl (mkCS m (k + 1) ++ xs.drop (k + 1))))) := hid (by
        have := (((hown.set (k * 4) (.int .i64 a0)).set (k * 4 + 1) (.int .i64 a1)).set (k * 4 + 2) (.int .i64 a2)).set (k * 4 + 3) (.int .i64 a3); rw [ints_set, ints_set, ints_set, ints_set, hst] at this; exact this)
      have CW' : Hid (Chg lo hi w ((((wr.setCell ⟨g, k * 4, none⟩ (.int .i64 a0)).setCell ⟨g, k * 4 + 1, none⟩ (.int .i64 a1)).setCell ⟨g, k * 4 + 2, none⟩ (.int .i64 a2)).setCell ⟨g, k * 4 + 3, none⟩ (.int .i64 a3))) := hid ((((CW.out.trans (chg_set wr hlo hhi (k * 4) _)).trans (chg_set _ hlo hhi (k * 4 + 1) _)).trans (chg_set _ hlo hhi (k * 4 + 2) _)).trans (chg_set _ hlo hhi (k * 4 + 3) _))
      have HK1 : Hid (xs.length - (k + 1) < gk) := hid (by omega)
      have HKL := hid hlt
      have HW4 := hid w4
      clear e' hcells hfr OW CW hown hst hll hA1 hA2 hA3 hA4 hb1 H1 H0
      go_wp2
      go_roundg (xs.length - (k + 1))
      case measure => exact HK1.out
      case rel => exact ⟨k + 1, HKL.out, Nat.le_refl _, by go_num, by rw [HA4.out]; first | rfl | rw [HW4.out], CW'.out, OW'.out⟩
    · have : k = xs.length := by omega
      subst this
      have OW' := hid OW.out
      rw [List.drop_length, List.append_nil] at OW'
      go_wp2
      go_ret
      refine ⟨rfl, ?_, CW.out⟩
      show Own _ _ _ _ _ _ _ _
      rw [mkCS_length]; exact OW'.out
set_option maxRecDepth 100000 in
theorem l_heldStmtSM (w : World) (lo hi : Nat) (v : Value) (n : Nat) (hn : n ≤ 1048576) (hO : OC w lo hi v (mkCS 1 n)) :
    Calls Tryd.prog 19 #[v, .int .i64 1] w fun e w' => e = .returned (.int .i64 (1 + 4 * (n : Nat))) ∧ Below w.heap.size w w' := by
  obtain ⟨A, c, rfl, hc1, hc2, hR⟩ := hO.shp
  rw [mkCS_length] at hc1 ⊢
  have HR := hid hR
  have HN := hid hn
  clear hR hO
  go_enter Tryd.func19, Tryd.ntmps19
  go_wp2
  go_loopg [1, 5] n (fun gg mk s wr => ∃ k : Nat, k ≤ n ∧ n - k ≤ gg ∧ s = .int .i64 k ∧ mk = .int .i64 (1 + 4 * k) ∧ Aside (w = wr))
  case atStart => exact ⟨0, Nat.zero_le _, by omega, rfl, by simp, rfl⟩
  case round =>
    obtain ⟨k, hk, hg, rfl, rfl, BW⟩ := hrel
    obtain rfl := BW.out
    by_cases hlt : k < n
    · obtain ⟨b, off, rfl, g1⟩ := HR.out.get (k := k) (by rw [mkCS_length]; exact hlt)
      rw [mkCS_at hlt] at g1
      obtain ⟨e1, e2, e3, e4⟩ := g1
      simp only [mkCP] at e1 e2 e3 e4
      have hb1 : 0 ≤ 1 + 4 * (k : Int) ∧ 1 + 4 * (k : Int) + 4 ≤ 9223372036854775807 := by omega
      have ha4 : 1 + 4 * ((k + 1 : Nat) : Int) = 1 + 4 * (k : Int) + 4 := by omega
      have HA4 := hid ha4
      clear ha4
      generalize 1 + 4 * (k : Int) = a0 at *
      obtain ⟨a1, hA1⟩ : ∃ a1, a1 = a0 + 1 := ⟨_, rfl⟩
      obtain ⟨a2, hA2⟩ : ∃ a2, a2 = a0 + 2 := ⟨_, rfl⟩
      obtain ⟨a3, hA3⟩ : ∃ a3, a3 = a0 + 3 := ⟨_, rfl⟩
      obtain ⟨a4, hA4⟩ : ∃ a4, a4 = a0 + 4 := ⟨_, rfl⟩
      have w1 : wrap64 (a0 + 1) = a1 := by rw [hA1]; exact wrap64_inC (by omega) (by omega)
      have w2 : wrap64 (a1 + 1) = a2 := by rw [wrap64_inC (by omega) (by omega)]; omega
      have w3 : wrap64 (a2 + 1) = a3 := by rw [wrap64_inC (by omega) (by omega)]; omega
      have w4 : wrap64 (a3 + 1) = a4 := by rw [wrap64_inC (by omega) (by omega)]; omega
      rw [← hA1] at e2
      rw [← hA2] at e3
      rw [← hA3] at e4
      rw [← hA4] at HA4
      have HK1 : Hid (n - (k + 1) < gk) := hid (by omega)
      have HKL := hid hlt
      clear hA1 hA2 hA3 hA4 hb1
      go_wp2
      go_roundg (n - (k + 1))
      case measure => exact HK1.out
      case rel => exact ⟨k + 1, HKL.out, Nat.le_refl _, by go_num, by rw [HA4.out], rfl⟩
    · have : k = n := by omega
      subst this
      go_wp2
      go_ret
      exact ⟨rfl, Below.refl _ _⟩
end Go.Proofs.YtmpdaafkphpnoaaDoor
