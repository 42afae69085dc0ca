import Derived.Test.YtmpdaafkphpnoaaGreatRws2
set_option linter.unusedVariables false
set_option linter.unusedSimpArgs false
namespace Go.Proofs.YtmpdaafkphpnoaaGreat
open Go.RowKit

theorem rw_ext {xs ys : List (List Int)} (h : xs.length = ys.length) (he : ∀ k, k < xs.length → rw_ xs k = rw_ ys k) : xs = ys := by
  apply List.ext_getElem? ; intro k
  by_cases hk : k < xs.length
  · rw [rw_get hk, rw_get (by omega), he k hk]
  · rw [List.getElem?_eq_none (by omega), List.getElem?_eq_none (by omega)]
set_option maxRecDepth 100000 in
theorem l_eqInt64SS (w : World) (A B : Option Addr) (c d : Nat) (xs ys : List (List Int)) (hl : BigR xs) (hl' : BigR ys) (hA : RdR w A xs) (hB : RdR w B ys) :
    Calls Tryz.prog 34 #[.slice A xs.length c, .slice B ys.length d] w fun e w' => e = .returned (.bool (decide (xs = ys))) ∧ Below w.heap.size w w' := by
  have hn := hl.1
  have hn' := hl'.1
  have HX1 : Hid (BigR xs) := hid hl
  have HY1 : Hid (BigR ys) := hid hl'
  have HRA := hid hA
  have HRB := hid hB
  clear hl hl' hA hB
  by_cases hlen : xs.length = ys.length
  · have hne : ((xs.length : Int) != (ys.length : Int)) = false := by simp [hlen]
    have HL := hid hlen
    clear hlen
    go_enter Tryz.func34, Tryz.ntmps34
    go_wp2
    go_loopg [5] xs.length (fun gg s wr => ∃ k : Nat, k ≤ xs.length ∧ xs.length - k ≤ gg ∧ s = .int .i64 k ∧ Aside (Below w.heap.size w wr) ∧ Aside (∀ j, j < k → rw_ xs j = rw_ ys j))
    case atStart => exact ⟨0, Nat.zero_le _, by omega, rfl, Below.refl _ _, fun j hj => absurd hj (Nat.not_lt_zero _)⟩
    case round =>
      obtain ⟨k, hk, hg, rfl, BW, EQ⟩ := hrel
      by_cases hlt : k < xs.length
      · obtain ⟨b, off, A1, c1, rfl, hc, _, hr⟩ := (HRA.out.below BW.out).get hlt
        obtain ⟨b', off', A2, c2, rfl, hc', _, hr'⟩ := (HRB.out.below BW.out).get (k := k) (by have := HL.out; omega)
        have hlt' : (k : Int) < (ys.length : Int) := by have := HL.out; omega
        have hq := l_eqInt64S wr.drew A1 A2 c1 c2 (rw_ xs k) (rw_ ys k) (HX1.out.2 k hlt) (HY1.out.2 k (by have := HL.out; omega)) hr hr'
        clear hr hr'
        by_cases hx : rw_ xs k = rw_ ys k
        · have hx' : decide (rw_ xs k = rw_ ys k) = true := by simpa using hx
          rw [hx'] at hq
          have HX := hid hx
          have HQ := hid hq
          clear hx hx' hq
          generalize (rw_ xs k).length = n1 at *
          generalize (rw_ ys k).length = n2 at *
          go_wp2
          go_still_tail 8, (by kernel_rfl)
          change wpList _ _ _ _ _ wr.drew
          have BW2 : Below w.heap.size w wr.drew := ⟨BW.out.os, BW.out.tape, BW.out.output, BW.out.size, BW.out.block⟩
          clear BW hc hc'
          go_wp2_with fail
          refine HQ.out.mono ?_
          rintro e w3 ⟨rfl, hb3⟩
          have BW3 := bthen BW2 hb3
          clear HQ
          go_wp2_with fail
          go_roundg (xs.length - (k + 1))
          case measure => omega
          case rel =>
            refine ⟨k + 1, by omega, by omega, by go_num, BW3, (show Aside _ from fun j hj => ?_)⟩
            by_cases e : j = k
            · subst e; exact HX.out
            · exact EQ.out j (by omega)
        · have hx' : decide (rw_ xs k = rw_ ys k) = false := by simpa using hx
          rw [hx'] at hq
          have hne' : decide (xs = ys) = false := by simp; rintro rfl; exact hx rfl
          have HN := hid hne'
          have HQ := hid hq
          clear hx hx' hne' hq
          generalize (rw_ xs k).length = n1 at *
          generalize (rw_ ys k).length = n2 at *
          go_wp2
          go_still_tail 8, (by kernel_rfl)
          change wpList _ _ _ _ _ wr.drew
          have BW2 : Below w.heap.size w wr.drew := ⟨BW.out.os, BW.out.tape, BW.out.output, BW.out.size, BW.out.block⟩
          clear BW hc hc'
          go_wp2_with fail
          refine HQ.out.mono ?_
          rintro e w3 ⟨rfl, hb3⟩
          have BW3 := bthen BW2 hb3
          clear HQ
          go_wp2_with fail
          go_ret
          exact ⟨by rw [HN.out]; rfl, BW3⟩
      · have : k = xs.length := by omega
        subst this
        have he : xs = ys := rw_ext HL.out (fun k hk => EQ.out k hk)
        have HE : Aside (decide (xs = ys) = true) := by simp [Aside, he]
        clear he
        go_wp2
        go_ret
        exact ⟨by rw [HE.out]; rfl, BW.out⟩
  · have hne : ((xs.length : Int) != (ys.length : Int)) = true := by simp; omega
    have hn : decide (xs = ys) = false := by simp; rintro rfl; exact hlen rfl
    have HN := hid hn
    clear hn hlen
    go_enter Tryz.func34, Tryz.ntmps34
    go_wp2
    go_ret
    exact ⟨by rw [HN.out]; rfl, Below.refl _ _⟩
theorem big_of {xss : List (List Int)} (h : rsz xss ≤ 1048576) : BigR xss := ⟨by have := rsz_len h; omega, fun k hk => by have := rsz_row h hk; omega⟩
theorem l_eqInt64SSO (w : World) (lo hi lo' hi' : Nat) (v v' : Value) (xs ys : List (List Int)) (hl : rsz xs ≤ 1048576) (hl' : rsz ys ≤ 1048576) (h : OR w lo hi v xs) (h' : OR w lo' hi' v' ys) :
    Calls Tryz.prog 34 #[v, v'] w fun e w' => e = .returned (.bool (decide (xs = ys))) ∧ Below w.heap.size w w' := by
  obtain ⟨A, c, rfl, _, _, hr⟩ := h.shp
  obtain ⟨A', c', rfl, _, _, hr'⟩ := h'.shp
  exact l_eqInt64SS w A A' c c' xs ys (big_of hl) (big_of hl') hr hr'
end Go.Proofs.YtmpdaafkphpnoaaGreat
