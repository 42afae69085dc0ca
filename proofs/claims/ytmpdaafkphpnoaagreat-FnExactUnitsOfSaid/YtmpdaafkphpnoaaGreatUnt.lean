import Derived.Test.YtmpdaafkphpnoaaGreatMsk
set_option linter.unusedVariables false
set_option linter.unusedSimpArgs false
namespace Go.Proofs.YtmpdaafkphpnoaaGreat
open Go.RowKit

def ndL (cs : List SmV) : List Int := (List.range cs.length).map fun j => (ndM cs j j : Int)
theorem ndL_length (cs : List SmV) : (ndL cs).length = cs.length := by simp [ndL]
theorem ndL_el {cs : List SmV} {j : Nat} (h : j < cs.length) : el (ndL cs) j = (ndM cs j j : Int) := by
  have := el_get (xs := ndL cs) (k := j) (by rw [ndL_length]; exact h)
  unfold ndL at this
  rw [List.getElem?_map, List.getElem?_range h] at this
  exact (Option.some.inj this).symm
theorem pow_wrap {i : Nat} (h : i < 16) : wrap64 ((2 : Int) ^ i) = ((2 ^ i : Nat) : Int) := by
  have := pow_small16 h
  have e : ((2 : Int) ^ i) = ((2 ^ i : Nat) : Int) := by push_cast; rfl
  rw [e]
  clear e
  generalize 2 ^ i = p at this ⊢
  unfold wrap64; omega
/-- The numbers of a unit. -/
def InU (cs : List SmV) (u : List Int) : Prop := cs.length ≤ 16 ∧ ∀ x ∈ u, 0 ≤ x ∧ x < cs.length
theorem InU.small {cs : List SmV} {u : List Int} (h : InU cs u) : ∀ x ∈ u, 0 ≤ x ∧ x < 16 := fun x hx => by have := h.1; have := h.2 x hx; omega
theorem InU.at_ {cs : List SmV} {u : List Int} (h : InU cs u) {k : Nat} (hk : k < u.length) : ∃ x : Nat, x < 16 ∧ x < cs.length ∧ el u k = x := by
  have := h.2 _ (el_mem hk)
  have := h.1
  exact ⟨(el u k).toNat, by omega, by omega, by omega⟩
theorem mskL_take {u : List Int} {k : Nat} (h : k < u.length) {x : Nat} (hx : el u k = x) : mskL (u.take (k + 1)) = mskL (u.take k) ||| 2 ^ x := by
  rw [el_take h, mskL_app, hx]; simp [mskL]
theorem nedM_take (cs : List SmV) {u : List Int} {k : Nat} (h : k < u.length) {x : Nat} (hx : el u k = x) : nedM cs (u.take (k + 1)) = nedM cs (u.take k) ||| ndM cs x x := by
  rw [el_take h, nedM_app, hx]; simp [nedM]
theorem take_small {u : List Int} (h : ∀ x ∈ u, 0 ≤ x ∧ x < 16) (k : Nat) : ∀ x ∈ u.take k, 0 ≤ x ∧ x < 16 := fun x hx => h x (List.mem_of_mem_take hx)
set_option maxRecDepth 100000 in
theorem i_units3 (W : World) (A An : Option Addr) (c cn bn bd : Nat) (u : List Int) (cs : List SmV) (D : List Int) (hu : InU cs u) (hul : u.length ≤ 1048576) (hD : ∀ x ∈ D, 0 ≤ x ∧ x < 16) (hn : W.cell? ⟨bn, 0, none⟩ = some (.slice An cs.length cn)) (hd : W.cell? ⟨bd, 0, none⟩ = some (.int .i64 (mskL D : Nat)))
    (hN : RdI W An (ndL cs)) (hR : RdI W A u) :
    Calls Tryz.prog 139 #[.slice A u.length c, .pointer (some ⟨bn, 0, none⟩), .pointer (some ⟨bd, 0, none⟩)] W fun e w' => e = .returned (.bool (rdyB cs D u)) ∧ W = w' := by
  have HM := hid (rdy_msk hD hu.small (cs := cs))
  have HU := hid hu
  have HN := hid hN
  have HD := hid (mskL_small hD)
  clear hN hD hu
  go_enter Tryz.func139, Tryz.ntmps139
  go_wp2
  go_loopg [5, 6, 11] u.length (fun gg s5 s6 s11 wr => ∃ k : Nat, k ≤ u.length ∧ u.length - k ≤ gg ∧ s11 = .int .i64 k ∧ s5 = .int .i64 (mskL (u.take k) : Nat) ∧ s6 = .int .i64 (nedM cs (u.take k) : Nat) ∧ Aside (W = wr))
  case atStart => exact ⟨0, Nat.zero_le _, by omega, rfl, rfl, rfl, rfl⟩
  case round =>
    obtain ⟨k, hk, hg, rfl, rfl, rfl, BW⟩ := hrel
    obtain rfl := BW.out
    by_cases hlt : k < u.length
    · obtain ⟨b, off, rfl, hc⟩ := hR.get hlt
      obtain ⟨x, hx, hxc, he⟩ := HU.out.at_ hlt
      obtain ⟨b', off', rfl, hc'⟩ := HN.out.get (k := x) (by rw [ndL_length]; exact hxc)
      rw [ndL_el hxc] at hc'
      rw [he] at hc
      have HTM := hid (mskL_take hlt he)
      have HTN := hid (nedM_take cs hlt he)
      have o1 := msk_or (mskL (u.take k)) (2 ^ x) (mskL_small (take_small HU.out.small k)) (pow_small16 hx)
      have o2 := msk_or (nedM cs (u.take k)) (ndM cs x x) (nedM_small (take_small HU.out.small k)) (ndM_small cs x (by omega))
      have EP := hid (pow_wrap hx)
      have O1 := hid o1
      clear o1
      have hltz : (k : Int) < (u.length : Int) := by omega
      clear hR he
      generalize mskL (u.take k) = m1 at *
      generalize nedM cs (u.take k) = m2 at *
      generalize ndM cs x x = m3 at *
      go_wp2
      go_roundg (u.length - (k + 1))
      case measure => omega
      case rel => exact ⟨k + 1, by omega, by omega, by go_num, by rw [HTM.out, EP.out, O1.out], by rw [HTN.out], rfl⟩
    · obtain rfl : k = u.length := by omega
      rw [List.take_length]
      have o3 := msk_or (mskL D) (mskL u) HD.out (mskL_small HU.out.small)
      have o4 := msk_andNot (nedM cs u) (mskL D ||| mskL u) (nedM_small HU.out.small) (or_small HD.out (mskL_small HU.out.small))
      have hltz : ¬ (u.length : Int) < (u.length : Int) := by omega
      have HM' := hid HM.out
      clear hR HN HM HU hlt
      generalize mskL u = m1 at *
      generalize nedM cs u = m2 at *
      generalize mskL D = m3 at *
      generalize m3 ||| m1 = m4 at *
      by_cases h0 : anM m2 m4 = 0
      · have hz : ((anM m2 m4 : Nat) : Int) = 0 := by omega
        rw [hz] at o4
        have HX : Hid (rdyB cs D u = true) := hid (by rw [← HM'.out]; simpa using h0)
        clear HM' h0 hz
        go_wp2
        go_ret
        exact ⟨by rw [HX.out]; rfl, rfl⟩
      · have hz : (((anM m2 m4 : Nat) : Int) == 0) = false := by simp; omega
        have HX : Hid (rdyB cs D u = false) := hid (by rw [← HM'.out]; simpa using h0)
        clear HM' h0
        generalize ((anM m2 m4 : Nat) : Int) = m5 at *
        go_wp2
        go_ret
        exact ⟨by rw [HX.out]; rfl, rfl⟩
end Go.Proofs.YtmpdaafkphpnoaaGreat
