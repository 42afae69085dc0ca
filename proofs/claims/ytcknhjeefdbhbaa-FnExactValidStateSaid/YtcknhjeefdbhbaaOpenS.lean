import Derived.Test.YtcknhjeefdbhbaaOpenI
import Derived.Test.YtcknhjeefdbhbaaOpenR
import Derived.Test.YtcknhjeefdbhbaaState
import Derived.Lib.SmallJoins
set_option linter.unusedVariables false
set_option linter.unusedSimpArgs false
namespace Go.Proofs.Ytcknhjeefdbhbaa
open Go.ChangeShapes Go.WideShapes Go.ChangeAt Go.RowKit
theorem rdI_of_trod {H : Type} {enc : TypeId × Value → H} {W : World} {n : Nat} {v : Value} {y : DataW H × List MemPlace}
    (hf : DataW.trod enc Try.prog W 0 (fun _ => true) true n 25 [v] = some y) : ∃ (A : Option Addr) (c : Nat) (xs : List Int), v = .slice A xs.length c ∧ xs.length ≤ 9223372036854775807 ∧ xs.length ≤ c ∧ RdI W A xs := by
  rcases open_ints Try.underlying25 Try.underlying2 cellsInt hf with ⟨hcs, _⟩ | ⟨x, l, c, zs, hcs, _, hl, hm, hz, _, hcell, _⟩
  · simp at hcs
    exact ⟨none, 0, [], by simpa using hcs, by simp, by simp, fun k hk => absurd hk (Nat.not_lt_zero _)⟩
  · simp at hcs
    simp only [if_true] at hz
    have hlen : (zs.take l).length = l := by rw [List.length_take]; omega
    refine ⟨some x, c, zs.take l, by rw [hlen]; exact hcs, by rw [hlen]; simp only [maxLen] at hm; omega, by rw [hlen]; exact hl, ?_⟩
    intro k hk
    rw [hlen] at hk
    have hc := hcell k (by omega)
    have he : el (zs.take l) k = zs.getD k 0 := by
      unfold el; rw [List.getD_eq_getElem?_getD, List.getD_eq_getElem?_getD, List.getElem?_take_of_lt hk]
    have hs : x.spot = none := flat_addr (hcell 0 (by omega))
    obtain ⟨b, off, s⟩ := x
    obtain rfl : s = none := hs
    refine ⟨b, off, rfl, ?_⟩
    show W.cell? _ = some (.int .i64 (el (List.take l zs) k))
    rw [he, ← hc]
    congr 1
    unfold Addr.add
    split
    · rename_i h; subst h; rfl
    · rfl
set_option maxRecDepth 100000 in
theorem rdR_of_trod {H : Type} {enc : TypeId × Value → H} {W : World} {n : Nat} {v : Value} {y : DataW H × List MemPlace}
    (hf : DataW.trod enc Try.prog W 0 (fun _ => true) true n 24 [v] = some y) : ∃ (A : Option Addr) (c : Nat) (xs : List (List Int)), v = .slice A xs.length c ∧ BigR xs ∧ RdR W A xs := by
  rcases Deep.open_int_rows Try.underlying24 Try.underlying25 Try.underlying2 cellsRow cellsInt hf with ⟨hcs, _⟩ | ⟨x, l, c, A, L, C, Z, hcs, _, hl, hm, _, hcell⟩
  · simp at hcs
    exact ⟨none, 0, [], by simpa using hcs, ⟨by simp, fun k hk => absurd hk (Nat.not_lt_zero _)⟩, fun _ => .slice none 0 0, fun k hk => absurd hk (Nat.not_lt_zero _), fun k hk => absurd hk (Nat.not_lt_zero _)⟩
  · simp at hcs
    have hrow : ∀ k, k < l → rw_ ((List.range l).map fun r => (Z r).take (L r)) k = (Z k).take (L k) := fun k hk => by
      unfold rw_; rw [List.getD_eq_getElem?_getD]; simp [hk]
    have hlen : ∀ k, k < l → ((Z k).take (L k)).length = L k := fun k hk => by
      obtain ⟨_, h1, _, h3, _⟩ := hcell k (by omega)
      rw [List.length_take]; omega
    refine ⟨some x, c, (List.range l).map fun r => (Z r).take (L r), by simpa using hcs, ⟨by simp only [maxLen] at hm; simp; omega, fun k hk => ?_⟩, fun k => .slice (A k) (L k) (C k), fun k hk => ?_, fun k hk => ?_⟩
    · have hk' : k < l := by simpa using hk
      rw [hrow k hk', hlen k hk']
      obtain ⟨_, h1, h2, _⟩ := hcell k (by omega)
      simp only [maxLen] at h2
      omega
    · have hk' : k < l := by simpa using hk
      obtain ⟨hc, _⟩ := hcell k (by omega)
      have hs : x.spot = none := by
        have := flat_addr (hcell 0 (by omega)).1
        exact this
      obtain ⟨b, off, s⟩ := x
      obtain rfl : s = none := hs
      refine ⟨b, off, rfl, ?_⟩
      rw [← hc]
      congr 1
      unfold Addr.add
      split
      · rename_i h; subst h; rfl
      · rfl
    · have hk' : k < l := by simpa using hk
      obtain ⟨_, h1, _, h3, _, h5, h6⟩ := hcell k (by omega)
      rw [hrow k hk']
      refine ⟨A k, C k, by rw [hlen k hk'], by rw [hlen k hk']; exact h1, fun i hi => ?_⟩
      rw [hlen k hk'] at hi
      cases ha : A k with
      | none => have := h5 ha; omega
      | some a' =>
        obtain ⟨_, h7⟩ := h6 a' ha
        have hs : a'.spot = none := flat_addr (h7 0 (by omega))
        obtain ⟨b, off, s⟩ := a'
        obtain rfl : s = none := hs
        refine ⟨b, off, rfl, ?_⟩
        have he : el ((Z k).take (L k)) i = (Z k).getD i 0 := by
          unfold el; rw [List.getD_eq_getElem?_getD, List.getD_eq_getElem?_getD, List.getElem?_take_of_lt hi]
        show W.cell? _ = some (.int .i64 (el _ i))
        rw [he, ← h7 i (by omega)]
        congr 1
        unfold Addr.add
        split
        · rename_i h; subst h; rfl
        · rfl
set_option maxRecDepth 100000 in
theorem open_S {H : Type} {enc : TypeId × Value → H} {W : World} {base : Nat} {v : Value} {d : DataW H} {p : List MemPlace}
    (hv : Value.okWide Try.prog W .any base 27 v) (h : DataW.Trod enc Try.prog W 0 (fun _ => true) true 27 v d p) :
    ∃ (A1 : Option Addr) (c1 : Nat) (A2 : Option Addr) (c2 : Nat) (A3 : Option Addr) (c3 : Nat) (s : StV), v = stv A1 s.vec.length c1 A2 s.msk.length c2 A3 s.mem.length c3 ∧ BigS s ∧ RdS W A1 A2 A3 s := by
  obtain ⟨v0, v1, v2, y0, y1, y2, n, rfl, _, _, h0, h1, h2⟩ := Go.Joins.open_agg3 Try.underlying27 (by kernel_rfl) (by kernel_rfl) hv h
  obtain ⟨A1, c1, xs1, e1, l1, r1⟩ := rdR_of_trod (show DataW.trod enc Try.prog W 0 (fun _ => true) true n 24 [v0] = some y0 from h0)
  obtain ⟨A2, c2, xs2, e2, l2, r2⟩ := rdR_of_trod (show DataW.trod enc Try.prog W 0 (fun _ => true) true n 24 [v1] = some y1 from h1)
  obtain ⟨A3, c3, xs3, e3, l3, _, r3⟩ := rdI_of_trod (show DataW.trod enc Try.prog W 0 (fun _ => true) true n 25 [v2] = some y2 from h2)
  exact ⟨A1, c1, A2, c2, A3, c3, ⟨xs1, xs2, xs3⟩, by rw [e1, e2, e3], ⟨l1, l2, l3⟩, ⟨r1, r2, r3⟩⟩
end Go.Proofs.Ytcknhjeefdbhbaa
