import Derived.Test.YtmpdaafkphpnoaaDoorOpenR
import Derived.Test.YtmpdaafkphpnoaaDoorRws3
import Derived.Lib.SmallJoins
set_option linter.unusedVariables false
set_option linter.unusedSimpArgs false
namespace Go.Proofs.YtmpdaafkphpnoaaDoor
open Go.ChangeShapes Go.WideShapes Go.ChangeAt Go.RowKit
set_option maxRecDepth 100000 in
theorem rdR_of_trodP {H : Type} {enc : TypeId × Value → H} {W : World} {n : Nat} {v : Value} {y : DataW H × List MemPlace}
    (hf : DataW.trod enc Tryd.prog W 0 (fun _ => true) true n 22 [v] = some y) : ∃ (A : Option Addr) (c : Nat) (xs : List (List Int)), v = .slice A xs.length c ∧ BigR xs ∧ RdR W A xs := by
  rcases Deep.open_int_rows Tryd.underlying22 Tryd.underlying45 Tryd.underlying2 cellsRow cellsInt hf with ⟨hcs, _⟩ | ⟨x, l, c, A, L, C, Z, hcs, _, hl, hm, _, hcell⟩
  · simp at hcs
    exact ⟨none, 0, [], by simpa using hcs, ⟨by simp, fun k hk => absurd hk (Nat.not_lt_zero _)⟩, fun _ => .slice none 0 0, fun k hk => absurd hk (Nat.not_lt_zero _), fun k hk => absurd hk (Nat.not_lt_zero _)⟩
  · simp at hcs
    have hrow : ∀ k, k < l → rw_ ((List.range l).map fun r => (Z r).take (L r)) k = (Z k).take (L k) := fun k hk => by
      unfold rw_; rw [List.getD_eq_getElem?_getD]; simp [hk]
    have hlen : ∀ k, k < l → ((Z k).take (L k)).length = L k := fun k hk => by
      obtain ⟨_, h1, _, h3, _⟩ := hcell k (by omega)
      rw [List.length_take]; omega
    refine ⟨some x, c, (List.range l).map fun r => (Z r).take (L r), by simpa using hcs, ⟨by simp only [maxLen] at hm; simp; omega, fun k hk => ?_⟩, fun k => .slice (A k) (L k) (C k), fun k hk => ?_, fun k hk => ?_⟩
    · have hk' : k < l := by simpa using hk
      rw [hrow k hk', hlen k hk']
      obtain ⟨_, h1, h2, _⟩ := hcell k (by omega)
      simp only [maxLen] at h2
      omega
    · have hk' : k < l := by simpa using hk
      obtain ⟨hc, _⟩ := hcell k (by omega)
      have hs : x.spot = none := by
        have := flat_addr (hcell 0 (by omega)).1
        exact this
      obtain ⟨b, off, s⟩ := x
      obtain rfl : s = none := hs
      refine ⟨b, off, rfl, ?_⟩
      rw [← hc]
      congr 1
      unfold Addr.add
      split
      · rename_i h; subst h; rfl
      · rfl
    · have hk' : k < l := by simpa using hk
      obtain ⟨_, h1, _, h3, _, h5, h6⟩ := hcell k (by omega)
      rw [hrow k hk']
      refine ⟨A k, C k, by rw [hlen k hk'], by rw [hlen k hk']; exact h1, fun i hi => ?_⟩
      rw [hlen k hk'] at hi
      cases ha : A k with
      | none => have := h5 ha; omega
      | some a' =>
        obtain ⟨_, h7⟩ := h6 a' ha
        have hs : a'.spot = none := flat_addr (h7 0 (by omega))
        obtain ⟨b, off, s⟩ := a'
        obtain rfl : s = none := hs
        refine ⟨b, off, rfl, ?_⟩
        have he : el ((Z k).take (L k)) i = (Z k).getD i 0 := by
          unfold el; rw [List.getD_eq_getElem?_getD, List.getD_eq_getElem?_getD, List.getElem?_take_of_lt hi]
        show W.cell? _ = some (.int .i64 (el _ i))
        rw [he, ← h7 i (by omega)]
        congr 1
        unfold Addr.add
        split
        · rename_i h; subst h; rfl
        · rfl
theorem array1 {α : Type} {cs : Array α} (h : cs.size = 1) : ∃ c0, cs = #[c0] := by
  obtain ⟨l⟩ := cs
  match l, h with
  | [c0], _ => exact ⟨c0, rfl⟩
set_option maxRecDepth 100000 in
theorem open_P {H : Type} {enc : TypeId × Value → H} {W : World} {base : Nat} {v : Value} {d : DataW H} {p : List MemPlace}
    (hv : Value.okWide Tryd.prog W .any base 24 v) (h : DataW.Trod enc Tryd.prog W 0 (fun _ => true) true 24 v d p) :
    ∃ (A : Option Addr) (c : Nat) (xs : List (List Int)), v = .agg #[.slice A xs.length c] ∧ BigR xs ∧ RdR W A xs := by
  obtain ⟨cs, rfl, hsz⟩ := okWide_struct Tryd.underlying24 hv
  obtain ⟨c0, rfl⟩ := array1 (hsz.trans (by kernel_rfl))
  obtain ⟨fuel, hf⟩ := h
  obtain ⟨y0, n, _, _, h0⟩ := trod_struct1 Tryd.underlying24 hf
  obtain ⟨A, c, xs, e, l, r⟩ := rdR_of_trodP (show DataW.trod enc Tryd.prog W 0 (fun _ => true) true n 22 [c0] = some y0 by
    have e1 : Tryd.prog.cellsOf 22 = 1 := by kernel_rfl
    have h1 := h0
    simp only [e1] at h1
    simpa [Value.cells] using h1)
  exact ⟨A, c, xs, by rw [e], l, r⟩
end Go.Proofs.YtmpdaafkphpnoaaDoor
