import Derived.Test.YtmpdaafkphpnoaaDoorOpenI
import Derived.Test.YtmpdaafkphpnoaaDoorRws
import Derived.Deep.Matrix
set_option linter.unusedVariables false
set_option linter.unusedSimpArgs false
namespace Go.Proofs.YtmpdaafkphpnoaaDoor
open Go.ChangeShapes Go.WideShapes Go.ChangeAt Go.RowKit
theorem cellsRow : Tryd.prog.cellsOf 45 = 1 := by kernel_rfl
theorem flat_addr {W : World} {x : Addr} {v : Value} (h : W.cell? x = some v) : x.spot = none := by
  cases hx : x.spot with
  | none => rfl
  | some s =>
    simp only [World.cell?] at h
    split at h
    · rw [if_pos (by rw [hx]; rfl)] at h; cases h
    · cases h
set_option maxRecDepth 100000 in
theorem open_R {H : Type} {enc : TypeId × Value → H} {W : World} {base : Nat} {v : Value} {d : DataW H} {p : List MemPlace}
    (hv : Value.okWide Tryd.prog W .any base 22 v) (h : DataW.Trod enc Tryd.prog W 0 (fun _ => true) true 22 v d p) :
    ∃ (A : Option Addr) (c : Nat) (xs : List (List Int)), v = .slice A xs.length c ∧ BigR xs ∧ RdR W A xs := by
  obtain ⟨a, len, cap, rfl⟩ := okWide_slice Tryd.underlying22 hv
  obtain ⟨fuel, hf⟩ := h
  rcases Deep.open_int_rows Tryd.underlying22 Tryd.underlying45 Tryd.underlying2 cellsRow cellsInt hf with ⟨hcs, _⟩ | ⟨x, l, c, A, L, C, Z, hcs, _, hl, hm, _, hcell⟩
  · simp [Value.cells] at hcs
    obtain ⟨rfl, rfl, rfl⟩ := hcs
    exact ⟨none, 0, [], rfl, ⟨by simp, fun k hk => absurd hk (Nat.not_lt_zero _)⟩, fun _ => .slice none 0 0, fun k hk => absurd hk (Nat.not_lt_zero _), fun k hk => absurd hk (Nat.not_lt_zero _)⟩
  · simp [Value.cells] at hcs
    obtain ⟨rfl, rfl, rfl⟩ := hcs
    have hrow : ∀ k, k < len → rw_ ((List.range len).map fun r => (Z r).take (L r)) k = (Z k).take (L k) := fun k hk => by
      unfold rw_; rw [List.getD_eq_getElem?_getD]; simp [hk]
    have hlen : ∀ k, k < len → ((Z k).take (L k)).length = L k := fun k hk => by
      obtain ⟨_, h1, _, h3, _⟩ := hcell k (by omega)
      rw [List.length_take]; omega
    refine ⟨some x, cap, (List.range len).map fun r => (Z r).take (L r), by simp, ⟨by simp only [maxLen] at hm; simp; omega, fun k hk => ?_⟩, fun k => .slice (A k) (L k) (C k), fun k hk => ?_, fun k hk => ?_⟩
    · have hk' : k < len := by simpa using hk
      rw [hrow k hk', hlen k hk']
      obtain ⟨_, h1, h2, _⟩ := hcell k (by omega)
      simp only [maxLen] at h2
      omega
    · have hk' : k < len := by simpa using hk
      obtain ⟨hc, _⟩ := hcell k (by omega)
      have hs : x.spot = none := by
        have := flat_addr (hcell 0 (by omega)).1
        exact this
      obtain ⟨b, off, s⟩ := x
      obtain rfl : s = none := hs
      refine ⟨b, off, rfl, ?_⟩
      rw [← hc]
      congr 1
      unfold Addr.add
      split
      · rename_i h; subst h; rfl
      · rfl
    · have hk' : k < len := by simpa using hk
      obtain ⟨_, h1, _, h3, _, h5, h6⟩ := hcell k (by omega)
      rw [hrow k hk']
      refine ⟨A k, C k, by rw [hlen k hk'], by rw [hlen k hk']; exact h1, fun i hi => ?_⟩
      rw [hlen k hk'] at hi
      cases ha : A k with
      | none => have := h5 ha; omega
      | some a' =>
        obtain ⟨_, h7⟩ := h6 a' ha
        have hs : a'.spot = none := flat_addr (h7 0 (by omega))
        obtain ⟨b, off, s⟩ := a'
        obtain rfl : s = none := hs
        refine ⟨b, off, rfl, ?_⟩
        have he : el ((Z k).take (L k)) i = (Z k).getD i 0 := by
          unfold el; rw [List.getD_eq_getElem?_getD, List.getD_eq_getElem?_getD, List.getElem?_take_of_lt hi]
        show W.cell? _ = some (.int .i64 (el _ i))
        rw [he, ← h7 i (by omega)]
        congr 1
        unfold Addr.add
        split
        · rename_i h; subst h; rfl
        · rfl
end Go.Proofs.YtmpdaafkphpnoaaDoor
