import Derived.Test.YtjcpjmijhloimaaOpenI
import Derived.Test.YtjcpjmijhloimaaRange
import Derived.Deep.SlicePairs
set_option linter.unusedVariables false
set_option linter.unusedSimpArgs false
namespace Go.Proofs.Ytjcpjmijhloimaa
open Go.ChangeShapes Go.WideShapes Go.ChangeAt Go.RowKit
set_option maxRecDepth 100000 in
theorem open_G {H : Type} {enc : TypeId × Value → H} {W : World} {base : Nat} {v : Value} {d : DataW H} {p : List MemPlace}
    (hv : Value.okWide Try.prog W .any base 55 v) (h : DataW.Trod enc Try.prog W 0 (fun _ => true) true 55 v d p) :
    ∃ (A : Option Addr) (c : Nat) (xs : List PI), v = .slice A xs.length c ∧ xs.length ≤ 9223372036854775807 ∧ RdP W A xs := by
  obtain ⟨a, len, cap, rfl⟩ := okWide_slice Try.underlying55 hv
  obtain ⟨fuel, hf⟩ := h
  rcases Deep.open_slice_pairs Try.underlying55 Try.underlying121 (by kernel_rfl) rfl rfl (by kernel_rfl) (by kernel_rfl) hf with ⟨hcs, _⟩ | ⟨x, l, c, m, n, V0, V1, D0, D1, P0, P1, hcs, _, hl, hm, hmm, _, hcell⟩
  · simp [Value.cells] at hcs
    obtain ⟨rfl, rfl, rfl⟩ := hcs
    exact ⟨none, 0, [], rfl, by simp, fun k hk => absurd hk (Nat.not_lt_zero _)⟩
  · simp [Value.cells] at hcs
    obtain ⟨rfl, rfl, rfl⟩ := hcs
    simp only [if_true] at hmm
    have hmm' := hmm.symm
    subst hmm'
    have each : ∀ i, i < cap → ∃ q : PI, W.cell? (x.add (i * 2)) = some (.int .i64 q.1) ∧ W.cell? (x.add (i * 2 + 1)) = some (.int .i64 q.2) := fun i hi => by
      obtain ⟨h0, h1, t0, t1⟩ := hcell i hi
      obtain ⟨a, e0, _⟩ := DataW.trod_int Try.underlying2 t0
      obtain ⟨b, e1, _⟩ := DataW.trod_int Try.underlying2 t1
      simp at e0 e1
      exact ⟨(a, b), by rw [h0, e0], by rw [h1, e1]⟩
    obtain ⟨q, hq⟩ := Deep.choose_lt each
    refine ⟨some x, cap, (List.range len).map q, by simp, by simp only [maxLen] at hm; simp; omega, ?_⟩
    intro k hk
    have hk' : k < len := by simpa using hk
    have he : pel ((List.range len).map q) k = q k := by unfold pel; rw [List.getD_eq_getElem?_getD]; simp [hk']
    obtain ⟨h0, h1⟩ := hq k (by omega)
    have hs : x.spot = none := by
      have hc0 := (hq 0 (by omega)).1
      cases hx : x.spot with
      | none => rfl
      | some s =>
        rw [Nat.zero_mul, show x.add 0 = x from rfl] at hc0
        simp only [World.cell?] at hc0
        split at hc0
        · rw [if_pos (by rw [hx]; rfl)] at hc0; cases hc0
        · cases hc0
    obtain ⟨b, off, s⟩ := x
    obtain rfl : s = none := hs
    refine ⟨b, off, rfl, ?_, ?_⟩
    · rw [he, ← h0]
      congr 1
      unfold Addr.add
      split
      · rename_i h; rw [h]; rfl
      · rfl
    · rw [he, ← h1]
      congr 1
end Go.Proofs.Ytjcpjmijhloimaa
