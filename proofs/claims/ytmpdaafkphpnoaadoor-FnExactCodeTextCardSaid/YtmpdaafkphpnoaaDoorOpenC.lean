import Derived.Test.YtmpdaafkphpnoaaDoorOpenI
import Derived.Test.YtmpdaafkphpnoaaDoorStm
import Derived.Deep.SlicePairs
import Derived.Deep.Strs
import Derived.Lib.SmallJoins
set_option linter.unusedVariables false
set_option linter.unusedSimpArgs false
namespace Go.Proofs.YtmpdaafkphpnoaaDoor
open Go.ChangeShapes Go.WideShapes Go.ChangeAt Go.RowKit
theorem flat_addrC {W : World} {x : Addr} {v : Value} (h : W.cell? x = some v) : x.spot = none := by
  cases hx : x.spot with
  | none => rfl
  | some s =>
    simp only [World.cell?] at h
    split at h
    · rw [if_pos (by rw [hx]; rfl)] at h; cases h
    · cases h
set_option maxRecDepth 100000 in
theorem open_C {H : Type} {enc : TypeId × Value → H} {W : World} {base : Nat} {v : Value} {d : DataW H} {p : List MemPlace}
    (hv : Value.okWide Tryd.prog W .any base 32 v) (h : DataW.Trod enc Tryd.prog W 0 (fun _ => true) true 32 v d p) :
    ∃ (A : Option Addr) (c : Nat) (xs : List SmV), v = .slice A xs.length c ∧ xs.length ≤ 9223372036854775807 ∧ RdC W A xs := by
  obtain ⟨a, len, cap, rfl⟩ := okWide_slice Tryd.underlying32 hv
  obtain ⟨fuel, hf⟩ := h
  rcases Deep.open_slice Tryd.underlying32 hf with ⟨hcs, _⟩ | ⟨x, l, c, m, n, D, Pl, hcs, _, hl, hm, hmm, _, hx⟩
  · simp [Value.cells] at hcs
    obtain ⟨rfl, rfl, rfl⟩ := hcs
    exact ⟨none, 0, [], rfl, by simp, fun k hk => absurd hk (Nat.not_lt_zero _)⟩
  · simp [Value.cells] at hcs
    obtain ⟨rfl, rfl, rfl⟩ := hcs
    simp only [if_true] at hmm
    have hmm' := hmm.symm
    subst hmm'
    have ce : Tryd.prog.cellsOf 59 = 4 := by kernel_rfl
    have each : ∀ i, i < cap → ∃ q : SmV, W.cell? (x.add (i * 4)) = some (.int .i64 q.o) ∧ W.cell? (x.add (i * 4 + 1)) = some (.int .i64 q.d) ∧ W.cell? (x.add (i * 4 + 2)) = some (.int .i64 q.a) ∧ W.cell? (x.add (i * 4 + 3)) = some (.int .i64 q.b) := fun i hi => by
      obtain ⟨cs', h1, h2⟩ := hx i hi
      rw [ce] at h1
      obtain ⟨_, hlen, hcell⟩ := World.cells?_some h1
      obtain ⟨y0, y1, y2, y3, m, _, _, t0, t1, t2, t3⟩ := Joins.trod_struct4 Tryd.underlying59 h2
      match cs', hlen with
      | [v0, v1, v2, v3], _ =>
        have z0 : Tryd.prog.cellsOf 2 = 1 := cellsInt
        simp [z0] at t0 t1 t2 t3
        obtain ⟨a, e0, _⟩ := DataW.trod_int Tryd.underlying2 t0
        obtain ⟨b, e1, _⟩ := DataW.trod_int Tryd.underlying2 t1
        obtain ⟨c, e2, _⟩ := DataW.trod_int Tryd.underlying2 t2
        obtain ⟨d, e3, _⟩ := DataW.trod_int Tryd.underlying2 t3
        simp at e0 e1 e2 e3
        have g0 := hcell 0 (by omega)
        have g1 := hcell 1 (by omega)
        have g2 := hcell 2 (by omega)
        have g3 := hcell 3 (by omega)
        rw [Deep.add_add] at g0 g1 g2 g3
        exact ⟨⟨a, b, c, d⟩, by rw [← e0]; simpa using g0, by rw [← e1]; simpa using g1, by rw [← e2]; simpa using g2, by rw [← e3]; simpa using g3⟩
    obtain ⟨q, hq⟩ := Deep.choose_lt each
    have hsel : ∀ k, k < len → sel ((List.range len).map q) k = q k := fun k hk => by
      unfold sel; rw [List.getD_eq_getElem?_getD]; simp [hk]
    refine ⟨some x, cap, (List.range len).map q, by simp, by simp only [maxLen] at hm; simp; omega, fun k hk => ?_⟩
    have hk' : k < len := by simpa using hk
    obtain ⟨h0, h1, h2, h3⟩ := hq k (by omega)
    rw [hsel k hk']
    have hs : x.spot = none := by
      have h := (hq 0 (by omega)).1
      rw [Nat.zero_mul, show x.add 0 = x from rfl] at h
      exact flat_addrC h
    obtain ⟨b, off, s⟩ := x
    obtain rfl : s = none := hs
    refine ⟨b, off, rfl, ?_, ?_, ?_, ?_⟩
    · rw [← h0]; congr 1; unfold Addr.add; split
      · rename_i h; rw [h]; rfl
      · rfl
    · rw [← h1]; congr 1
    · rw [← h2]; congr 1
    · rw [← h3]; congr 1
end Go.Proofs.YtmpdaafkphpnoaaDoor
