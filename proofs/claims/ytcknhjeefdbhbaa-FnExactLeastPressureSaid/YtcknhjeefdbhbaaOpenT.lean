import Derived.Test.YtcknhjeefdbhbaaOpenI
import Derived.Test.YtcknhjeefdbhbaaTask2
import Derived.Deep.SlicePairs
import Derived.Deep.Strs
set_option linter.unusedVariables false
set_option linter.unusedSimpArgs false
namespace Go.Proofs.Ytcknhjeefdbhbaa
open Go.ChangeShapes Go.WideShapes Go.ChangeAt Go.RowKit
theorem flat_addrT {W : World} {x : Addr} {v : Value} (h : W.cell? x = some v) : x.spot = none := by
  cases hx : x.spot with
  | none => rfl
  | some s =>
    simp only [World.cell?] at h
    split at h
    · rw [if_pos (by rw [hx]; rfl)] at h; cases h
    · cases h
theorem rd_of_trod {H : Type} {enc : TypeId × Value → H} {W : World} {n : Nat} {v : Value} {y : DataW H × List MemPlace}
    (hf : DataW.trod enc Try.prog W 0 (fun _ => true) true n 25 [v] = some y) : ∃ (A : Option Addr) (c : Nat) (xs : List Int), v = .slice A xs.length c ∧ xs.length ≤ 9223372036854775807 ∧ xs.length ≤ c ∧ RdI W A xs := by
  rcases open_ints Try.underlying25 Try.underlying2 cellsInt hf with ⟨hcs, _⟩ | ⟨x, l, c, zs, hcs, _, hl, hm, hz, _, hcell, _⟩
  · simp at hcs
    exact ⟨none, 0, [], by simpa using hcs, by simp, by simp, fun k hk => absurd hk (Nat.not_lt_zero _)⟩
  · simp at hcs
    simp only [if_true] at hz
    have hlen : (zs.take l).length = l := by rw [List.length_take]; omega
    refine ⟨some x, c, zs.take l, by rw [hlen]; exact hcs, by rw [hlen]; simp only [maxLen] at hm; omega, by rw [hlen]; exact hl, ?_⟩
    intro k hk
    rw [hlen] at hk
    have hc := hcell k (by omega)
    have he : el (zs.take l) k = zs.getD k 0 := by
      unfold el; rw [List.getD_eq_getElem?_getD, List.getD_eq_getElem?_getD, List.getElem?_take_of_lt hk]
    have hs : x.spot = none := flat_addrT (hcell 0 (by omega))
    obtain ⟨b, off, s⟩ := x
    obtain rfl : s = none := hs
    refine ⟨b, off, rfl, ?_⟩
    show W.cell? _ = some (.int .i64 (el (List.take l zs) k))
    rw [he, ← hc]
    congr 1
    unfold Addr.add
    split
    · rename_i h; subst h; rfl
    · rfl
set_option maxRecDepth 100000 in
theorem open_T {H : Type} {enc : TypeId × Value → H} {W : World} {base : Nat} {v : Value} {d : DataW H} {p : List MemPlace}
    (hv : Value.okWide Try.prog W .any base 85 v) (h : DataW.Trod enc Try.prog W 0 (fun _ => true) true 85 v d p) :
    ∃ (A : Option Addr) (c : Nat) (xs : List TaskV), v = .slice A xs.length c ∧ BigT xs ∧ RdT W A xs := by
  obtain ⟨a, len, cap, rfl⟩ := okWide_slice Try.underlying85 hv
  obtain ⟨fuel, hf⟩ := h
  rcases Deep.open_slice Try.underlying85 hf with ⟨hcs, _⟩ | ⟨x, l, c, m, n, D, Pl, hcs, _, hl, hm, hmm, _, hx⟩
  · simp [Value.cells] at hcs
    obtain ⟨rfl, rfl, rfl⟩ := hcs
    exact ⟨none, 0, [], rfl, ⟨by simp, fun k hk => absurd hk (Nat.not_lt_zero _)⟩, fun k hk => absurd hk (Nat.not_lt_zero _)⟩
  · simp [Value.cells] at hcs
    obtain ⟨rfl, rfl, rfl⟩ := hcs
    simp only [if_true] at hmm
    have hmm' := hmm.symm
    subst hmm'
    have ce : Try.prog.cellsOf 162 = 3 := by kernel_rfl
    have each : ∀ i, i < cap → ∃ q : Int × Int × Option Addr × Nat × List Int, W.cell? (x.add (i * 3)) = some (.int .i64 q.1) ∧ W.cell? (x.add (i * 3 + 1)) = some (.int .i64 q.2.1) ∧
        W.cell? (x.add (i * 3 + 2)) = some (.slice q.2.2.1 q.2.2.2.2.length q.2.2.2.1) ∧ q.2.2.2.2.length ≤ 9223372036854775807 ∧ q.2.2.2.2.length ≤ q.2.2.2.1 ∧ RdI W q.2.2.1 q.2.2.2.2 := fun i hi => by
      obtain ⟨cs', h1, h2⟩ := hx i hi
      rw [ce] at h1
      obtain ⟨_, hlen, hcell⟩ := World.cells?_some h1
      obtain ⟨y0, y1, y2, m, _, _, t0, t1, t2⟩ := Deep.trod_struct3 Try.underlying162 h2
      match cs', hlen with
      | [v0, v1, v2], _ =>
        have z0 : Try.prog.cellsOf 2 = 1 := cellsInt
        have z2 : Try.prog.cellsOf 25 = 1 := by kernel_rfl
        simp [z0, z2] at t0 t1 t2
        obtain ⟨a, e0, _⟩ := DataW.trod_int Try.underlying2 t0
        obtain ⟨b, e1, _⟩ := DataW.trod_int Try.underlying2 t1
        obtain ⟨A', c', xs', e2, l1, l2, hr⟩ := rd_of_trod t2
        simp at e0 e1
        have g0 := hcell 0 (by omega)
        have g1 := hcell 1 (by omega)
        have g2 := hcell 2 (by omega)
        rw [Deep.add_add] at g0 g1 g2
        exact ⟨(a, b, A', c', xs'), by rw [← e0]; simpa using g0, by rw [← e1]; simpa using g1, by rw [← e2]; simpa using g2, l1, l2, hr⟩
    obtain ⟨q, hq⟩ := Deep.choose_lt each
    have htel : ∀ k, k < len → tel ((List.range len).map fun i => (⟨(q i).1, (q i).2.1, (q i).2.2.2.2⟩ : TaskV)) k = ⟨(q k).1, (q k).2.1, (q k).2.2.2.2⟩ := fun k hk => by
      unfold tel; rw [List.getD_eq_getElem?_getD]; simp [hk]
    refine ⟨some x, cap, (List.range len).map fun i => (⟨(q i).1, (q i).2.1, (q i).2.2.2.2⟩ : TaskV), by simp, ⟨by simp only [maxLen] at hm; simp; omega, fun k hk => ?_⟩, fun k hk => ?_⟩
    · have hk' : k < len := by simpa using hk
      rw [htel k hk']
      exact (hq k (by omega)).2.2.2.1
    · have hk' : k < len := by simpa using hk
      obtain ⟨h0, h1, h2, _, h3, h4⟩ := hq k (by omega)
      rw [htel k hk']
      have hs : x.spot = none := by
        have h := (hq 0 (by omega)).1
        rw [Nat.zero_mul, show x.add 0 = x from rfl] at h
        exact flat_addrT h
      obtain ⟨b, off, s⟩ := x
      obtain rfl : s = none := hs
      refine ⟨b, off, (q k).2.2.1, (q k).2.2.2.1, rfl, ?_, ?_, ?_, h3, h4⟩
      · rw [← h0]; congr 1; unfold Addr.add; split
        · rename_i h; rw [h]; rfl
        · rfl
      · rw [← h1]; congr 1
      · rw [← h2]; congr 1
end Go.Proofs.Ytcknhjeefdbhbaa
