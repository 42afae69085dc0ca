import Derived.Test.YtnnioicjmlfllaaGreatDoorRws
set_option linter.unusedVariables false
set_option linter.unusedSimpArgs false
namespace Go.Proofs.YtnnioicjmlfllaaGreatDoor
open Go.RowKit

/-- Rows of the call's own: an outer slice of slices, each in a block of its own. -/
def ORf (w : World) (lo hi : Nat) (v : Value) (xss : List (List Int)) (f : Nat → Value) : Prop :=
  Own w lo hi 27 1 v xss.length ((List.range xss.length).map f) ∧ (∀ k, k < xss.length → OI w lo hi (f k) (rw_ xss k)) ∧
  (∀ i j a b, i < j → j < xss.length → (f i).ownBlock = some a → (f j).ownBlock = some b → a ≠ b) ∧ (∀ k a b, k < xss.length → v.ownBlock = some a → (f k).ownBlock = some b → a ≠ b)
def OR (w : World) (lo hi : Nat) (v : Value) (xss : List (List Int)) : Prop := ∃ f, ORf w lo hi v xss f
theorem OR.eqv {w w' : World} {lo hi : Nat} {v : Value} {xss : List (List Int)} (h : OR w lo hi v xss) (hq : Eqv lo hi w w') : OR w' lo hi v xss := by
  obtain ⟨f, h1, h2, h3, h4⟩ := h
  exact ⟨f, h1.eqv hq, fun k hk => (h2 k hk).eqv hq, h3, h4⟩
theorem OR.shp {w : World} {lo hi : Nat} {v : Value} {xss : List (List Int)} (h : OR w lo hi v xss) : ∃ A c, v = .slice A xss.length c ∧ xss.length ≤ c ∧ c ≤ 9223372036854775807 ∧ RdR w A xss := by
  obtain ⟨f, h1, h2, _, _⟩ := h
  obtain ⟨A, c, rfl, hc, hc2, hs⟩ := h1.shape
  refine ⟨A, c, rfl, hc, hc2, f, fun k hk => ?_, fun k hk => ?_⟩
  · rcases hs with ⟨_, h0⟩ | ⟨g, rfl, _, _, hcell, _⟩
    · omega
    · exact ⟨g, 0, rfl, by simpa using hcell k (f k) (by simp [hk])⟩
  · obtain ⟨A', c', e, hl, _, hr⟩ := (h2 k hk).shp
    exact ⟨A', c', e, hl, hr⟩
theorem OR.rd {w : World} {lo hi c : Nat} {A : Option Addr} {xss : List (List Int)} (h : OR w lo hi (.slice A xss.length c) xss) : RdR w A xss := by
  obtain ⟨A', c', e, _, _, hr⟩ := h.shp; cases e; exact hr
theorem makeRows (n : Nat) (hn : n ≤ 1048576) (W : World) : (Instr.makeSlice 35 (.int .i64 (n : Int)) (.int .i64 (n : Int))).run Tryz.prog W = .ok (.slice (some ⟨W.heap.size, 0, none⟩) n n) (W.alloc (.cells (madeCells #[.slice none 0 0] n) 27)) :=
  run_make_row' 35 27 (.slice none 0 0) 24 Tryz.underlying35 (by kernel_rfl) rfl .i64 .i64 n (by omega) (by omega) W
theorem range_step {n k : Nat} (f : Nat → Value) (z : Value) (v : Value) (hk : k < n) :
    ((List.range k).map f ++ List.replicate (n - k) z).set k v = (List.range (k + 1)).map (fun i => if i = k then v else f i) ++ List.replicate (n - (k + 1)) z := by
  obtain ⟨m, hm⟩ : ∃ m, n - k = m + 1 := ⟨n - k - 1, by omega⟩
  rw [hm, show n - (k + 1) = m from by omega, List.replicate_succ, List.set_append_right _ _ (by simp), List.range_succ, List.map_append]
  simp only [List.length_map, List.length_range, Nat.sub_self, List.set_cons_zero, List.map_cons, List.map_nil, if_true, List.append_assoc, List.cons_append, List.nil_append]
  congr 1
  exact List.map_congr_left fun i hi => by rw [if_neg (by have := List.mem_range.1 hi; omega)]
/-- The rows so far: f's first k values, in blocks behind the outer one. -/
structure Sofar (w : World) (lo : Nat) (xss : List (List Int)) (k : Nat) (f : Nat → Value) : Prop where
  outer : Own w lo (lo + 1) 27 1 (.slice (some ⟨lo, 0, none⟩) xss.length xss.length) xss.length ((List.range k).map f ++ List.replicate (xss.length - k) (.slice none 0 0))
  size : lo + 1 ≤ w.heap.size
  rows : ∀ j, j < k → OI w (lo + 1) w.heap.size (f j) (rw_ xss j)
  apart : ∀ i j a b, i < j → j < k → (f i).ownBlock = some a → (f j).ownBlock = some b → a < b
theorem OI.at {w : World} {lo hi a : Nat} {v : Value} {xs : List Int} (h : OI w lo hi v xs) (ha : v.ownBlock = some a) : lo ≤ a ∧ a < hi := by
  refine ⟨?_, h.2 a ha⟩
  rcases h.1.2 with ⟨rfl, _⟩ | ⟨g, cap, cur, rfl, hb, _⟩
  · simp [Value.ownBlock] at ha
  · simp [Value.ownBlock] at ha; omega
theorem Sofar.step {w w1 : World} {lo k : Nat} {xss : List (List Int)} {f : Nat → Value} {v : Value} (h : Sofar w lo xss k f) (hk : k < xss.length) (hb : Below w.heap.size w w1) (hv : OI w1 w.heap.size w1.heap.size v (rw_ xss k)) :
    Sofar (w1.setCell ⟨lo, k, none⟩ v) lo xss (k + 1) (fun i => if i = k then v else f i) := by
  have hs := h.size
  have hsz := hb.size
  have hq : Eqv (lo + 1) w1.heap.size w1 (w1.setCell ⟨lo, k, none⟩ v) := fun j h1 h2 => Below.heap_setCell _ _ _ _ (by show j ≠ lo; omega)
  refine ⟨?_, by simpa [World.setCell] using (by omega : lo + 1 ≤ w1.heap.size), fun j hj => ?_, fun i j a b hij hj ha hb' => ?_⟩
  · have := (h.outer.eqv (Eqv.of hb hs)).set k v
    rwa [range_step f _ v hk] at this
  · have hz : (w1.setCell ⟨lo, k, none⟩ v).heap.size = w1.heap.size := by simp [World.setCell]
    rw [hz]
    by_cases e : j = k
    · subst e
      rw [if_pos rfl]
      exact OI.eqv (Own.wide hv (by omega) (Nat.le_refl _)) hq
    · rw [if_neg e]
      exact OI.eqv (Own.wide ((h.rows j (by omega)).eqv (Eqv.of hb (Nat.le_refl _))) (Nat.le_refl _) (by omega)) hq
  · by_cases e : j = k
    · subst e
      rw [if_neg (by omega)] at ha
      rw [if_pos rfl] at hb'
      have := (OI.at (h.rows i hij) ha).2
      have := (OI.at hv hb').1
      omega
    · rw [if_neg (by omega)] at ha
      rw [if_neg e] at hb'
      exact h.apart i j a b hij (by omega) ha hb'
theorem Sofar.done {w : World} {lo : Nat} {xss : List (List Int)} {f : Nat → Value} (h : Sofar w lo xss xss.length f) : OR w lo w.heap.size (.slice (some ⟨lo, 0, none⟩) xss.length xss.length) xss := by
  have hs := h.size
  have ho := h.outer
  rw [Nat.sub_self, List.replicate_zero, List.append_nil] at ho
  refine ⟨f, ho.wide (Nat.le_refl _) hs, fun k hk => Own.wide (h.rows k hk) (by omega) (Nat.le_refl _), fun i j a b hij hj ha hb => Nat.ne_of_lt (h.apart i j a b hij hj ha hb), fun k a b hk ha hb => ?_⟩
  have := (OI.at (h.rows k hk) hb).1
  simp [Value.ownBlock] at ha
  omega

end Go.Proofs.YtnnioicjmlfllaaGreatDoor
