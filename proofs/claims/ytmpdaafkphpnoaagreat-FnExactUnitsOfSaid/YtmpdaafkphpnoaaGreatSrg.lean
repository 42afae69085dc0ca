import Derived.Sort.OwnSorted
import Derived.Test.YtmpdaafkphpnoaaGreatSrt
import Derived.Test.YtmpdaafkphpnoaaGreatDlt
import Derived.Test.YtmpdaafkphpnoaaGreatUnt2
import Derived.Test.YtmpdaafkphpnoaaGreatUnp
set_option linter.unusedVariables false
set_option linter.unusedSimpArgs false
namespace Go.Proofs.YtmpdaafkphpnoaaGreat
open Go.RowKit Go.Sort

/-! ### The library's sort and delete on a row of the call's own, at any one-cell elements -/
section
variable {α : Type} [Inhabited α] (enc : α → Value)
theorem holds_of_blockG {w : World} {g : Nat} {cur : Array Value} {e : TypeId} {ss : List α} (hb : w.heap[g]? = some (.cells cur e (0, 0))) (ht : cur.toList.take ss.length = ss.map enc) : Holds enc w g 0 ss.toArray := by
  intro j hj
  have hj' : j < ss.length := by simpa using hj
  refine ⟨?_, by simp [World.frozen?, hb]⟩
  have h1 : (cur.toList.take ss.length)[j]? = (ss.map enc)[j]? := by rw [ht]
  rw [List.getElem?_take_of_lt hj'] at h1
  simp only [World.cell?, hb, Nat.zero_add]
  simp only [Option.isSome_none, Bool.false_eq_true, if_false]
  rw [← Array.getElem?_toList, h1]
  simp [hj']
theorem heap_sortedG {w : World} {g n : Nat} {os : Array Obj} {cur : Array Value} {e : TypeId} {fr : Nat × Nat} (d : Array α) (hb : w.heap[g]? = some (.cells cur e fr)) :
    (grow (putRow enc (Sort.ahead w n) g 0 d) os).heap[g]? = some (.cells (putCells enc 0 d cur) e fr) := by
  have hg : g < w.heap.size := (Array.getElem?_eq_some_iff.1 hb).1
  rw [heap_grow_old _ _ (by simpa using hg)]
  simp [putRow, mapBlock, Sort.ahead, Array.getElem?_modify, hb, onCells]
theorem grownBy_sortedG {w : World} {g n : Nat} {os : Array Obj} (d : Array α) : w.grownBy (grow (putRow enc (Sort.ahead w n) g 0 d) os) (some g) := by
  refine ⟨rfl, rfl, rfl, by simp, fun k hk hne => ?_⟩
  rw [heap_grow_old _ _ (by simpa using hk)]
  have : g ≠ k := fun e => hne (by rw [e])
  simp [putRow, mapBlock, Sort.ahead, Array.getElem?_modify, this]
theorem take_putCellsG (cur : Array Value) (ts : List α) (h : ts.length ≤ cur.size) : (putCells enc 0 ts.toArray cur).toList.take ts.length = ts.map enc := by
  apply List.ext_getElem?
  intro j
  by_cases hj : j < ts.length
  · rw [List.getElem?_take_of_lt hj, Array.getElem?_toList]
    simp [putCells, hj, show j < cur.size by omega]
  · rw [List.getElem?_take_eq_none (by omega), List.getElem?_eq_none (by simp; omega)]
theorem ownsRow_sortedG {w : World} {base g cap n : Nat} {e : TypeId} {os : Array Obj} {cur : Array Value} {ts : List α} (hbase : base ≤ g) (hb : w.heap[g]? = some (.cells cur e (0, 0)))
    (h1 : ts.length ≤ cap) (h2 : cap ≤ maxLen) (h3 : cur.size = cap * 1) :
    (grow (putRow enc (Sort.ahead w n) g 0 ts.toArray) os).ownsRow base e 1 (.slice (some ⟨g, 0, none⟩) ts.length cap) ts.length (ts.map enc) :=
  ⟨by simp, .inr ⟨g, cap, _, rfl, hbase, heap_sortedG enc _ hb, h1, h2, by simp [putCells, h3], by rw [Nat.mul_one]; exact take_putCellsG enc cur ts (by omega)⟩⟩
end
/-- A row one shorter. -/
theorem ownsRow_init {w : World} {base g cap n : Nat} {e : TypeId} {xs : List Value} (h : w.ownsRow base e 1 (.slice (some ⟨g, 0, none⟩) (n + 1) cap) (n + 1) xs) : w.ownsRow base e 1 (.slice (some ⟨g, 0, none⟩) n cap) n (xs.take n) := by
  obtain ⟨hl, h0 | ⟨g', cap', cur, hv, hb, hg, h1, h2, h3, h4⟩⟩ := h
  · cases h0.1
  · cases hv
    refine ⟨by rw [List.length_take, hl]; omega, .inr ⟨g, cap, cur, rfl, hb, hg, by omega, h2, h3, ?_⟩⟩
    rw [← h4, List.take_take]; congr 1; omega
/-! ### A table of rows, and lists of their numbers -/
structure TB (w : World) (lo hi : Nat) (R : List (List Int)) (f : Nat → Value) : Prop where
  row : ∀ k, k < R.length → Own w lo hi 2 1 (f k) (rw_ R k).length (ints (rw_ R k))
  apart : ∀ i j a b, i < j → j < R.length → (f i).ownBlock = some a → (f j).ownBlock = some b → a ≠ b
def LS (w : World) (lo hi : Nat) (f : Nat → Value) (v : Value) (L : List Nat) : Prop := Own w lo hi 28 1 v L.length (L.map f)
def Apt (R : List (List Int)) (f : Nat → Value) (v : Value) : Prop := ∀ k a b, k < R.length → v.ownBlock = some a → (f k).ownBlock = some b → a ≠ b
theorem TB.keep {w w' : World} {lo hi : Nat} {R : List (List Int)} {f : Nat → Value} (h : TB w lo hi R f) (hq : ∀ k a, k < R.length → (f k).ownBlock = some a → w'.heap[a]? = w.heap[a]?) : TB w' lo hi R f :=
  ⟨fun k hk => own_blk (h.row k hk) (fun a ha => hq k a hk ha), h.apart⟩
theorem TB.lt {w : World} {lo hi : Nat} {R : List (List Int)} {f : Nat → Value} (h : TB w lo hi R f) {k a : Nat} (hk : k < R.length) (ha : (f k).ownBlock = some a) : lo ≤ a ∧ a < hi ∧ a < w.heap.size := own_at (h.row k hk) ha
theorem TB.shp {w : World} {lo hi : Nat} {R : List (List Int)} {f : Nat → Value} (h : TB w lo hi R f) {k : Nat} (hk : k < R.length) : ∃ A c, f k = .slice A (rw_ R k).length c ∧ (rw_ R k).length ≤ c ∧ RdI w A (rw_ R k) := by
  obtain ⟨A, c, e, h1, _, h3⟩ := Own.int (h.row k hk)
  exact ⟨A, c, e, h1, h3⟩
theorem OR.parts {w : World} {lo hi : Nat} {v : Value} {R : List (List Int)} (h : OR w lo hi v R) : ∃ f, LS w lo hi f v (List.range R.length) ∧ TB w lo hi R f ∧ Apt R f v := by
  obtain ⟨f, h1, h2, h3, h4⟩ := h
  exact ⟨f, by unfold LS; rw [List.length_range]; exact h1, ⟨h2, h3⟩, h4⟩
/-- Some rows of a table, as rows of one's own. -/
theorem TB.rows {w : World} {lo hi : Nat} {R : List (List Int)} {f : Nat → Value} {v : Value} {O : List Nat} (h : TB w lo hi R f) (hl : LS w lo hi f v O) (ha : Apt R f v) (hO : ∀ x ∈ O, x < R.length) (hn : O.Nodup) : OR w lo hi v (O.map (rw_ R)) := by
  have hget : ∀ k, k < O.length → O.getD k 0 < R.length := fun k hk => hO _ (getD_mem' hk)
  have hrow : ∀ k, k < O.length → rw_ (O.map (rw_ R)) k = rw_ R (O.getD k 0) := fun k hk => by
    show (O.map (rw_ R)).getD k _ = rw_ R (O.getD k 0)
    rw [List.getD_eq_getElem?_getD, List.getD_eq_getElem?_getD, List.getElem?_map, List.getElem?_eq_getElem hk]; rfl
  refine ⟨fun k => f (O.getD k 0), ?_, fun k hk => ?_, fun i j a b hij hj h1 h2 => ?_, fun k a b hk h1 h2 => ?_⟩
  · unfold LS at hl
    rw [List.length_map]
    have e : (List.range O.length).map (fun k => f (O.getD k 0)) = O.map f := by
      apply List.ext_getElem?
      intro k
      by_cases hk : k < O.length
      · rw [List.getElem?_map, List.getElem?_map, List.getElem?_range hk, List.getElem?_eq_getElem hk]
        simp [List.getD_eq_getElem?_getD, List.getElem?_eq_getElem hk]
      · rw [List.getElem?_eq_none (by simp; omega), List.getElem?_eq_none (by simp; omega)]
    rw [e]; exact hl
  · rw [List.length_map] at hk
    rw [hrow k hk]
    exact h.row _ (hget k hk)
  · rw [List.length_map] at hj
    have hne : O.getD i 0 ≠ O.getD j 0 := by
      rw [List.getD_eq_getElem?_getD, List.getD_eq_getElem?_getD, List.getElem?_eq_getElem (show i < O.length by omega), List.getElem?_eq_getElem hj]
      exact List.pairwise_iff_getElem.1 hn i j (by omega) hj hij
    rcases Nat.lt_or_gt_of_ne hne with q | q
    · exact h.apart _ _ a b q (hget j hj) h1 h2
    · exact fun e => h.apart _ _ b a q (hget i (by omega)) h2 h1 e.symm
  · rw [List.length_map] at hk
    exact ha _ a b (hget k hk) h1 h2
end Go.Proofs.YtmpdaafkphpnoaaGreat
