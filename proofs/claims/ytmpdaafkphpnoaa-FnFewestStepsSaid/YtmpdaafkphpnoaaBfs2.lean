import Derived.Test.YtmpdaafkphpnoaaBfs
import Derived.Test.YtmpdaafkphpnoaaRwsB
import Derived.Test.YtmpdaafkphpnoaaOwnA
set_option linter.unusedVariables false
set_option linter.unusedSimpArgs false
namespace Go.Proofs.Ytmpdaafkphpnoaa
open Go.RowKit

/-! ### A list of pairs of lists, that grows: its inner rows lie in blocks of numbers, which are never written -/
/-- A row that is read out of a block of numbers that is none of kb. -/
def RdT (w : World) (kb : Nat → Prop) (A : Option Addr) (xs : List Int) : Prop :=
  ∀ k, k < xs.length → ∃ b off cs fr, A = some ⟨b, off, none⟩ ∧ ¬ kb b ∧ b < w.heap.size ∧ w.heap[b]? = some (.cells cs 2 fr) ∧ w.cell? ⟨b, off + k, none⟩ = some (.int .i64 (el xs k))
theorem RdT.rd {w : World} {kb : Nat → Prop} {A : Option Addr} {xs : List Int} (h : RdT w kb A xs) : RdI w A xs := fun k hk => by
  obtain ⟨b, off, cs, fr, e, _, _, _, hc⟩ := h k hk
  exact ⟨b, off, e, hc⟩
/-- All blocks of numbers but kb stay. -/
structure Kp (kb : Nat → Prop) (w w' : World) : Prop where
  size : w.heap.size ≤ w'.heap.size
  blk : ∀ b cs fr, ¬ kb b → w.heap[b]? = some (.cells cs 2 fr) → w'.heap[b]? = w.heap[b]?
theorem Kp.refl (kb : Nat → Prop) (w : World) : Kp kb w w := ⟨Nat.le_refl _, fun _ _ _ _ _ => rfl⟩
theorem Kp.trans {kb : Nat → Prop} {a b c : World} (h : Kp kb a b) (k : Kp kb b c) : Kp kb a c :=
  ⟨Nat.le_trans h.size k.size, fun i cs fr hn hi => (k.blk i cs fr hn ((h.blk i cs fr hn hi).trans hi)).trans (h.blk i cs fr hn hi)⟩
theorem lt_of_heap {w : World} {b : Nat} {o : Obj} (h : w.heap[b]? = some o) : b < w.heap.size := by
  by_cases e : b < w.heap.size
  · exact e
  · rw [Array.getElem?_eq_none (by omega)] at h; cases h
theorem Kp.of {kb : Nat → Prop} {w w' : World} (h : Below w.heap.size w w') : Kp kb w w' := ⟨h.size, fun b cs fr _ hb => h.block b (lt_of_heap hb)⟩
theorem RdT.keep {w w' : World} {kb : Nat → Prop} {A : Option Addr} {xs : List Int} (h : RdT w kb A xs) (hk : Kp kb w w') : RdT w' kb A xs := fun k hkk => by
  obtain ⟨b, off, cs, fr, e, hn, hb, hh, hc⟩ := h k hkk
  have hq := hk.blk b cs fr hn hh
  exact ⟨b, off, cs, fr, e, hn, Nat.lt_of_lt_of_le hb hk.size, hq.trans hh, (World.cell?_of_block (w := w) (a := ⟨b, off + k, none⟩) hq).trans hc⟩
theorem RdT.re {w : World} {kb kb' : Nat → Prop} {A : Option Addr} {xs : List Int} (h : RdT w kb A xs) (hk : ∀ b, b < w.heap.size → kb' b → kb b) : RdT w kb' A xs := fun k hkk => by
  obtain ⟨b, off, cs, fr, e, hn, hb, hh, hc⟩ := h k hkk
  exact ⟨b, off, cs, fr, e, fun q => hn (hk b hb q), hb, hh, hc⟩
theorem RdT.of {w : World} {kb : Nat → Prop} {lo hi n c : Nat} {A : Option Addr} {xs : List Int} (h : OwnI w lo hi 2 (.slice A n c) xs) (hk : ∀ b, lo ≤ b → ¬ kb b) : RdT w kb A xs := fun k hkk => by
  have hr := OwnI.rd h
  obtain ⟨b, off, e, hc⟩ := hr.get hkk
  subst e
  rcases h.1.2 with ⟨hn, _⟩ | ⟨g, cap, cur, e, hb, hg, _⟩
  · cases hn
  · cases e
    exact ⟨b, 0, _, _, rfl, hk b hb, lt_of_heap hg, hg, hc⟩
/-- A pair: its two values. -/
def PK (w : World) (lo : Nat) (kb : Nat → Prop) (x y : Value) (p : PQ) : Prop := ∃ A1 c1 A2 c2, x = .slice A1 p.1.length c1 ∧ y = .slice A2 p.2.length c2 ∧ RdT w kb A1 p.1 ∧ RdT w kb A2 p.2 ∧ OwnI w lo w.heap.size 2 (.slice A1 p.1.length c1) p.1 ∧ ∀ b, (Value.slice A1 p.1.length c1).ownBlock = some b → ¬ kb b
theorem own_keep {w w' : World} {lo : Nat} {kb : Nat → Prop} {v : Value} {xs : List Int} (h : OwnI w lo w.heap.size 2 v xs) (hb : ∀ b, v.ownBlock = some b → ¬ kb b) (hk : Kp kb w w') : OwnI w' lo w'.heap.size 2 v xs := by
  refine Own.wide (own_blk h fun b hv => ?_) (Nat.le_refl _) hk.size
  rcases h.1.2 with ⟨rfl, _⟩ | ⟨g, cap, cur, rfl, _, hg, _⟩
  · simp [Value.ownBlock] at hv
  · have hv' := hv
    simp only [Value.ownBlock] at hv
    obtain rfl : g = b := by simpa using hv
    exact hk.blk _ _ _ (hb _ hv') hg
theorem PK.keep {w w' : World} {lo : Nat} {kb : Nat → Prop} {x y : Value} {p : PQ} (h : PK w lo kb x y p) (hk : Kp kb w w') : PK w' lo kb x y p := by
  obtain ⟨A1, c1, A2, c2, e1, e2, h1, h2, h3, h4⟩ := h
  exact ⟨A1, c1, A2, c2, e1, e2, h1.keep hk, h2.keep hk, own_keep h3 h4 hk, h4⟩
theorem PK.re {w : World} {lo : Nat} {kb kb' : Nat → Prop} {x y : Value} {p : PQ} (h : PK w lo kb x y p) (hk : ∀ b, b < w.heap.size → kb' b → kb b) : PK w lo kb' x y p := by
  obtain ⟨A1, c1, A2, c2, e1, e2, h1, h2, h3, h4⟩ := h
  exact ⟨A1, c1, A2, c2, e1, e2, h1.re hk, h2.re hk, h3, fun b hb q => h4 b hb (hk b (own_at h3 hb).2.2 q)⟩
theorem PK.wide {w : World} {lo lo' : Nat} {kb : Nat → Prop} {x y : Value} {p : PQ} (h : PK w lo kb x y p) (hl : lo' ≤ lo) : PK w lo' kb x y p := by
  obtain ⟨A1, c1, A2, c2, e1, e2, h1, h2, h3, h4⟩ := h
  exact ⟨A1, c1, A2, c2, e1, e2, h1, h2, Own.wide h3 hl (Nat.le_refl _), h4⟩
/-- The cells of the pairs. -/
def qcs (f : Nat → Value × Value) : Nat → List Value
  | 0 => []
  | k + 1 => qcs f k ++ [(f k).1, (f k).2]
theorem qcs_length (f : Nat → Value × Value) (n : Nat) : (qcs f n).length = n * 2 := by
  induction n with
  | zero => rfl
  | succ n ih => simp only [qcs, List.length_append, ih]; simp; omega
theorem qcs_get (f : Nat → Value × Value) (n : Nat) {k : Nat} (hk : k < n) : (qcs f n)[k * 2]? = some (f k).1 ∧ (qcs f n)[k * 2 + 1]? = some (f k).2 := by
  induction n with
  | zero => omega
  | succ n ih =>
    simp only [qcs]
    by_cases e : k = n
    · subst e
      rw [List.getElem?_append_right (by rw [qcs_length]; omega), List.getElem?_append_right (by rw [qcs_length]; omega), qcs_length]
      simp
    · have := ih (by omega)
      rw [List.getElem?_append_left (by rw [qcs_length]; omega), List.getElem?_append_left (by rw [qcs_length]; omega)]
      exact this
theorem qcs_congr {f g : Nat → Value × Value} (n : Nat) (h : ∀ k, k < n → f k = g k) : qcs f n = qcs g n := by
  induction n with
  | zero => rfl
  | succ n ih => simp only [qcs]; rw [ih fun k hk => h k (by omega), h n (by omega)]
def updq (f : Nat → Value × Value) (n : Nat) (u : Value × Value) : Nat → Value × Value := fun i => if i = n then u else f i
theorem updq_at (f : Nat → Value × Value) (n : Nat) (u : Value × Value) : updq f n u n = u := if_pos rfl
theorem updq_ne (f : Nat → Value × Value) {n i : Nat} (u : Value × Value) (h : i ≠ n) : updq f n u i = f i := if_neg h
theorem qcs_snoc (f : Nat → Value × Value) (n : Nat) (x y : Value) : qcs f n ++ [x, y] = qcs (updq f n (x, y)) (n + 1) := by
  simp only [qcs, updq_at]
  rw [qcs_congr (f := f) (g := updq f n (x, y)) n fun k hk => (updq_ne f (x, y) (by omega)).symm]
/-- A list of pairs of the call's own, element type e. -/
def AQ (e : TypeId) (w : World) (lo : Nat) (kb : Nat → Prop) (v : Value) (qs : List PQ) : Prop :=
  ∃ f, Own w lo w.heap.size e 2 v qs.length (qcs f qs.length) ∧ ∀ k, k < qs.length → PK w lo kb (f k).1 (f k).2 (qel qs k)
theorem AQ.nil (e : TypeId) (w : World) (lo : Nat) (kb : Nat → Prop) : AQ e w lo kb (.slice none 0 0) [] := ⟨fun _ => (.slice none 0 0, .slice none 0 0), Own.nil _ _ _ _ _, fun k hk => absurd hk (Nat.not_lt_zero _)⟩
theorem AQ.keep {e : TypeId} {w w' : World} {lo : Nat} {kb : Nat → Prop} {v : Value} {qs : List PQ} (h : AQ e w lo kb v qs) (hk : Kp kb w w') (hv : ∀ b, v.ownBlock = some b → w'.heap[b]? = w.heap[b]?) : AQ e w' lo kb v qs := by
  obtain ⟨f, h1, h2⟩ := h
  exact ⟨f, Own.wide (own_blk h1 hv) (Nat.le_refl _) hk.size, fun k hkk => (h2 k hkk).keep hk⟩
theorem AQ.below {e : TypeId} {w w' : World} {lo : Nat} {kb : Nat → Prop} {v : Value} {qs : List PQ} (h : AQ e w lo kb v qs) (hb : Below w.heap.size w w') : AQ e w' lo kb v qs := by
  refine h.keep (Kp.of hb) fun b hv => hb.block b ?_
  obtain ⟨f, h1, _⟩ := h
  exact (own_at h1 hv).2.2
theorem AQ.wide {e : TypeId} {w : World} {lo lo' : Nat} {kb : Nat → Prop} {v : Value} {qs : List PQ} (h : AQ e w lo kb v qs) (hl : lo' ≤ lo) : AQ e w lo' kb v qs := by
  obtain ⟨f, h1, h2⟩ := h
  exact ⟨f, Own.wide h1 hl (Nat.le_refl _), fun k hk => (h2 k hk).wide hl⟩
/-- What is read of it. -/
theorem AQ.get {e : TypeId} {w : World} {lo : Nat} {kb : Nat → Prop} {v : Value} {qs : List PQ} (h : AQ e w lo kb v qs) : ∃ A c, v = .slice A qs.length c ∧ qs.length ≤ c ∧ c ≤ 9223372036854775807 ∧
    ∀ k, k < qs.length → ∃ b A1 c1 A2 c2, A = some ⟨b, 0, none⟩ ∧ w.cell? ⟨b, k * 2, none⟩ = some (.slice A1 (qel qs k).1.length c1) ∧ w.cell? ⟨b, k * 2 + 1, none⟩ = some (.slice A2 (qel qs k).2.length c2) ∧ RdT w kb A1 (qel qs k).1 ∧ RdT w kb A2 (qel qs k).2 := by
  obtain ⟨f, h1, h2⟩ := h
  obtain ⟨A, c, rfl, hc, hc2, hs⟩ := h1.shape
  refine ⟨A, c, rfl, hc, hc2, fun k hk => ?_⟩
  rcases hs with ⟨_, h0⟩ | ⟨g, rfl, _, _, hcell, _⟩
  · omega
  · obtain ⟨A1, c1, A2, c2, e1, e2, r1, r2, _⟩ := h2 k hk
    have hq := qcs_get f qs.length hk
    exact ⟨g, A1, c1, A2, c2, rfl, by rw [← e1]; exact hcell _ _ hq.1, by rw [← e2]; exact hcell _ _ hq.2, r1, r2⟩
/-- .. and whose the steps are. -/
theorem AQ.getO {e : TypeId} {w : World} {lo : Nat} {kb : Nat → Prop} {v : Value} {qs : List PQ} (h : AQ e w lo kb v qs) : ∃ A c, v = .slice A qs.length c ∧ ∀ k, k < qs.length → ∃ b A1 c1 A2 c2, A = some ⟨b, 0, none⟩ ∧ w.cell? ⟨b, k * 2, none⟩ = some (.slice A1 (qel qs k).1.length c1) ∧ w.cell? ⟨b, k * 2 + 1, none⟩ = some (.slice A2 (qel qs k).2.length c2) ∧ RdT w kb A2 (qel qs k).2 ∧ OwnI w lo w.heap.size 2 (.slice A1 (qel qs k).1.length c1) (qel qs k).1 := by
  obtain ⟨f, h1, h2⟩ := h
  obtain ⟨A, c, rfl, hc, hc2, hs⟩ := h1.shape
  refine ⟨A, c, rfl, fun k hk => ?_⟩
  rcases hs with ⟨_, h0⟩ | ⟨g, rfl, _, _, hcell, _⟩
  · omega
  · obtain ⟨A1, c1, A2, c2, e1, e2, r1, r2, r3, _⟩ := h2 k hk
    have hq := qcs_get f qs.length hk
    exact ⟨g, A1, c1, A2, c2, rfl, by rw [← e1]; exact hcell _ _ hq.1, by rw [← e2]; exact hcell _ _ hq.2, r2, r3⟩
/-- What an append of one pair does. -/
theorem appQ_core {e : TypeId} (he : e ≠ 2) {W w1 : World} {lo : Nat} {kb : Nat → Prop} {v v1 : Value} {qs : List PQ} {f : Nat → Value × Value} {x y : Value} {p : PQ} (h1 : Own W lo W.heap.size e 2 v qs.length (qcs f qs.length)) (h2 : ∀ k, k < qs.length → PK W lo kb (f k).1 (f k).2 (qel qs k)) (hp : PK W lo kb x y p)
    (hown : w1.ownsRow lo e 2 v1 (qs.length + 1) (qcs f qs.length ++ [x, y])) (hg : (W.alloc (.cells #[x, y] e)).grownBy w1 v.ownBlock) :
    AQ e w1 lo kb v1 (qs ++ [p]) ∧ Kp kb W w1 ∧ (∀ k, k < W.heap.size → v.ownBlock ≠ some k → w1.heap[k]? = W.heap[k]?) := by
  have hsz := hg.size
  simp only [World.alloc] at hsz
  have hsz' : W.heap.size + 1 ≤ w1.heap.size := by simpa using hsz
  have hkeep : ∀ k, k < W.heap.size → v.ownBlock ≠ some k → w1.heap[k]? = W.heap[k]? := fun k hk hn => by
    rw [hg.block k (by simp; omega) (Ne.symm hn)]
    exact heap_alloc_old _ _ hk
  have hK : Kp kb W w1 := ⟨by omega, fun b cs fr hn hb => hkeep b (lt_of_heap hb) fun hv => by
    rcases h1.1.2 with ⟨rfl, _⟩ | ⟨g, cap, cur, rfl, _, hgg, _⟩
    · simp [Value.ownBlock] at hv
    · simp only [Value.ownBlock] at hv
      obtain rfl : g = b := by simpa using hv
      rw [hgg] at hb
      cases hb
      exact he rfl⟩
  refine ⟨⟨updq f qs.length (x, y), ?_, fun k hk => ?_⟩, hK, hkeep⟩
  · rw [List.length_append, List.length_singleton, ← qcs_snoc]
    exact Own.of hown
  · rw [List.length_append, List.length_singleton] at hk
    by_cases q : k = qs.length
    · subst q
      rw [updq_at]
      have : qel (qs ++ [p]) qs.length = p := by unfold qel; rw [List.getD_eq_getElem?_getD]; simp
      rw [this]
      exact hp.keep hK
    · rw [updq_ne _ _ q, qel_app (by omega)]
      exact (h2 k (by omega)).keep hK
theorem cells_new2 (W : World) (x y : Value) (t : TypeId) : ∀ j u, ([x, y] : List Value)[j]? = some u → (W.alloc (.cells #[x, y] t)).cell? ((⟨W.heap.size, 0, none⟩ : Addr).add j) = some u := fun j u hx => by
  match j, hx with
  | 0, hx => simp at hx; subst hx; simp [Addr.add]
  | 1, hx => simp at hx; subst hx; simp [Addr.add]
  | j + 2, hx => simp at hx
/-- append(list, one) at a step of a region that draws; the world's draw is outermost. -/
theorem step_appQ {P : Program} {ops : Array Oper} {o : Oper} {a : Act} {K : Act → World → Prop} {Q : Exit → Act → World → Prop} {E : Prop} {W : World} (t e : TypeId) (he : e ≠ 2) (ht : P.underlying t = some (.slice e)) (hinfo : (P.info? e).map (fun i => (i.zero, i.size, i.bytes)) = some (some (.agg #[.slice none 0 0, .slice none 0 0]), 2, 48))
    (lo H : Nat) (kb : Nat → Prop) (hgd : o.guard = none) (s x : Operand) (ho : o.op = .call { callee := .builtin .append, args := #[s, x], argTypes := #[t, t] })
    (v : Value) (qs : List PQ) (p : PQ) (x1 y1 : Value) (ho1 : x1.oneCell' = true) (ho2 : y1.oneCell' = true) (hs : a.eval s = v) (hx : a.eval x = .slice (some ⟨H, 0, none⟩) 1 1) (hcell : W.heap[H]? = some (.cells #[x1, y1] e))
    (HO : AQ e W lo kb v qs) (HP : PK W lo kb x1 y1 p) (hlo : lo ≤ W.heap.size) (hl : qs.length + 1 ≤ 1048576)
    (h : ∀ g cap w1, AQ e w1 lo kb (.slice (some ⟨g, 0, none⟩) (qs.length + 1) cap) (qs ++ [p]) → Kp kb W w1 → (∀ k, k < W.heap.size → v.ownBlock ≠ some k → w1.heap[k]? = W.heap[k]?) → (v.ownBlock = some g ∨ g = W.heap.size) → Below lo W w1 → K (a.put o.dst (.slice (some ⟨g, 0, none⟩) (qs.length + 1) cap)) w1) :
    if Region.wanted o (yielded ops a.tmps) = true then Oper.wp P o a W K Q else E := by
  obtain ⟨f, h1, h2⟩ := HO
  obtain ⟨i0, hi, hzz⟩ := Option.map_eq_some_iff.1 hinfo
  simp only [Prod.mk.injEq] at hzz
  obtain ⟨hz0, hz1, hz2⟩ := hzz
  refine step_append_lies W hgd s x t ho lo e i0 (.agg #[.slice none 0 0, .slice none 0 0]) 2 48 ht hi hz0 hz1 hz2 rfl (by omega) v qs.length (qcs f qs.length) hs h1.1 ⟨H, 0, none⟩ 1 1 [x1, y1] hx rfl
    (World.news_of_block (cs := #[x1, y1]) (t := e) (fr := (0, 0)) hcell) (by intro u hu; simp at hu; rcases hu with rfl | rfl <;> assumption) (by omega) (by simp only [maxLen]; omega) (by omega) hlo W.heap.size rfl ?_
  intro g cap w1 hown hg hat hlt
  have hkeep : ∀ k, k < W.heap.size → v.ownBlock ≠ some k → w1.heap[k]? = W.heap[k]? := fun k hk hn => hg.block k hk (Ne.symm hn)
  have hK : Kp kb W w1 := ⟨hg.size, fun b cs fr hn hb => hkeep b (lt_of_heap hb) fun hv => by
    rcases h1.1.2 with ⟨rfl, _⟩ | ⟨g', cap', cur, rfl, _, hgg, _⟩
    · simp [Value.ownBlock] at hv
    · simp only [Value.ownBlock] at hv
      obtain rfl : g' = b := by simpa using hv
      rw [hgg] at hb
      cases hb
      exact he rfl⟩
  refine h g cap w1 ⟨updq f qs.length (x1, y1), ?_, fun k hk => ?_⟩ hK hkeep hat ((Below.refl lo W).grown hg hlo fun k hk => (h1.1.lt k hk).1)
  · rw [List.length_append, List.length_singleton, ← qcs_snoc]
    exact Own.of hown
  · rw [List.length_append, List.length_singleton] at hk
    by_cases q : k = qs.length
    · subst q
      rw [updq_at]
      have : qel (qs ++ [p]) qs.length = p := by unfold qel; rw [List.getD_eq_getElem?_getD]; simp
      rw [this]
      exact HP.keep hK
    · rw [updq_ne _ _ q, qel_app (by omega)]
      exact (h2 k (by omega)).keep hK
end Go.Proofs.Ytmpdaafkphpnoaa
