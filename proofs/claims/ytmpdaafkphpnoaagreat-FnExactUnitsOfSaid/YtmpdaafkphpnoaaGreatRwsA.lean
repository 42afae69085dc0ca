import Derived.Test.YtmpdaafkphpnoaaGreatRws3
import Derived.Maps.AppendAt
set_option linter.unusedVariables false
set_option linter.unusedSimpArgs false
namespace Go.Proofs.YtmpdaafkphpnoaaGreat
open Go.RowKit

/-! ### Rows that are appended one at a time -/
/-- A slice of the call's own is what it was where its own block is. -/
theorem own_blk {w w' : World} {lo hi : Nat} {e : TypeId} {size : Nat} {v : Value} {n : Nat} {cs : List Value} (h : Own w lo hi e size v n cs) (hq : ∀ k, v.ownBlock = some k → w'.heap[k]? = w.heap[k]?) : Own w' lo hi e size v n cs := by
  refine ⟨⟨h.1.1, ?_⟩, h.2⟩
  rcases h.1.2 with hn | ⟨g, cap, cur, rfl, hb, hgg, rest⟩
  · exact .inl hn
  · exact .inr ⟨g, cap, cur, rfl, hb, (hq g rfl).trans hgg, rest⟩
/-- .. and owns it in a narrower range. -/
theorem own_tight {w : World} {lo hi a : Nat} {e : TypeId} {size : Nat} {v : Value} {n : Nat} {cs : List Value} (h : Own w lo hi e size v n cs) (ha : v.ownBlock = some a) : Own w a (a + 1) e size v n cs := by
  refine ⟨⟨h.1.1, ?_⟩, fun k hk => by rw [ha] at hk; cases hk; omega⟩
  rcases h.1.2 with hn | ⟨g, cap, cur, rfl, hb, rest⟩
  · exact .inl hn
  · simp only [Value.ownBlock] at ha
    obtain rfl : g = a := by simpa using ha
    exact .inr ⟨g, cap, cur, rfl, Nat.le_refl _, rest⟩
theorem own_at {w : World} {lo hi a : Nat} {e : TypeId} {size : Nat} {v : Value} {n : Nat} {cs : List Value} (h : Own w lo hi e size v n cs) (ha : v.ownBlock = some a) : lo ≤ a ∧ a < hi ∧ a < w.heap.size := by
  refine ⟨?_, h.2 a ha, (h.1.lt a ha).2⟩
  rcases h.1.2 with ⟨rfl, _⟩ | ⟨g, cap, cur, rfl, hb, _⟩
  · simp [Value.ownBlock] at ha
  · simp [Value.ownBlock] at ha; omega
theorem rw_snoc (xss : List (List Int)) (row : List Int) (k : Nat) (hk : k < xss.length) : rw_ (xss ++ [row]) k = rw_ xss k := by
  unfold rw_; rw [List.getD_eq_getElem?_getD, List.getD_eq_getElem?_getD, List.getElem?_append_left hk]
theorem rw_last (xss : List (List Int)) (row : List Int) : rw_ (xss ++ [row]) xss.length = row := by
  unfold rw_; rw [List.getD_eq_getElem?_getD]; simp
/-- A function that is u at n. -/
def upd (f : Nat → Value) (n : Nat) (u : Value) : Nat → Value := fun i => if i = n then u else f i
theorem upd_at (f : Nat → Value) (n : Nat) (u : Value) : upd f n u n = u := if_pos rfl
theorem upd_ne (f : Nat → Value) {n i : Nat} (u : Value) (h : i ≠ n) : upd f n u i = f i := if_neg h
theorem range_snoc (f : Nat → Value) (n : Nat) (u : Value) : (List.range n).map f ++ [u] = (List.range (n + 1)).map (upd f n u) := by
  rw [List.range_succ, List.map_append]
  simp only [List.map_cons, List.map_nil, upd_at]
  congr 1
  exact List.map_congr_left fun i hi => by rw [upd_ne f u (by have := List.mem_range.1 hi; omega)]
theorem OR.nil (w : World) (lo hi : Nat) : OR w lo hi (.slice none 0 0) [] := ⟨fun _ => .slice none 0 0, Own.nil _ _ _ _ _, fun k hk => absurd hk (Nat.not_lt_zero _), fun i j a b _ hj => absurd hj (Nat.not_lt_zero _), fun k a b hk => absurd hk (Nat.not_lt_zero _)⟩
theorem OR.wide {w : World} {lo hi lo' hi' : Nat} {v : Value} {xss : List (List Int)} (h : OR w lo hi v xss) (h1 : lo' ≤ lo) (h2 : hi ≤ hi') : OR w lo' hi' v xss := by
  obtain ⟨f, a, b, c, d⟩ := h
  exact ⟨f, a.wide h1 h2, fun k hk => Own.wide (b k hk) h1 h2, c, d⟩
theorem infoRow : (Tryz.prog.info? 28).map (fun i => (i.zero, i.size, i.bytes)) = some (some (.slice none 0 0), 1, 24) := by kernel_rfl
theorem wp_appendR {ops : Array Oper} {rest : List Oper} {o : Oper} {a : Act} {Q : Exit → Act → World → Prop} {W : World} (lo B : Nat) (hgd : o.guard = none) (s x : Operand)
    (ho : o.op = .call { callee := .builtin .append, args := #[s, x], argTypes := #[27, 27] })
    (v : Value) (yss : List (List Int)) (A : Option Addr) (c : Nat) (row : List Int) (hs : a.eval s = v) (hx : a.eval x = .slice (some ⟨W.heap.size, 0, none⟩) 1 1)
    (HO : OR W lo B v yss) (HU : OI W B W.heap.size (.slice A row.length c) row) (hlo : lo ≤ B) (hB : B ≤ W.heap.size) (hl : yss.length + 1 ≤ 1048576)
    (h : ∀ v1 w1, OR w1 lo w1.heap.size v1 (yss ++ [row]) → Below lo W w1 → wpList Tryz.prog ops Q rest (a.put o.dst v1) w1) :
    wpList Tryz.prog ops Q (o :: rest) a (W.alloc (.cells #[.slice A row.length c] 28)) := by
  obtain ⟨f, ho1, ho2, ho3, ho4⟩ := HO
  obtain ⟨i0, hi, hzz⟩ := Option.map_eq_some_iff.1 infoRow
  simp only [Prod.mk.injEq] at hzz
  obtain ⟨hz0, hz1, hz2⟩ := hzz
  refine wpList_append_own_at (W.alloc (.cells #[.slice A row.length c] 28)) hgd s x 27 ho lo 28 i0 (.slice none 0 0) 1 24 Tryz.underlying27 hi hz0 hz1 hz2 rfl (by omega) v yss.length _ hs (ho1.1.alloc _) ⟨W.heap.size, 0, none⟩ 1 1 [.slice A row.length c] hx rfl
    (cell_one_new _ _ _) (by intro u hu; simp at hu; subst hu; rfl) (by simp only [maxLen]; omega) (by omega) (by simp; omega) ?_
  intro v1 w1 hown hg _ hblk
  have hsz := hg.size
  simp only [World.alloc] at hsz
  have hsz' : W.heap.size + 1 ≤ w1.heap.size := by simpa using hsz
  have hbl : Below lo W w1 := by
    refine ((Below.refl lo W).alloc (by omega) _).grown hg (by simp; omega) ?_
    intro k hk
    exact (ho1.1.lt k hk).1
  have hkeep : ∀ k, k < W.heap.size → v.ownBlock ≠ some k → w1.heap[k]? = W.heap[k]? := fun k hk hn => by
    rw [hg.block k (by simp; omega) (Ne.symm hn)]
    exact heap_alloc_old _ _ hk
  have hv1 : ∀ k, v1.ownBlock = some k → v.ownBlock = some k ∨ k = W.heap.size + 1 := fun k hk => by
    rcases hblk with e | e
    · exact .inl (by rw [← e]; exact hk)
    · rw [e] at hk; cases hk; right; simp
  refine h v1 w1 ⟨upd f yss.length (.slice A row.length c), ?_, ?_, ?_, ?_⟩ hbl
  · rw [List.length_append, List.length_singleton, ← range_snoc]
    exact Own.of hown
  · intro k hk
    rw [List.length_append, List.length_singleton] at hk
    by_cases e : k = yss.length
    · subst e
      rw [upd_at, rw_last]
      refine Own.wide (own_blk HU fun j hj => hkeep j (own_at HU hj).2.1 fun hv => ?_) hlo (by omega)
      have := (own_at ho1 hv).2.1
      have := (own_at HU hj).1
      omega
    · rw [upd_ne _ _ e, rw_snoc _ _ _ (by omega)]
      have hk' : k < yss.length := by omega
      exact Own.wide (own_blk (ho2 k hk') fun j hj => hkeep j (by have := (own_at (ho2 k hk') hj).2.1; omega) fun hv => ho4 k j j hk' hv hj rfl) (Nat.le_refl _) (by omega)
  · intro i j a b hij hj ha hb
    rw [List.length_append, List.length_singleton] at hj
    rw [upd_ne _ _ (by omega)] at ha
    by_cases e : j = yss.length
    · rw [e, upd_at] at hb
      have := (own_at (ho2 i (by omega)) ha).2.1
      have := (own_at HU hb).1
      omega
    · rw [upd_ne _ _ e] at hb
      exact ho3 i j a b hij (by omega) ha hb
  · intro k a b hk ha hb
    rw [List.length_append, List.length_singleton] at hk
    by_cases e : k = yss.length
    · rw [e, upd_at] at hb
      have h2 := own_at HU hb
      rcases hv1 a ha with e1 | e1
      · have := (own_at ho1 e1).2.1; omega
      · omega
    · rw [upd_ne _ _ e] at hb
      have h2 := own_at (ho2 k (by omega)) hb
      rcases hv1 a ha with e1 | e1
      · exact ho4 k a b (by omega) e1 hb
      · omega
end Go.Proofs.YtmpdaafkphpnoaaGreat
