import Derived.Test.YtjcpjmijhloimaaTask2
import Derived.Test.YtjcpjmijhloimaaRwsA
import Derived.Test.YtjcpjmijhloimaaTask6
import Derived.Test.YtjcpjmijhloimaaLawO
set_option linter.unusedVariables false
set_option linter.unusedSimpArgs false
namespace Go.Proofs.Ytjcpjmijhloimaa
open Go.RowKit

/-! ### Tasks that are appended one at a time -/
theorem tel_snoc (ts : List TaskV) (t : TaskV) (k : Nat) (hk : k < ts.length) : tel (ts ++ [t]) k = tel ts k := by
  unfold tel; rw [List.getD_eq_getElem?_getD, List.getD_eq_getElem?_getD, List.getElem?_append_left hk]
theorem tel_last (ts : List TaskV) (t : TaskV) : tel (ts ++ [t]) ts.length = t := by
  unfold tel; rw [List.getD_eq_getElem?_getD]; simp
theorem tcs_other (ts : List TaskV) (t : TaskV) (f : Nat → Value) {k : Nat} (hk : k ≤ ts.length) : tcs (ts ++ [t]) f k = tcs ts f k := by
  induction k with
  | zero => rfl
  | succ k ih => simp only [tcs]; rw [ih (by omega), tel_snoc ts t k (by omega)]
theorem tcs_snoc (ts : List TaskV) (t : TaskV) (f : Nat → Value) (u : Value) :
    tcs ts f ts.length ++ [.int .i64 t.port, .int .i64 t.lat, u] = tcs (ts ++ [t]) (upd f ts.length u) (ts.length + 1) := by
  simp only [tcs]
  rw [tel_last, upd_at, tcs_other ts t _ (Nat.le_refl _)]
  congr 1
  exact tcs_congr ts _ fun i hi => (upd_ne f u (by omega)).symm
theorem tasksN_snoc {ts : List TaskV} {t : TaskV} {k : Nat} (hk : k ≤ ts.length) : tasksN (ts ++ [t]) k = tasksN ts k := by
  induction k with
  | zero => rfl
  | succ k ih => simp only [tasksN]; rw [ih (by omega), tel_snoc ts t k (by omega)]
theorem tasksN_next (ts : List TaskV) (t : TaskV) : tasksN (ts ++ [t]) (ts ++ [t]).length = (tasksN ts ts.length && taskB ts.length t) := by
  rw [List.length_append, List.length_singleton]; simp only [tasksN]; rw [tel_last, tasksN_snoc (Nat.le_refl _)]
theorem ttot_other (ts : List TaskV) (t : TaskV) {k : Nat} (hk : k ≤ ts.length) : ttot (ts ++ [t]) k = ttot ts k := by
  induction k with
  | zero => rfl
  | succ k ih => simp only [ttot]; rw [ih (by omega), tel_snoc ts t k (by omega)]
theorem ttot_next (ts : List TaskV) (t : TaskV) : ttot (ts ++ [t]) (ts ++ [t]).length = ttot ts ts.length + t.needs.length := by
  rw [List.length_append, List.length_singleton]; simp only [ttot]; rw [tel_last, ttot_other ts t (Nat.le_refl _)]
theorem infoTask : (Try.prog.info? 74).map (fun i => (i.zero, i.size, i.bytes)) = some (some (.agg #[.int .i64 0, .int .i64 0, .slice none 0 0]), 3, 40) := by kernel_rfl
theorem OT.wide {w : World} {lo hi lo' hi' : Nat} {v : Value} {ts : List TaskV} (h : OT w lo hi v ts) (h1 : lo' ≤ lo) (h2 : hi ≤ hi') : OT w lo' hi' v ts := by
  obtain ⟨f, a, b, c, d⟩ := h
  exact ⟨f, a.wide h1 h2, fun k hk => Own.wide (b k hk) h1 h2, c, d⟩
theorem wp_appendT {ops : Array Oper} {rest : List Oper} {o : Oper} {a : Act} {Q : Exit → Act → World → Prop} {W : World} (lo B : Nat) (hgd : o.guard = none) (s x : Operand)
    (ho : o.op = .call { callee := .builtin .append, args := #[s, x], argTypes := #[63, 63] })
    (v : Value) (ts : List TaskV) (p l : Int) (A : Option Addr) (c : Nat) (row : List Int) (hs : a.eval s = v) (hx : a.eval x = .slice (some ⟨W.heap.size, 0, none⟩) 1 1)
    (HO : OT W lo B v ts) (HU : OI W B W.heap.size (.slice A row.length c) row) (hlo : lo ≤ B) (hB : B ≤ W.heap.size) (hl : ts.length + 1 ≤ 1048576)
    (h : ∀ v1 w1, OT w1 lo w1.heap.size v1 (ts ++ [⟨p, l, row⟩]) → Below lo W w1 → wpList Try.prog ops Q rest (a.put o.dst v1) w1) :
    wpList Try.prog ops Q (o :: rest) a (W.alloc (.cells #[.int .i64 p, .int .i64 l, .slice A row.length c] 74)) := by
  obtain ⟨f, ho1, ho2, ho3, ho4⟩ := HO
  obtain ⟨i0, hi, hzz⟩ := Option.map_eq_some_iff.1 infoTask
  simp only [Prod.mk.injEq] at hzz
  obtain ⟨hz0, hz1, hz2⟩ := hzz
  refine wpList_append_own_at (W.alloc (.cells #[.int .i64 p, .int .i64 l, .slice A row.length c] 74)) hgd s x 63 ho lo 74 i0 (.agg #[.int .i64 0, .int .i64 0, .slice none 0 0]) 3 40 Try.underlying63 hi hz0 hz1 hz2 rfl (by omega) v ts.length _ hs (ho1.1.alloc _) ⟨W.heap.size, 0, none⟩ 1 1 [.int .i64 p, .int .i64 l, .slice A row.length c] hx rfl
    ?_ (by intro u hu; simp at hu; rcases hu with rfl | rfl | rfl <;> rfl) (by simp only [maxLen]; omega) (by omega) (by simp; omega) ?_
  · intro j u hj
    match j, hj with
    | 0, hj => simp at hj; subst hj; simp [Addr.add]
    | 1, hj => simp at hj; subst hj; simp [Addr.add]
    | 2, hj => simp at hj; subst hj; simp [Addr.add]
    | j + 3, hj => simp at hj
  intro v1 w1 hown hg _ hblk
  have hsz := hg.size
  simp only [World.alloc] at hsz
  have hsz' : W.heap.size + 1 ≤ w1.heap.size := by simpa using hsz
  have hbl : Below lo W w1 := by
    refine ((Below.refl lo W).alloc (by omega) _).grown hg (by simp; omega) ?_
    intro k hk
    exact (ho1.1.lt k hk).1
  have hkeep : ∀ k, k < W.heap.size → v.ownBlock ≠ some k → w1.heap[k]? = W.heap[k]? := fun k hk hn => by
    rw [hg.block k (by simp; omega) (Ne.symm hn)]
    exact heap_alloc_old _ _ hk
  have hv1 : ∀ k, v1.ownBlock = some k → v.ownBlock = some k ∨ k = W.heap.size + 1 := fun k hk => by
    rcases hblk with e | e
    · exact .inl (by rw [← e]; exact hk)
    · rw [e] at hk; cases hk; right; simp
  refine h v1 w1 ⟨upd f ts.length (.slice A row.length c), ?_, ?_, ?_, ?_⟩ hbl
  · rw [List.length_append, List.length_singleton, ← tcs_snoc ts ⟨p, l, row⟩]
    exact Own.of hown
  · intro k hk
    rw [List.length_append, List.length_singleton] at hk
    by_cases e : k = ts.length
    · subst e
      rw [upd_at, tel_last]
      refine Own.wide (own_blk HU fun j hj => hkeep j (own_at HU hj).2.1 fun hv => ?_) hlo (by omega)
      have := (own_at ho1 hv).2.1
      have := (own_at HU hj).1
      omega
    · rw [upd_ne _ _ e, tel_snoc _ _ _ (by omega)]
      have hk' : k < ts.length := by omega
      exact Own.wide (own_blk (ho2 k hk') fun j hj => hkeep j (by have := (own_at (ho2 k hk') hj).2.1; omega) fun hv => ho4 k j j hk' hv hj rfl) (Nat.le_refl _) (by omega)
  · intro i j a b hij hj ha hb
    rw [List.length_append, List.length_singleton] at hj
    rw [upd_ne _ _ (by omega)] at ha
    by_cases e : j = ts.length
    · rw [e, upd_at] at hb
      have := (own_at (ho2 i (by omega)) ha).2.1
      have := (own_at HU hb).1
      omega
    · rw [upd_ne _ _ e] at hb
      exact ho3 i j a b hij (by omega) ha hb
  · intro k a b hk ha hb
    rw [List.length_append, List.length_singleton] at hk
    by_cases e : k = ts.length
    · rw [e, upd_at] at hb
      have h2 := own_at HU hb
      rcases hv1 a ha with e1 | e1
      · have := (own_at ho1 e1).2.1; omega
      · omega
    · rw [upd_ne _ _ e] at hb
      have h2 := own_at (ho2 k (by omega)) hb
      rcases hv1 a ha with e1 | e1
      · exact ho4 k a b (by omega) e1 hb
      · omega
end Go.Proofs.Ytjcpjmijhloimaa
