import Derived.Test.YtmpdaafkphpnoaaBfs9
import Derived.Test.YtmpdaafkphpnoaaSrc4
import Derived.Test.YtmpdaafkphpnoaaCat
import Derived.Test.YtmpdaafkphpnoaaCalm
set_option linter.unusedVariables false
set_option linter.unusedSimpArgs false
namespace Go.Proofs.Ytmpdaafkphpnoaa
open Go.RowKit

/-- append of one number, where each other block stays. -/
theorem wp_appendK {P : Program} {ops : Array Oper} {rest : List Oper} {o : Oper} {a : Act} {Q : Exit → Act → World → Prop} {W : World} (lo : Nat) (hgd : o.guard = none) (s x : Operand) (t e : TypeId) (z : Value) (bytes : Nat)
    (ho : o.op = .call { callee := .builtin .append, args := #[s, x], argTypes := #[t, t] })
    (ht : P.underlying t = some (.slice e)) (hinfo : (P.info? e).map (fun i => (i.zero, i.size, i.bytes)) = some (some z, 1, bytes)) (hz : z.cells.size = 1)
    (v : Value) (xs : List Int) (y : Int) (hs : a.eval s = v) (hx : a.eval x = .slice (some ⟨W.heap.size, 0, none⟩) 1 1)
    (HO : OwnI W lo W.heap.size e v xs) (hlo : lo ≤ W.heap.size) (hl : xs.length + 1 ≤ 9223372036854775807) (hby : (xs.length + 1) * bytes ≤ 140737488355328)
    (h : ∀ v1 w1, OwnI w1 lo w1.heap.size e v1 (xs ++ [y]) → Below lo W w1 → (∀ k, k < W.heap.size → v.ownBlock ≠ some k → w1.heap[k]? = W.heap[k]?) → (∀ k, v1.ownBlock = some k → v.ownBlock = some k ∨ W.heap.size ≤ k) → wpList P ops Q rest (a.put o.dst v1) w1) :
    wpList P ops Q (o :: rest) a (W.alloc (.cells #[.int .i64 y] e)) := by
  obtain ⟨i0, hi, hzz⟩ := Option.map_eq_some_iff.1 hinfo
  simp only [Prod.mk.injEq] at hzz
  obtain ⟨hz0, hz1, hz2⟩ := hzz
  refine wpList_append_own_at (W.alloc (.cells #[.int .i64 y] e)) hgd s x t ho lo e i0 z 1 bytes ht hi hz0 hz1 hz2 hz (by omega) v xs.length (ints xs) hs (HO.1.alloc _) ⟨W.heap.size, 0, none⟩ 1 1 [.int .i64 y] hx rfl
    (cell_one_new _ _ _) (by intro u hu; simp at hu; subst hu; rfl) (by simp only [maxLen]; omega) hby (by simp; omega) ?_
  intro v1 w1 hown hg _ hblk
  refine h v1 w1 ?_ ?_ ?_ ?_
  · have := Own.of hown
    unfold OwnI; rw [ints_append, List.length_append]; exact this
  · refine ((Below.refl lo W).alloc hlo _).grown hg (by simp; omega) ?_
    intro k hk
    exact (HO.1.lt k hk).1
  · intro k hk hn
    rw [hg.block k (by simp; omega) (Ne.symm hn)]
    exact heap_alloc_old _ _ hk
  · intro k hk
    rcases hblk with e | e
    · exact .inl (by rw [← e]; exact hk)
    · rw [e] at hk; cases hk; right; simp
def alwN (al : List (List Int)) : Nat → Bool
  | 0 => true
  | k + 1 => alwN al k && (shufB (rw_ al k) && decide ((rw_ al k).length = (rw_ al 0).length))
theorem alwN_mono {al : List (List Int)} {j k : Nat} (h : alwN al j = false) (hk : j ≤ k) : alwN al k = false := by
  induction k with
  | zero => obtain rfl : j = 0 := by omega
            exact h
  | succ k ih => by_cases e : j = k + 1
                 · subst e; exact h
                 · simp only [alwN]; rw [ih (by omega)]; rfl
theorem alwN_all (al : List (List Int)) : alwN al al.length = al.all fun s => shufB s && decide (s.length = (rw_ al 0).length) := by
  have : ∀ n, alwN al n = allN n (fun k => shufB (rw_ al k) && decide ((rw_ al k).length = (rw_ al 0).length)) := fun n => by
    induction n with
    | zero => rfl
    | succ n ih =>
      have : allN (n + 1) (fun k => shufB (rw_ al k) && decide ((rw_ al k).length = (rw_ al 0).length)) = (allN n (fun k => shufB (rw_ al k) && decide ((rw_ al k).length = (rw_ al 0).length)) && (shufB (rw_ al n) && decide ((rw_ al n).length = (rw_ al 0).length))) := by unfold allN; rw [List.range_succ, List.all_append]; simp
      rw [this]; simp only [alwN]; rw [ih]
  rw [this, allN_rows al (fun s => shufB s && decide (s.length = (rw_ al 0).length))]
end Go.Proofs.Ytmpdaafkphpnoaa
