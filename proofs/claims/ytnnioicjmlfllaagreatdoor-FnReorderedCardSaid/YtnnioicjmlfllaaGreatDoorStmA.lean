import Derived.Test.YtnnioicjmlfllaaGreatDoorStm2
import Derived.Maps.AppendAt
set_option linter.unusedVariables false
set_option linter.unusedSimpArgs false
namespace Go.Proofs.YtnnioicjmlfllaaGreatDoor
open Go.RowKit

theorem sfl_snoc (xs : List SmV) (y : SmV) : ints (sfl (xs ++ [y])) = ints (sfl xs) ++ [.int .i64 y.o, .int .i64 y.d, .int .i64 y.a, .int .i64 y.b] := by
  rw [sfl_append]; simp [sfl, ints]
theorem OC.nil (w : World) (lo hi : Nat) : OC w lo hi (.slice none 0 0) [] := Own.nil w lo hi 45 4
theorem OC.wide {w : World} {lo hi lo' hi' : Nat} {v : Value} {xs : List SmV} (h : OC w lo hi v xs) (h1 : lo' ≤ lo) (h2 : hi ≤ hi') : OC w lo' hi' v xs := Own.wide h h1 h2
theorem infoStm : (Tryz.prog.info? 45).map (fun i => (i.zero, i.size, i.bytes)) = some (some (.agg #[.int .i64 0, .int .i64 0, .int .i64 0, .int .i64 0]), 4, 32) := by kernel_rfl
/-- append(v, x) of one statement, behind 'at_builtin'. -/
theorem wp_appendC {ops : Array Oper} {rest : List Oper} {o : Oper} {a : Act} {Q : Exit → Act → World → Prop} {W : World} (lo : Nat) (hgd : o.guard = none) (s x : Operand)
    (ho : o.op = .call { callee := .builtin .append, args := #[s, x], argTypes := #[24, 24] })
    (v : Value) (xs : List SmV) (y1 y2 y3 y4 : Int) (B : Nat) (hB : W.heap.size = B) (hs : a.eval s = v) (hx : a.eval x = .slice (some ⟨B, 0, none⟩) 1 1)
    (HO : OC W lo W.heap.size v xs) (hlo : lo ≤ W.heap.size) (hl : xs.length + 1 ≤ 2097152)
    (h : ∀ v1 w1, OC w1 lo w1.heap.size v1 (xs ++ [⟨y1, y2, y3, y4⟩]) → Below lo W w1 → wpList Tryz.prog ops Q rest (a.put o.dst v1) w1) :
    wpList Tryz.prog ops Q (o :: rest) a (W.alloc (.cells #[.int .i64 y1, .int .i64 y2, .int .i64 y3, .int .i64 y4] 45)) := by
  obtain ⟨i0, hi, hzz⟩ := Option.map_eq_some_iff.1 infoStm
  simp only [Prod.mk.injEq] at hzz
  obtain ⟨hz0, hz1, hz2⟩ := hzz
  subst hB
  refine wpList_append_own (W.alloc (.cells #[.int .i64 y1, .int .i64 y2, .int .i64 y3, .int .i64 y4] 45)) hgd s x 24 ho lo 45 i0 _ 4 32 Tryz.underlying24 hi hz0 hz1 hz2 rfl (by omega) v xs.length _ hs (HO.1.alloc _) ⟨W.heap.size, 0, none⟩ 1 1 [.int .i64 y1, .int .i64 y2, .int .i64 y3, .int .i64 y4] hx rfl
    (World.news_of_block (cs := #[.int .i64 y1, .int .i64 y2, .int .i64 y3, .int .i64 y4]) (t := 45) (fr := (0, 0)) (heap_alloc_new W _)) (by simp [Value.oneCell']) (by simp only [maxLen]; omega) (by omega) (by simp; omega) ?_
  intro v1 w1 hown hg _
  refine h v1 w1 ?_ ?_
  · show Own _ _ _ _ _ _ _ _
    rw [sfl_snoc, List.length_append]; exact Own.of hown
  refine ((Below.refl lo W).alloc hlo _).grown hg (by simp; omega) ?_
  intro k hk
  exact (HO.1.lt k hk).1
/-- .. and all else stays as it is. -/
theorem wp_appendCf {ops : Array Oper} {rest : List Oper} {o : Oper} {a : Act} {Q : Exit → Act → World → Prop} {W : World} (lo : Nat) (hgd : o.guard = none) (s x : Operand)
    (ho : o.op = .call { callee := .builtin .append, args := #[s, x], argTypes := #[24, 24] })
    (v : Value) (xs : List SmV) (y1 y2 y3 y4 : Int) (B : Nat) (hB : W.heap.size = B) (hs : a.eval s = v) (hx : a.eval x = .slice (some ⟨B, 0, none⟩) 1 1)
    (HO : OC W lo W.heap.size v xs) (hlo : lo ≤ W.heap.size) (hl : xs.length + 1 ≤ 2097152)
    (h : ∀ v1 w1, OC w1 lo w1.heap.size v1 (xs ++ [⟨y1, y2, y3, y4⟩]) → Below lo W w1 → (∀ k, k < W.heap.size → v.ownBlock ≠ some k → w1.heap[k]? = W.heap[k]? ∧ v1.ownBlock ≠ some k) → wpList Tryz.prog ops Q rest (a.put o.dst v1) w1) :
    wpList Tryz.prog ops Q (o :: rest) a (W.alloc (.cells #[.int .i64 y1, .int .i64 y2, .int .i64 y3, .int .i64 y4] 45)) := by
  obtain ⟨i0, hi, hzz⟩ := Option.map_eq_some_iff.1 infoStm
  simp only [Prod.mk.injEq] at hzz
  obtain ⟨hz0, hz1, hz2⟩ := hzz
  subst hB
  refine wpList_append_own_at (W.alloc (.cells #[.int .i64 y1, .int .i64 y2, .int .i64 y3, .int .i64 y4] 45)) hgd s x 24 ho lo 45 i0 _ 4 32 Tryz.underlying24 hi hz0 hz1 hz2 rfl (by omega) v xs.length _ hs (HO.1.alloc _) ⟨W.heap.size, 0, none⟩ 1 1 [.int .i64 y1, .int .i64 y2, .int .i64 y3, .int .i64 y4] hx rfl
    (World.news_of_block (cs := #[.int .i64 y1, .int .i64 y2, .int .i64 y3, .int .i64 y4]) (t := 45) (fr := (0, 0)) (heap_alloc_new W _)) (by simp [Value.oneCell']) (by simp only [maxLen]; omega) (by omega) (by simp; omega) ?_
  intro v1 w1 hown hg _ hblk
  refine h v1 w1 ?_ ?_ ?_
  · show Own _ _ _ _ _ _ _ _
    rw [sfl_snoc, List.length_append]; exact Own.of hown
  · refine ((Below.refl lo W).alloc hlo _).grown hg (by simp; omega) ?_
    intro k hk
    exact (HO.1.lt k hk).1
  · intro k hk hn
    refine ⟨(hg.block k (by simp; omega) (Ne.symm hn)).trans (heap_alloc_old _ _ hk), fun z => ?_⟩
    rcases hblk with e | e
    · exact hn (by rw [← e]; exact z)
    · rw [e] at z; cases z; exact absurd hk (by simp)
end Go.Proofs.YtnnioicjmlfllaaGreatDoor
