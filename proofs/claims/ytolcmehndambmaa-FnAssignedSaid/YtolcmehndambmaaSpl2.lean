import Derived.Test.YtolcmehndambmaaSpl
import Derived.Test.YtolcmehndambmaaLawO
set_option linter.unusedVariables false
set_option linter.unusedSimpArgs false
namespace Go.Proofs.Ytolcmehndambmaa
open Go.RowKit

/-! ### append(v, x) of one struct of two cells, behind 'at_builtin' -/
theorem wp_append2 {P : Program} {ops : Array Oper} {rest : List Oper} {o : Oper} {a : Act} {Q : Exit → Act → World → Prop} {W : World} (lo : Nat) (hgd : o.guard = none) (s x : Operand) (t e : TypeId) (z : Value) (bytes : Nat)
    (ho : o.op = .call { callee := .builtin .append, args := #[s, x], argTypes := #[t, t] })
    (ht : P.underlying t = some (.slice e)) (hinfo : (P.info? e).map (fun i => (i.zero, i.size, i.bytes)) = some (some z, 2, bytes)) (hz : z.cells.size = 2)
    (v : Value) (n : Nat) (cs : List Value) (y1 y2 : Value) (B : Nat) (hB : W.heap.size = B) (hs : a.eval s = v) (hx : a.eval x = .slice (some ⟨B, 0, none⟩) 1 1) (h1 : y1.oneCell' = true) (h2 : y2.oneCell' = true)
    (HO : Own W lo W.heap.size e 2 v n cs) (hlo : lo ≤ W.heap.size) (hl : n + 1 ≤ 9223372036854775807) (hby : (n + 1) * bytes ≤ 140737488355328)
    (h : ∀ v1 w1, Own w1 lo w1.heap.size e 2 v1 (n + 1) (cs ++ [y1, y2]) → Below lo W w1 → wpList P ops Q rest (a.put o.dst v1) w1) :
    wpList P ops Q (o :: rest) a (W.alloc (.cells #[y1, y2] e)) := by
  obtain ⟨i0, hi, hzz⟩ := Option.map_eq_some_iff.1 hinfo
  simp only [Prod.mk.injEq] at hzz
  obtain ⟨hz0, hz1, hz2⟩ := hzz
  subst hB
  refine wpList_append_own (W.alloc (.cells #[y1, y2] e)) hgd s x t ho lo e i0 z 2 bytes ht hi hz0 hz1 hz2 hz (by omega) v n cs hs (HO.1.alloc _) ⟨W.heap.size, 0, none⟩ 1 1 [y1, y2] hx rfl
    (World.news_of_block (cs := #[y1, y2]) (t := e) (fr := (0, 0)) (heap_alloc_new W _)) (by simp [h1, h2]) (by simp only [maxLen]; omega) hby (by simp; omega) ?_
  intro v1 w1 hown hg _
  refine h v1 w1 (Own.of hown) ?_
  refine ((Below.refl lo W).alloc hlo _).grown hg (by simp; omega) ?_
  intro k hk
  exact (HO.1.lt k hk).1
end Go.Proofs.Ytolcmehndambmaa
