import Derived.Test.YtnnioicjmlfllaaGreatDoorCat
import Derived.Test.YtnnioicjmlfllaaGreatDoorLawO
set_option linter.unusedVariables false
set_option linter.unusedSimpArgs false
namespace Go.Proofs.YtnnioicjmlfllaaGreatDoor
open Go.RowKit

/-- append([]int64{}, row...). -/
theorem wp_appendE {ops : Array Oper} {rest : List Oper} {o : Oper} {a : Act} {Q : Exit → Act → World → Prop} {W : World} (lo : Nat) (hgd : o.guard = none) (s x : Operand)
    (ho : o.op = .call { callee := .builtin .append, args := #[s, x], argTypes := #[27, 27] })
    (v : Value) (A : Option Addr) (c q : Nat) (ys : List Int) (hq : ys.length = q) (hs : a.eval s = v) (hx : a.eval x = .slice A q c)
    (HO : Own W lo W.heap.size 2 1 v 0 []) (hR : RdI W A ys) (hlo : lo ≤ W.heap.size) (hl : q ≤ 1048576)
    (h : ∀ A1 c1 w1, OI w1 lo w1.heap.size (.slice A1 q c1) ys → Below lo W w1 → wpList Tryz.prog ops Q rest (a.put o.dst (.slice A1 q c1)) w1) :
    wpList Tryz.prog ops Q (o :: rest) a W := by
  subst hq
  refine wp_appendS lo hgd s x 27 2 (.int .i64 0) 8 ho Tryz.underlying27 infoInt rfl v 0 [] A c ys hs hx HO hR hlo (by omega) (by omega) ?_
  intro v1 w1 hown hb
  have ho : OwnI w1 lo w1.heap.size 2 v1 ys := by
    unfold OwnI
    simpa using hown
  obtain ⟨A1, c1, rfl, _, _, _⟩ := Own.int ho
  exact h A1 c1 w1 ho hb
end Go.Proofs.YtnnioicjmlfllaaGreatDoor
