import Derived.Test.YtmpdaafkphpnoaaOpenI
import Derived.Test.YtmpdaafkphpnoaaMach
import Derived.Lib.SmallJoins
set_option linter.unusedVariables false
set_option linter.unusedSimpArgs false
namespace Go.Proofs.Ytmpdaafkphpnoaa
open Go.ChangeShapes Go.WideShapes Go.ChangeAt Go.RowKit
set_option maxRecDepth 100000 in
theorem open_M {H : Type} {enc : TypeId × Value → H} {W : World} {base : Nat} {v : Value} {d : DataW H} {p : List MemPlace}
    (hv : Value.okWide Try.prog W .any base 35 v) (h : DataW.Trod enc Try.prog W 0 (fun _ => true) true 35 v d p) :
    ∃ (la bi : Int), v = mv la bi := by
  obtain ⟨v0, v1, y0, y1, n, rfl, _, _, h0, h1⟩ := Go.Joins.open_agg2 Try.underlying35 (by kernel_rfl) (by kernel_rfl) hv h
  obtain ⟨a, e0, _⟩ := DataW.trod_int Try.underlying2 h0
  obtain ⟨b, e1, _⟩ := DataW.trod_int Try.underlying2 h1
  simp at e0 e1
  exact ⟨a, b, by rw [e0, e1]⟩
end Go.Proofs.Ytmpdaafkphpnoaa
