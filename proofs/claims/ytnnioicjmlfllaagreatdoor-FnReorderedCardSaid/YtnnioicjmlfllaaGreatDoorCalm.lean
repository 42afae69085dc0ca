import Derived.Test.YtnnioicjmlfllaaGreatDoorBase
import Derived.Deep.CutRange
import Derived.Deep.Light
set_option linter.unusedVariables false
set_option linter.unusedSimpArgs false
namespace Go.Proofs.YtnnioicjmlfllaaGreatDoor
open Go.RowKit

/-! ### A region that draws its order, whose callees may make memory: all that was there stays, and each operation yields one value -/
/-- A later world. -/
structure Lat (w : World) where
  val : World
  below : Below w.heap.size w val
instance (w : World) : Nonempty (Lat w) := ⟨⟨w, Below.refl _ _⟩⟩
theorem bdrewL (W : World) : Below W.heap.size W W.drew := ⟨rfl, rfl, rfl, Nat.le_refl _, fun _ _ => rfl⟩
theorem lcell {w : World} {a : Addr} {v : Value} (h : w.cell? a = some v) (x : Lat w) : x.val.cell? a = some v := bcell x.below h
theorem wp_region_calm {P : Program} {id : Nat} {Q : Exit → Act → World → Prop} {a : Act} {w : World} {l : List Oper} (hm : P.follows .mixedOrders = true) (hB : Region.lexB .any l.toArray = true)
    (h : wpQuiet P l.toArray (fun w' => ∃ x : Lat w, w' = x.val) (fun a' => ∀ w', (∃ x : Lat w, w' = x.val) → Q .normal a' w') l a) : (Code.region id l.toArray true).wp P Q a w :=
  wp_region_quiet (C := fun w' => ∃ x : Lat w, w' = x.val) hm hB ⟨⟨_, bdrewL w⟩, rfl⟩ (by simpa using h)
theorem calm_of {P : Program} {f : FuncId} {args : Array Value} {w : World} {x : Lat w} {v : Value}
    (h : Calls P f args x.val fun e w' => e = .returned v ∧ Below x.val.heap.size x.val w') : Calls P f args x.val fun e w'' => e = .returned v ∧ ∃ y : Lat w, w'' = y.val :=
  h.mono fun e w' ⟨h1, h2⟩ => ⟨h1, ⟨w', bthen x.below h2⟩, rfl⟩
theorem calm_same {P : Program} {f : FuncId} {args : Array Value} {w : World} {x : Lat w} {v : Value}
    (h : Calls P f args x.val fun e w' => e = .returned v ∧ x.val = w') : Calls P f args x.val fun e w'' => e = .returned v ∧ ∃ y : Lat w, w'' = y.val :=
  h.mono fun e w' ⟨h1, h2⟩ => ⟨h1, x, h2.symm⟩
end Go.Proofs.YtnnioicjmlfllaaGreatDoor
