import Derived.Test.YtcjbfnbknpolcaaMach
set_option linter.unusedVariables false
set_option linter.unusedSimpArgs false
namespace Go.Proofs.Ytcjbfnbknpolcaa
open Go.RowKit
theorem law_ValidMachine (w : World) (la bi : Int) : Calls Try.prog 3 #[mv la bi] w fun e w' => e = .returned (.bool true) ∧ Below w.heap.size w w' := by
  have hb0 := ballocw w (.cells #[.int .i64 la, .int .i64 bi] 23)
  have h0 : (w.alloc (.cells #[.int .i64 la, .int .i64 bi] 23)).cell? ⟨w.heap.size, 0, none⟩ = some (.int .i64 la) := by simp
  have h1 : (w.alloc (.cells #[.int .i64 la, .int .i64 bi] 23)).cell? ⟨w.heap.size, 1, none⟩ = some (.int .i64 bi) := by simp
  have c0 := fun W => l_toMachine W la bi
  have c1 := fun W => s_ValidMachine W la bi
  have c2 := fun W => i_ValidMachine W la bi
  generalize machB la bi = r at c1 c2
  go_enter Try.func3, Try.ntmps3
  go_wp2_with fail
  refine (c0 _).mono ?_
  rintro e w1 ⟨rfl, hb1⟩
  go_wp2_with fail
  refine (c1 _).mono ?_
  rintro e w2 ⟨rfl, hb2⟩
  have hb3 := bthen hb1 hb2
  have e0 := bcell hb3 h0
  have e1 := bcell hb3 h1
  go_wp2_with fail
  refine (c0 _).mono ?_
  rintro e w3 ⟨rfl, hb4⟩
  go_wp2_with fail
  refine (c2 _).mono ?_
  rintro e w4 ⟨rfl, hb5⟩
  go_wp2_with fail
  go_ret
  exact ⟨rfl, bthen hb0 (bthen hb3 (bthen hb4 hb5))⟩
end Go.Proofs.Ytcjbfnbknpolcaa
