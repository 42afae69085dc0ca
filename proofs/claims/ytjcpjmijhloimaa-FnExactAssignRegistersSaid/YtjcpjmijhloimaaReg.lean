import Derived.Test.YtjcpjmijhloimaaRange3
set_option linter.unusedVariables false
set_option linter.unusedSimpArgs false
namespace Go.Proofs.Ytjcpjmijhloimaa
open Go.RowKit

theorem i_isRegisters (w : World) (n : Int) : Calls Try.prog 101 #[.int .i64 n] w fun e w' => e = .returned (.bool (inB n 0 12)) ∧ w = w' := by
  have c := i_within n 0 12 w
  generalize inB n 0 12 = b at c ⊢
  go_enter Try.func101, Try.ntmps101
  go_wp2_with fail
  refine c.mono ?_
  rintro e w' ⟨rfl, rfl⟩
  go_wp2_with fail
  go_ret
  exact ⟨rfl, rfl⟩
theorem s_l06Registers (w : World) (A : Option Addr) (c : Nat) (xs : List PI) (r : Int) (hl : xs.length ≤ 1048576) (hR : RdP w A xs) :
    Calls Try.prog 96 #[.slice A xs.length c, .int .i64 r] w fun e w' => e = .returned (.bool (rngsB xs && inB r 0 12)) ∧ Below w.heap.size w w' := by
  have c0 := s_l06Ranges w A c xs hl hR
  have c1 := fun W => s_l00In r 0 12 W
  clear hR
  generalize inB r 0 12 = q at *
  generalize rngsB xs = p at *
  have C0 := hid c0
  have C1 := hid c1
  clear c0 c1
  cases p with
  | false =>
    go_enter Try.func96, Try.ntmps96
    go_wp2_with fail
    refine C0.out.mono ?_
    rintro e w1 ⟨rfl, hb1⟩
    go_wp2_with fail
    go_ret
    exact ⟨rfl, hb1⟩
  | true =>
    go_enter Try.func96, Try.ntmps96
    go_wp2_with fail
    refine C0.out.mono ?_
    rintro e w1 ⟨rfl, hb1⟩
    go_wp2_with fail
    refine (C1.out _).mono ?_
    rintro e w2 ⟨rfl, rfl⟩
    go_wp2_with fail
    go_ret
    exact ⟨ret_b (by simp), hb1⟩
end Go.Proofs.Ytjcpjmijhloimaa
