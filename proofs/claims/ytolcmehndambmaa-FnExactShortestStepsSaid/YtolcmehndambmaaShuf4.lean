import Derived.Test.YtolcmehndambmaaShuf3b
set_option linter.unusedVariables false
set_option linter.unusedSimpArgs false
namespace Go.Proofs.Ytolcmehndambmaa
open Go.RowKit

/-- Lane i of a named shuffle, as Go reckons it. -/
def nf (kind lanes by_ i : Int) : Int :=
  if kind = 0 then (i + by_) % lanes else if kind = 1 then lanes - 1 - i else if kind = 2 then bits .xor .i64 i by_ else if kind = 5 then by_ else i / 2 + i % 2 * (lanes / 2)
def nlist (kind lanes by_ : Int) : List Int := (List.range lanes.toNat).map fun i => nf kind lanes by_ (i : Nat)
def namedB (kind lanes by_ : Int) : Bool := lanesB lanes && inB kind 0 5 && inB by_ 0 (lanes - 1) && !(decide (0 < by_) && (kind == 1 || kind == 3 || kind == 4))
def m_NamedShuffle (kind lanes by_ : Int) : List Int × Bool := if namedB kind lanes by_ then (if kind = 4 then inv (nlist 3 lanes 0) else nlist kind lanes by_, true) else ([], false)
theorem nlist_length (kind lanes by_ : Int) : (nlist kind lanes by_).length = lanes.toNat := by simp [nlist]
theorem m_NamedShuffle_len (kind lanes by_ : Int) : (m_NamedShuffle kind lanes by_).1.length ≤ 1048576 := by
  unfold m_NamedShuffle
  split
  · rename_i h
    simp only [namedB, Bool.and_eq_true] at h
    have := lanesB_or h.1.1.1
    show (if kind = 4 then inv (nlist 3 lanes 0) else nlist kind lanes by_).length ≤ 1048576
    split
    · rw [inv_length, nlist_length]; omega
    · rw [nlist_length]; omega
  · simp
theorem zip_order (lanes : Int) (h : lanesB lanes = true) : ordB (nlist 3 lanes 0) lanes.toNat = true ∧ shufB (nlist 3 lanes 0) = true := by
  rcases lanesB_or h with rfl | rfl | rfl | rfl <;> exact ⟨by decide +kernel, by decide +kernel⟩

theorem i_Named11 (W : World) (B : Nat) (g : Nat) (lb : Array Value) (k : Nat) (y : Int) (eg : Ent Try.prog g) (hb : W.cell? ⟨B, 0, none⟩ = some (.func (.func g) #[] lb))
    (hp : Calls Try.prog g (#[.int .i64 (k : Nat)] ++ lb) W fun e w' => e = .returned (.int .i64 y) ∧ Below W.heap.size W w') :
    Calls Try.prog 110 #[.int .i64 (k : Nat), .pointer (some ⟨B, 0, none⟩)] W fun e w' => e = .returned (.int .i64 y) ∧ Below W.heap.size W w' := by
  go_enter Try.func110, Try.ntmps110
  go_wp2_with (go_at_fn g; refine hp.mono ?_; rintro e w' ⟨rfl, hb'⟩)
  go_ret
  exact ⟨rfl, hb'⟩
theorem i_Named1 (W : World) (B : Nat) (n : Nat) (g : Nat) (lb : Array Value) (h : Nat → Int) (hn : n ≤ 16) (eg : Ent Try.prog g) (hb : W.cell? ⟨B, 0, none⟩ = some (.int .i64 (n : Nat))) (hB : B < W.heap.size)
    (hp : FvI Try.prog W g lb n h) :
    Calls Try.prog 109 #[.func (.func g) #[] lb, .pointer (some ⟨B, 0, none⟩)] W (RetIB W ((List.range n).map h, true)) := by
  have hb1 := ballocw W (.cells #[.func (.func g) #[] lb] 75)
  have hll := i_lanesOf (W.alloc (.cells #[.func (.func g) #[] lb] 75)) n 110 #[.pointer (some ⟨W.heap.size, 0, none⟩)] h (by omega) (enters_of Try.func110 (by kernel_rfl) rfl)
    (fun W2 hW k hk => i_Named11 W2 W.heap.size g lb k (h k) eg ((hW.cell (p := ⟨W.heap.size, 0, none⟩) (by simp)).trans (by simp)) (hp W2 (bthen' hb1 hW hb1.size) k hk))
  clear hp
  go_enter Try.func109, Try.ntmps109
  go_wp2_with fail
  refine hll.mono ?_
  rintro e w2 ⟨v2, rfl, ho2, hb3⟩
  go_wp2_with fail
  go_ret2
  exact ⟨_, rfl, Own.wide ho2 hb1.size (Nat.le_refl _), bthen hb1 hb3⟩
theorem i_Named2 (W : World) (B D k : Nat) (by_ lanes : Int) (hk : k < 16) (h1 : 0 ≤ by_) (h2 : by_ < 16) (h3 : 0 < lanes) (h4 : lanes ≤ 16) (hb : W.cell? ⟨B, 0, none⟩ = some (.int .i64 by_)) (hd : W.cell? ⟨D, 0, none⟩ = some (.int .i64 lanes)) :
    Calls Try.prog 111 #[.int .i64 (k : Nat), .pointer (some ⟨B, 0, none⟩), .pointer (some ⟨D, 0, none⟩)] W fun e w' => e = .returned (.int .i64 (((k : Nat) + by_) % lanes)) ∧ Below W.heap.size W w' := by
  have hne : (lanes == 0) = false := by simp; omega
  go_enter Try.func111, Try.ntmps111
  go_wp2
  go_ret
  exact ⟨rfl, Below.refl _ _⟩
theorem i_Named3 (W : World) (B k : Nat) (by_ : Int) (hk : k < 16) (hb : W.cell? ⟨B, 0, none⟩ = some (.int .i64 by_)) :
    Calls Try.prog 112 #[.int .i64 (k : Nat), .pointer (some ⟨B, 0, none⟩)] W fun e w' => e = .returned (.int .i64 (bits .xor .i64 (k : Nat) by_)) ∧ Below W.heap.size W w' := by
  go_enter Try.func112, Try.ntmps112
  go_wp2
  go_ret
  exact ⟨rfl, Below.refl _ _⟩
theorem i_Named4 (W : World) (B k : Nat) (by_ : Int) (hk : k < 16) (hb : W.cell? ⟨B, 0, none⟩ = some (.int .i64 by_)) :
    Calls Try.prog 113 #[.int .i64 (k : Nat), .pointer (some ⟨B, 0, none⟩)] W fun e w' => e = .returned (.int .i64 by_) ∧ Below W.heap.size W w' := by
  go_enter Try.func113, Try.ntmps113
  go_wp2
  go_ret
  exact ⟨rfl, Below.refl _ _⟩
theorem i_Named5 (W : World) (B k : Nat) (lanes : Int) (hk : k < 16) (h3 : 0 < lanes) (h4 : lanes ≤ 16) (hb : W.cell? ⟨B, 0, none⟩ = some (.int .i64 lanes)) :
    Calls Try.prog 114 #[.int .i64 (k : Nat), .pointer (some ⟨B, 0, none⟩)] W fun e w' => e = .returned (.int .i64 (lanes - 1 - (k : Nat))) ∧ Below W.heap.size W w' := by
  go_enter Try.func114, Try.ntmps114
  go_wp2
  go_ret
  exact ⟨rfl, Below.refl _ _⟩
theorem i_zip1 (W : World) (B k : Nat) (lanes : Int) (hk : k < 16) (hL : lanesB lanes = true) (hb : W.cell? ⟨B, 0, none⟩ = some (.int .i64 lanes)) :
    Calls Try.prog 156 #[.int .i64 (k : Nat), .pointer (some ⟨B, 0, none⟩)] W fun e w' => e = .returned (.int .i64 (((k : Nat) : Int) / 2 + ((k : Nat) : Int) % 2 * (lanes / 2))) ∧ Below W.heap.size W w' := by
  rcases lanesB_or hL with rfl | rfl | rfl | rfl
  all_goals
    clear hL
    go_enter Try.func156, Try.ntmps156
    go_wp2
    go_ret
    exact ⟨ret_i (by simp), Below.refl _ _⟩
theorem i_zip (w : World) (lanes : Int) (hL : lanesB lanes = true) :
    Calls Try.prog 115 #[.int .i64 lanes] w fun e w' => ∃ v, e = .returned v ∧ OI w' w.heap.size w'.heap.size v (nlist 3 lanes 0) ∧ Below w.heap.size w w' := by
  obtain ⟨n, rfl⟩ : ∃ n : Nat, lanes = n := ⟨lanes.toNat, by have := lanesB_or hL; omega⟩
  have hn : n ≤ 16 := by have := lanesB_or hL; omega
  have hb1 := ballocw w (.cells #[.int .i64 (n : Nat)] 2)
  have hll := i_lanesOf (w.alloc (.cells #[.int .i64 (n : Nat)] 2)) n 156 #[.pointer (some ⟨w.heap.size, 0, none⟩)] (fun i => nf 3 n 0 (i : Nat)) (by omega) (enters_of Try.func156 (by kernel_rfl) rfl)
    (fun W hW k hk => i_zip1 W w.heap.size k n (by omega) hL ((hW.cell (p := ⟨w.heap.size, 0, none⟩) (by simp)).trans (by simp)))
  rw [show (List.range n).map (fun i => nf 3 n 0 (i : Nat)) = nlist 3 n 0 from by simp [nlist]] at hll
  generalize nlist 3 n 0 = r at hll
  clear hL
  go_enter Try.func115, Try.ntmps115
  go_wp2_with fail
  refine hll.mono ?_
  rintro e w2 ⟨v2, rfl, ho2, hb3⟩
  go_wp2_with fail
  go_ret
  exact ⟨_, rfl, Own.wide ho2 hb1.size (Nat.le_refl _), bthen hb1 hb3⟩
end Go.Proofs.Ytolcmehndambmaa
