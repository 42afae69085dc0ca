import Derived.Test.YtolcmehndambmaaNet
set_option linter.unusedVariables false
set_option linter.unusedSimpArgs false
namespace Go.Proofs.Ytolcmehndambmaa
open Go.RowKit

/-- Switches of one step; a network. -/
def swB (n : Int) (l : List Int) : Bool := decide ((l.length : Int) = n / 2) && l.all (fun x => inB x 0 1)
def netB (n : Int) (xss : List (List Int)) : Bool := lanesB n && (decide ((xss.length : Int) = 2 * dep n - 1) && xss.all (swB n))
theorem tdiv2 {n : Int} (h0 : 0 ≤ n) (h1 : n ≤ 16) : IntKind.i64.wrap (n.tdiv 2) = n / 2 := by
  rw [Int.tdiv_eq_ediv_of_nonneg h0, IntKind.wrap_i64]; omega
theorem i_IsNetwork11 (W : World) (x : Int) : Calls Try.prog 84 #[.int .i64 x] W fun e w' => e = .returned (.bool (inB x 0 1)) ∧ Below W.heap.size W w' := by
  by_cases h0 : x = 0
  · subst h0
    go_enter Try.func84, Try.ntmps84
    go_wp2
    go_ret
    exact ⟨ret_b (by simp [inB]), Below.refl _ _⟩
  · have hb0 : (x == 0) = false := by simpa using h0
    have HE : Hid ((x == 1) = inB x 0 1) := hid (by rw [Bool.eq_iff_iff, inB_iff]; simp; omega)
    clear h0
    go_enter Try.func84, Try.ntmps84
    go_wp2
    go_ret
    exact ⟨ret_b HE.out, Below.refl _ _⟩
set_option maxRecDepth 100000 in
theorem i_IsNetwork1 (W : World) (B : Nat) (A : Option Addr) (c : Nat) (xs : List Int) (n : Int) (h2 : 2 ≤ n) (h16 : n ≤ 16) (hl : xs.length ≤ 1048576) (hB : W.cell? ⟨B, 0, none⟩ = some (.int .i64 n)) (hR : RdI W A xs) :
    Calls Try.prog 82 #[.slice A xs.length c, .pointer (some ⟨B, 0, none⟩)] W fun e w' => e = .returned (.bool (swB n xs)) ∧ Below W.heap.size W w' := by
  have hlen := fun W => i_lengthI A xs.length c W
  have hall := fun W' (hW : Below W.heap.size W W') => areAllI W' A xs.length c (fun k => .int .i64 (el xs k)) 84 #[] (fun k => inB (el xs k) 0 1) (by omega) (hR.below hW) (enters_of Try.func84 (by kernel_rfl) rfl) (fun W hW k hk => i_IsNetwork11 W (el xs k))
  simp only [allN_ints xs (fun x => inB x 0 1)] at hall
  clear hR
  unfold swB
  generalize (xs.all fun x => inB x 0 1) = r at hall ⊢
  by_cases hn : (xs.length : Int) = n / 2
  · have hb : ((xs.length : Int) == IntKind.i64.wrap (n.tdiv 2)) = true := by rw [tdiv2 (by omega) h16]; simpa using hn
    have hd : decide ((xs.length : Int) = n / 2) = true := by simpa using hn
    rw [hd]
    have HALL := hid hall
    clear hall hn hd
    go_enter Try.func82, Try.ntmps82
    go_wp2
    refine wp_region_still_tail 7 (by kernel_rfl) (by kernel_rfl) ?_
    simp only [List.take_succ_cons, List.take_zero, List.drop_succ_cons, List.drop_zero]
    still_step
    refine wpStill_step (fun K hK => ?_)
    go_simp
    refine ⟨_, (hlen _).mono fun e w' h => ⟨h.1, h.2.symm⟩, hK _ ?_⟩
    clear hK K
    repeat still_step
    try refine wpStill_nil ?_
    change wpList _ _ _ _ _ W.drew
    have hbd : Below W.heap.size W W.drew := ⟨rfl, rfl, rfl, Nat.le_refl _, fun _ _ => rfl⟩
    go_wp2_with fail
    refine (HALL.out _ hbd).mono ?_
    rintro e w1 ⟨rfl, hb1⟩
    go_wp2_with fail
    go_ret
    exact ⟨ret_b (by simp), bthen hbd hb1⟩
  · have hb : ((xs.length : Int) == IntKind.i64.wrap (n.tdiv 2)) = false := by rw [tdiv2 (by omega) h16]; simpa using hn
    have hd : decide ((xs.length : Int) = n / 2) = false := by simpa using hn
    rw [hd]
    clear hall hn hd
    go_enter Try.func82, Try.ntmps82
    go_wp2
    refine wp_region_still_tail 7 (by kernel_rfl) (by kernel_rfl) ?_
    simp only [List.take_succ_cons, List.take_zero, List.drop_succ_cons, List.drop_zero]
    still_step
    refine wpStill_step (fun K hK => ?_)
    go_simp
    refine ⟨_, (hlen _).mono fun e w' h => ⟨h.1, h.2.symm⟩, hK _ ?_⟩
    clear hK K
    repeat still_step
    try refine wpStill_nil ?_
    change wpList _ _ _ _ _ W.drew
    have hbd : Below W.heap.size W W.drew := ⟨rfl, rfl, rfl, Nat.le_refl _, fun _ _ => rfl⟩
    go_wp2_with fail
    go_ret
    exact ⟨ret_b (by simp), hbd⟩
theorem dep_range (n : Int) : 1 ≤ dep n ∧ dep n ≤ 4 := by unfold dep; repeat' split
                                                          all_goals omega
theorem i_lengthRR (A : Option Addr) (n c : Nat) (w : World) : Calls Try.prog 80 #[.slice A n c] w fun e w' => e = .returned (.int .i64 n) ∧ w = w' := by
  go_enter Try.func80, Try.ntmps80
  go_wp2
  go_ret
  exact ⟨rfl, rfl⟩
abbrev NW (w : World) (n : Int) : World := w.alloc (.cells #[.int .i64 n] 2)
theorem i_NWa (w : World) (n : Int) (A : Option Addr) (m c : Nat) (c0 : Hid (∀ W, Calls Try.prog 79 #[.int .i64 n] W fun e w' => e = .returned (.bool false) ∧ W = w')) :
    Calls Try.prog 31 #[.int .i64 n, .slice A m c] w fun e w' => e = .returned (.bool false) ∧ Below w.heap.size w w' := by
  have hb0 := ballocw w (.cells #[.int .i64 n] 2)
  go_enter Try.func31, Try.ntmps31
  go_wp2
  go_quiet (with_reducible exact Calls.quiet_of_same ((c0.out _).mono fun e w' h => ⟨h.1, h.2.symm⟩))
  go_wp2
  go_ret
  exact ⟨rfl, bdrewN hb0 _⟩
theorem i_NWb (w : World) (n d : Int) (A : Option Addr) (m c : Nat) (hd1 : 1 ≤ d) (hd4 : d ≤ 4) (hm : m ≤ 1048576) (b : Bool) (hb : ((m : Int) != 2 * d - 1) = true)
    (c0 : Hid (∀ W, Calls Try.prog 79 #[.int .i64 n] W fun e w' => e = .returned (.bool true) ∧ W = w'))
    (c1 : Hid (∀ W, Calls Try.prog 80 #[.slice A m c] W fun e w' => e = .returned (.int .i64 m) ∧ W = w'))
    (c2 : Hid (∀ W, Calls Try.prog 76 #[.int .i64 n] W fun e w' => e = .returned (.int .i64 d) ∧ W = w')) :
    Calls Try.prog 31 #[.int .i64 n, .slice A m c] w fun e w' => e = .returned (.bool false) ∧ Below w.heap.size w w' := by
  have hb0 := ballocw w (.cells #[.int .i64 n] 2)
  go_enter Try.func31, Try.ntmps31
  go_wp2
  go_quiet (first | with_reducible exact Calls.quiet_of_same ((c0.out _).mono fun e w' h => ⟨h.1, h.2.symm⟩) | with_reducible exact Calls.quiet_of_same ((c1.out _).mono fun e w' h => ⟨h.1, h.2.symm⟩) | with_reducible exact Calls.quiet_of_same ((c2.out _).mono fun e w' h => ⟨h.1, h.2.symm⟩))
  go_wp2
  go_ret
  exact ⟨rfl, bdrewN hb0 _⟩
theorem i_NWc (w : World) (n d : Int) (A : Option Addr) (m c : Nat) (hd1 : 1 ≤ d) (hd4 : d ≤ 4) (hm : m ≤ 1048576) (b : Bool) (hb : ((m : Int) != 2 * d - 1) = false)
    (c0 : Hid (∀ W, Calls Try.prog 79 #[.int .i64 n] W fun e w' => e = .returned (.bool true) ∧ W = w'))
    (c1 : Hid (∀ W, Calls Try.prog 80 #[.slice A m c] W fun e w' => e = .returned (.int .i64 m) ∧ W = w'))
    (c2 : Hid (∀ W, Calls Try.prog 76 #[.int .i64 n] W fun e w' => e = .returned (.int .i64 d) ∧ W = w'))
    (Q : World → Prop) (ca : Hid (∀ W, Below (w.heap.size + 1) (NW w n) W → Calls Try.prog 81 #[.slice A m c, .func (.func 82) #[] #[.pointer (some ⟨w.heap.size, 0, none⟩)]] W fun e w' => e = .returned (.bool b) ∧ Q w')) :
    Calls Try.prog 31 #[.int .i64 n, .slice A m c] w fun e w' => e = .returned (.bool b) ∧ Q w' := by
  have hb1 : Below (w.heap.size + 1) (NW w n) (NW w n) := Below.refl _ _
  go_enter Try.func31, Try.ntmps31
  go_wp2
  go_quiet (first | with_reducible exact Calls.quiet_of_same ((c0.out _).mono fun e w' h => ⟨h.1, h.2.symm⟩) | with_reducible exact Calls.quiet_of_same ((c1.out _).mono fun e w' h => ⟨h.1, h.2.symm⟩) | with_reducible exact Calls.quiet_of_same ((c2.out _).mono fun e w' h => ⟨h.1, h.2.symm⟩))
  go_wp2_with fail
  refine (ca.out _ (bdrewN hb1 _)).mono ?_
  rintro e w1 ⟨rfl, hq⟩
  go_wp2_with fail
  go_ret
  exact ⟨rfl, hq⟩
theorem i_IsNetwork (w : World) (n : Int) (A : Option Addr) (c : Nat) (xss : List (List Int)) (hl : rsz xss ≤ 1048576) (hR : RdR w A xss) :
    Calls Try.prog 31 #[.int .i64 n, .slice A xss.length c] w fun e w' => e = .returned (.bool (netB n xss)) ∧ Below w.heap.size w w' := by
  have hlen := rsz_len hl
  have hd := dep_range n
  have c0 := fun W => i_isLanes n W
  have c1 := fun W => i_lengthRR A xss.length c W
  unfold netB
  cases h0 : lanesB n with
  | false => rw [h0] at c0; exact (i_NWa w n A xss.length c (hid c0)).mono fun e w' h => ⟨by rw [h.1]; simp, h.2⟩
  | true =>
    rw [h0] at c0
    have hor := lanesB_or h0
    have c2 := fun W => i_depth W n h0
    cases h1 : decide ((xss.length : Int) = 2 * dep n - 1) with
    | false => exact (i_NWb w n (dep n) A xss.length c hd.1 hd.2 hlen false (by simpa using h1) (hid c0) (hid c1) (hid c2)).mono fun e w' h => ⟨by rw [h.1]; simp, h.2⟩
    | true =>
      have hb0 : Below w.heap.size w (NW w n) := ballocw w _
      have hcB : (NW w n).cell? ⟨w.heap.size, 0, none⟩ = some (.int .i64 n) := by simp [NW]
      have hbW : ∀ W, Below (w.heap.size + 1) (NW w n) W → Below w.heap.size w W := fun W hW => hb0.trans (hW.mono (by omega))
      obtain ⟨f, hf, hr⟩ := hR
      refine (i_NWc w n (dep n) A xss.length c hd.1 hd.2 hlen (xss.all (swB n)) (by simpa using h1) (hid c0) (hid c1) (hid c2) (fun w' => Below w.heap.size w w') (hid fun W hW => ?_)).mono fun e w' h => ⟨by rw [h.1]; simp, h.2⟩
      have hWs := (hbW W hW).size
      have hcW := (hW.cell (p := ⟨w.heap.size, 0, none⟩) (by simp)).trans hcB
      have hall := areAllR W A xss.length c f 82 #[.pointer (some ⟨w.heap.size, 0, none⟩)] (fun k => swB n (rw_ xss k)) (by omega) (hf.below (hbW W hW)) (enters_of Try.func82 (by kernel_rfl) rfl) (fun W' hW' k hk => by
        obtain ⟨A', c', e, _, hrr⟩ := hr k hk
        rw [e]
        exact i_IsNetwork1 W' w.heap.size A' c' (rw_ xss k) n (by omega) (by omega) (rsz_row hl hk) (bcell hW' hcW) ((hrr.below (hbW W hW)).below hW'))
      rw [allN_rows xss (swB n)] at hall
      exact hall.mono fun e w' h => ⟨h.1, bthen (hbW W hW) h.2⟩
end Go.Proofs.Ytolcmehndambmaa
