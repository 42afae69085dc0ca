import Derived.Test.YtolcmehndambmaaShuf6
import Derived.Test.YtolcmehndambmaaCalm
import Derived.Test.YtolcmehndambmaaClone
import Derived.Test.YtolcmehndambmaaOwnA
import Derived.Deep.RegionHeld3
set_option linter.unusedVariables false
set_option linter.unusedSimpArgs false
namespace Go.Proofs.Ytolcmehndambmaa
open Go.RowKit

/-! ### Interleaved lanes -/
def ilE (a b : List Int) (i : Nat) : Int := if i % 2 = 0 then el a (i / 2) else el b (i / 2)
def ilv (a b : List Int) : List Int := (List.range (2 * a.length)).map (ilE a b)
theorem ilv_length (a b : List Int) : (ilv a b).length = 2 * a.length := by simp [ilv]
theorem ilv_el (a b : List Int) {i : Nat} (h : i < 2 * a.length) : el (ilv a b) i = ilE a b i := el_range _ h
theorem el_takeJ {xs : List Int} {n k : Nat} (h : k < n) : el (xs.take n) k = el xs k := by
  unfold el; rw [List.getD_eq_getElem?_getD, List.getD_eq_getElem?_getD, List.getElem?_take_of_lt h]
theorem el_dropJ (xs : List Int) (n k : Nat) : el (xs.drop n) k = el xs (n + k) := by
  unfold el; rw [List.getD_eq_getElem?_getD, List.getD_eq_getElem?_getD, List.getElem?_drop]
theorem RdI.takeJ {w : World} {A : Option Addr} {xs : List Int} (h : RdI w A xs) (n : Nat) : RdI w A (xs.take n) := fun k hk => by
  have hk' : k < n ∧ k < xs.length := by rw [List.length_take] at hk; omega
  obtain ⟨b, off, e, hc⟩ := h k hk'.2
  refine ⟨b, off, e, ?_⟩
  show _ = some (Value.int .i64 (el _ k))
  rw [el_takeJ hk'.1]; exact hc
theorem RdI.dropJ {w : World} {b off : Nat} {xs : List Int} (h : RdI w (some ⟨b, off, none⟩) xs) (n : Nat) : RdI w (some ⟨b, off + n, none⟩) (xs.drop n) := fun k hk => by
  have hk' : n + k < xs.length := by rw [List.length_drop] at hk; omega
  obtain ⟨b', off', e, hc⟩ := h (n + k) hk'
  cases e
  refine ⟨b, off + n, rfl, ?_⟩
  show _ = some (Value.int .i64 (el _ k))
  rw [el_dropJ, Nat.add_assoc]; exact hc
theorem i_pick (is : Bool) (a b : Int) (w : World) : Calls Try.prog 119 #[.bool is, .int .i64 a, .int .i64 b] w fun e w' => e = .returned (.int .i64 (if is then a else b)) ∧ w = w' := by
  cases is
  all_goals
    go_enter Try.func119, Try.ntmps119
    go_wp2
    go_ret
    exact ⟨rfl, rfl⟩
set_option maxRecDepth 100000 in
theorem i_IL1 (W : World) (B D : Nat) (A A' : Option Addr) (c c' n k : Nat) (a b : List Int) (hk : k < 2 * n) (hn : n ≤ 16) (ha : a.length = n) (hb : b.length = n)
    (k1 : W.cell? ⟨B, 0, none⟩ = some (.slice A n c)) (k2 : W.cell? ⟨D, 0, none⟩ = some (.slice A' n c')) (hA : RdI W A a) (hB : RdI W A' b) :
    Calls Try.prog 118 #[.int .i64 (k : Nat), .pointer (some ⟨B, 0, none⟩), .pointer (some ⟨D, 0, none⟩)] W fun e w' => e = .returned (.int .i64 (ilE a b k)) ∧ Below W.heap.size W w' := by
  obtain ⟨b1, o1, rfl, h1⟩ := hA.get (k := k / 2) (by omega)
  obtain ⟨b2, o2, rfl, h2⟩ := hB.get (k := k / 2) (by omega)
  have l1 := lcell k1
  have l2 := lcell k2
  have l3 := lcell h1
  have l4 := lcell h2
  have hq : (k : Int) / 2 = ((k / 2 : Nat) : Int) := by omega
  have hqn : k / 2 < n := by omega
  have hqi : ((k / 2 : Nat) : Int) < (n : Int) := by omega
  have hk16 : k < 32 := by omega
  have HE : (ilE a b k = if (((k : Int) % 2) == 0) = true then el a (k / 2) else el b (k / 2)) := (by
    unfold ilE
    by_cases e : k % 2 = 0
    · rw [if_pos e, if_pos (by simp; omega)]
    · rw [if_neg e, if_neg (by simp; omega)])
  clear hA hB k1 k2 h1 h2 ha hb hk
  have CP : Hid (∀ W, Calls Try.prog 119 #[.bool (((k : Int) % 2) == 0), .int .i64 (el a (k / 2)), .int .i64 (el b (k / 2))] W fun e w' => e = .returned (.int .i64 (ilE a b k)) ∧ W = w') := hid (fun W => by rw [HE]; exact i_pick (((k : Int) % 2) == 0) (el a (k / 2)) (el b (k / 2)) W)
  clear HE
  generalize ilE a b k = r at *
  generalize el a (k / 2) = x at *
  generalize el b (k / 2) = y at *
  generalize k / 2 = q at *
  go_enter Try.func118, Try.ntmps118
  go_wp2_with fail
  refine wp_region_calm (by kernel_rfl) (by kernel_rfl) ?_
  repeat (go_big_quiet_step (exact calm_same (CP.out _)))
  refine wpQuiet_nil ?_
  intro _ hw'
  obtain ⟨xq, hw''⟩ := hw'
  subst hw''
  go_wp2
  go_ret
  exact ⟨rfl, xq.below⟩
theorem g_CloneM (W : World) (A : Option Addr) (c n : Nat) (xs : List Int) (hl : xs.length = n) (hn : n ≤ 1048576) (hr : RdI W A xs) :
    Calls Try.prog 75 #[.slice A n c] W fun e w' => ∃ A' c', e = .returned (.slice A' n c') ∧ OI w' W.heap.size w'.heap.size (.slice A' n c') xs ∧ Below W.heap.size W w' := by
  subst hl
  refine (g_Clone W A c xs (by omega) hr).mono fun e w' hq => ?_
  obtain ⟨v, rfl, ho, hb⟩ := hq
  obtain ⟨A', c', rfl, _, _, _⟩ := Own.int ho
  exact ⟨A', c', rfl, ho, hb⟩
set_option maxRecDepth 100000 in
theorem i_halves (w : World) (A : Option Addr) (c n m : Nat) (xs : List Int) (hm : m = 2 * n) (hl : xs.length = m) (hn : n ≤ 16) (h0 : 0 < n) (hc : m ≤ c) (hR : RdI w A xs) :
    Calls Try.prog 117 #[.slice A m c] w fun e w' => ∃ A1 c1 A2 c2, e = .returned (.tuple #[.slice A1 n c1, .slice A2 n c2]) ∧ OI w' w.heap.size w'.heap.size (.slice A1 n c1) (xs.take n) ∧ OI w' w.heap.size w'.heap.size (.slice A2 n c2) (xs.drop n) ∧ Below w.heap.size w w' := by
  obtain ⟨b, off, rfl, _⟩ := hR.get (k := 0) (by omega)
  have hmn : (m : Int) / 2 = (n : Int) := by omega
  have hnm : n ≤ m := by omega
  have hnc : n ≤ c := by omega
  have hmm : m - n = n := by omega
  have C1 := hid (g_CloneM w.drew (some ⟨b, off, none⟩) c n (xs.take n) (by simp; omega) (by omega) ((RdI.takeJ hR n).below (bdrewL w)))
  have C2 := hid (fun W (hW : Below w.heap.size w W) => g_CloneM W (some ⟨b, off + n, none⟩) (c - n) n (xs.drop n) (by simp; omega) (by omega) ((RdI.dropJ hR n).below hW))
  clear hR hl hm
  go_enter Try.func117, Try.ntmps117
  go_wp2_with fail
  go_region_held3 (fun W => True) (trivial)
    (first
      | (go_at_call 75; with_reducible refine C1.out.mono ?_; rintro e w1 ⟨A1, c1, rfl, ho1, hb1⟩; have HO1 := hid ho1; have HB1 := hid (bthen (bdrewL w) hb1); clear ho1)
      | (go_at_call 75; with_reducible refine (C2.out _ HB1.out).mono ?_; rintro e w2 ⟨A2, c2, rfl, ho2, hb2⟩; have HO2 := hid ho2))
  have hz1 := HB1.out.size
  have hz2 := hb2.size
  have O1 := hid (Own.wide (HO1.out.eqv (Eqv.of hb2 (Nat.le_refl _))) (Nat.le_refl _) hz2)
  have HB2 := hid (bthen HB1.out hb2)
  clear C1 C2 HO1
  go_wp2_with fail
  go_ret2
  exact ⟨_, _, _, _, rfl, O1.out, Own.wide HO2.out hz1 (Nat.le_refl _), HB2.out⟩
theorem two_rdJ (w : World) (A2 : Option Addr) (c2 : Nat) (xs : List Int) (A3 : Option Addr) (c3 : Nat) (ys : List Int) (hx : xs.length ≤ c2) (hy : ys.length ≤ c3) (h2 : RdI w A2 xs) (h3 : RdI w A3 ys) :
    RdR (w.alloc (.cells #[.slice A2 xs.length c2, .slice A3 ys.length c3] 29)) (some ⟨w.heap.size, 0, none⟩) [xs, ys] :=
  rdR_two (by simp) (by simp) hx hy (h2.below (ballocw w _)) (h3.below (ballocw w _))
theorem c_vecsJ (w : World) (b : Int) (A2 : Option Addr) (c2 : Nat) (xs : List Int) (A3 : Option Addr) (c3 : Nat) (ys : List Int) (hx : xs.length ≤ c2) (hy : ys.length ≤ c3) (hl2 : xs.length ≤ 1048576) (hl3 : ys.length ≤ 1048576) (h2 : RdI w A2 xs) (h3 : RdI w A3 ys) :
    Calls Try.prog 116 #[.int .i64 b, .slice (some ⟨w.heap.size, 0, none⟩) 2 2] (w.alloc (.cells #[.slice A2 xs.length c2, .slice A3 ys.length c3] 29))
      fun e w' => e = .returned (.bool (vecB b xs && (vecB b ys && decide (xs.length = ys.length)))) ∧ Below w.heap.size w w' := by
  have h := i_areVectors _ b (some ⟨w.heap.size, 0, none⟩) 2 [xs, ys] (by simp) (by simp; omega) (two_rdJ w A2 c2 xs A3 c3 ys hx hy h2 h3)
  rw [vecs_two] at h
  exact h.mono fun e w' ⟨he, hb⟩ => ⟨he, bthen (ballocw w _) hb⟩
set_option maxRecDepth 100000 in
theorem i_InterleaveLanes (w : World) (b : Int) (A A' : Option Addr) (c c' n : Nat) (xs ys : List Int) (hx : vecB b xs = true) (hy : vecB b ys = true) (hl : xs.length = n) (hl' : ys.length = n) (hn : n ≤ 16) (h0 : 0 < n) (hc : n ≤ c) (hc' : n ≤ c') (hR : RdI w A xs) (hR' : RdI w A' ys) :
    Calls Try.prog 51 #[.int .i64 b, .slice A n c, .slice A' n c'] w fun e w' => ∃ A1 c1 A2 c2, e = .returned (.tuple #[.slice A1 n c1, .slice A2 n c2, .bool true]) ∧ OI w' w.heap.size w'.heap.size (.slice A1 n c1) ((ilv xs ys).take n) ∧ OI w' w.heap.size w'.heap.size (.slice A2 n c2) ((ilv xs ys).drop n) ∧ Below w.heap.size w w' := by
  have hbB := balloc (ballocw w (.cells #[.slice A n c] 29)) (.cells #[.slice A' n c'] 29)
  have ka : ((w.alloc (.cells #[.slice A n c] 29)).alloc (.cells #[.slice A' n c'] 29)).cell? ⟨w.heap.size, 0, none⟩ = some (.slice A n c) := by simp
  have kb : ((w.alloc (.cells #[.slice A n c] 29)).alloc (.cells #[.slice A' n c'] 29)).cell? ⟨w.heap.size + 1, 0, none⟩ = some (.slice A' n c') := by simp
  have cv := c_vecsJ ((w.alloc (.cells #[.slice A n c] 29)).alloc (.cells #[.slice A' n c'] 29)) b A c xs A' c' ys (by omega) (by omega) (by omega) (by omega) (hR.below hbB) (hR'.below hbB)
  rw [hx, hy, hl, hl'] at cv
  simp only [decide_true, Bool.and_true] at cv
  have hsz : ((w.alloc (.cells #[.slice A n c] 29)).alloc (.cells #[.slice A' n c'] 29)).heap.size = w.heap.size + 2 := by simp
  rw [hsz] at cv
  have CV := hid cv
  have HBB := hid hbB
  have KA := hid ka
  have KB := hid kb
  have HL := hid hl
  have CLn : Hid (∀ W, Below w.heap.size w W → W.cell? ⟨w.heap.size, 0, none⟩ = some (.slice A n c) → W.cell? ⟨w.heap.size + 1, 0, none⟩ = some (.slice A' n c') →
      Calls Try.prog 59 #[.int .i64 (2 * (n : Int)), .func (.func 118) #[] #[.pointer (some ⟨w.heap.size, 0, none⟩), .pointer (some ⟨w.heap.size + 1, 0, none⟩)]] W fun e w' => ∃ A1 c1, e = .returned (.slice A1 (2 * n) c1) ∧ 2 * n ≤ c1 ∧ RdI w' A1 (ilv xs ys) ∧ Below W.heap.size W w') := hid fun W hW k1 k2 => by
    have h := i_lanesOf W (2 * n) 118 #[.pointer (some ⟨w.heap.size, 0, none⟩), .pointer (some ⟨w.heap.size + 1, 0, none⟩)] (ilE xs ys) (by omega) (enters_of Try.func118 (by kernel_rfl) rfl)
      (fun V hV k hk => i_IL1 V w.heap.size (w.heap.size + 1) A A' c c' n k xs ys hk hn hl hl' (bcell hV k1) (bcell hV k2) ((hR.below hW).below hV) ((hR'.below hW).below hV))
    have e : (List.range (2 * n)).map (ilE xs ys) = ilv xs ys := by unfold ilv; rw [hl]
    rw [e] at h
    rw [show ((2 * n : Nat) : Int) = 2 * (n : Int) from by omega] at h
    refine h.mono fun en w' hq => ?_
    obtain ⟨v, rfl, ho, hb⟩ := hq
    obtain ⟨A1, c1, rfl, h1, _, hr⟩ := Own.int ho
    rw [ilv_length, hl] at h1 ⊢
    exact ⟨A1, c1, rfl, h1, hr, hb⟩
  have CH := hid (fun W A1 c1 (hc1 : 2 * n ≤ c1) (hr : RdI W A1 (ilv xs ys)) => i_halves W A1 c1 n (2 * n) (ilv xs ys) rfl (by rw [ilv_length, hl]) hn h0 hc1 hr)
  clear cv ka kb hbB hR hR' hl hl' hx hy
  generalize (ilv xs ys).take n = lo at *
  generalize (ilv xs ys).drop n = hi at *
  generalize ilv xs ys = zs at *
  go_enter Try.func51, Try.ntmps51
  go_wp2_with fail
  refine CV.out.mono ?_
  generalize (w.alloc (.cells #[.slice A n c] 29)).alloc (.cells #[.slice A' n c'] 29) = V at *
  rintro e w1 ⟨rfl, hb1⟩
  rw [← hsz] at hb1
  have k1 := bcell hb1 KA.out
  have k2 := bcell hb1 KB.out
  have HB1 := hid (bthen HBB.out hb1)
  have CL1 := hid (CLn.out _ HB1.out k1 k2)
  clear CV CLn KA KB HBB hb1
  go_wp2_with fail
  refine CL1.out.mono ?_
  rintro e w2 ⟨A1, c1, rfl, hc1, hr2, hb2⟩
  have CH2 := hid (CH.out w2 A1 c1 hc1 hr2)
  have HB2 := hid (bthen HB1.out hb2)
  clear CL1 CH hr2
  go_wp2_with fail
  refine CH2.out.mono ?_
  rintro e w3 ⟨A2, c2, A3, c3, rfl, ho2, ho3, hb3⟩
  have hz2 := HB2.out.size
  go_wp2_with fail
  go_ret3
  exact ⟨_, _, _, _, rfl, Own.wide ho2 hz2 (Nat.le_refl _), Own.wide ho3 hz2 (Nat.le_refl _), bthen HB2.out hb3⟩
end Go.Proofs.Ytolcmehndambmaa
