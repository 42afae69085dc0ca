import Derived.Test.YtolcmehndambmaaRtd2
import Derived.Test.YtolcmehndambmaaNrun2
import Derived.Test.YtolcmehndambmaaShfl
import Derived.Test.YtolcmehndambmaaShuf
import Derived.Test.YtolcmehndambmaaLawO
import Derived.Test.YtolcmehndambmaaSwp
import Derived.Test.YtolcmehndambmaaCalm
import Derived.Test.YtolcmehndambmaaSrc2
import Derived.Test.YtolcmehndambmaaRwsB
import Derived.Test.YtolcmehndambmaaNet3
import Derived.BigRegion
import Derived.Test.YtolcmehndambmaaShuf2
import Derived.Test.YtolcmehndambmaaBase
import Derived.WalkKit
import Derived.ProofKit
import Derived.OpenShut
import Derived.Test.YtolcmehndambmaaSrc
import Derived.Test.YtolcmehndambmaaRows
import Derived.ShutString
import Derived.ChangeOld
import Derived.Below
set_option linter.unusedVariables false
set_option linter.unusedSimpArgs false
namespace Go.Proofs.Ytolcmehndambmaa
open Go.RowKit

/-! ### FnRouted: plain lists -/
/-- A network of n = 2 to the power of d + 1 lanes. -/
structure NetW (n d : Nat) (X : List (List Int)) : Prop where
  n2 : n = 2 ^ (d + 1)
  d3 : d ≤ 3
  len : X.length = 2 * d + 1
  row : ∀ s, s < 2 * d + 1 → (rw_ X s).length = n / 2
  bit : ∀ s, s < 2 * d + 1 → ∀ p, p < n / 2 → el (rw_ X s) p = 0 ∨ el (rw_ X s) p = 1
theorem NetW.n4 {n d : Nat} {X : List (List Int)} (h : NetW n d X) : n = 2 ∨ n = 4 ∨ n = 8 ∨ n = 16 := by
  have := h.n2
  have := h.d3
  rcases (show d = 0 ∨ d = 1 ∨ d = 2 ∨ d = 3 by omega) with rfl | rfl | rfl | rfl <;> simp at * <;> omega
theorem NetW.dep {n d : Nat} {X : List (List Int)} (h : NetW n d X) : dep (n : Int) = ((d + 1 : Nat) : Int) := by
  have h1 := h.n2
  have := h.d3
  rcases (show d = 0 ∨ d = 1 ∨ d = 2 ∨ d = 3 by omega) with rfl | rfl | rfl | rfl <;> rw [h1] <;> decide
theorem NetW.lanes {n d : Nat} {X : List (List Int)} (h : NetW n d X) : lanesB (n : Int) = true := by
  rcases h.n4 with rfl | rfl | rfl | rfl <;> decide
theorem NetW.netB {n d : Nat} {X : List (List Int)} (h : NetW n d X) : netB n X = true := by
  simp only [Go.Proofs.Ytolcmehndambmaa.netB, Bool.and_eq_true, decide_eq_true_iff]
  refine ⟨h.lanes, ?_, ?_⟩
  · rw [h.dep, h.len]; omega
  · rw [List.all_eq_true]
    intro r hr
    obtain ⟨k, hk, rfl⟩ := List.getElem_of_mem hr
    have e := rw_get hk
    rw [List.getElem?_eq_getElem hk] at e
    rw [Option.some.inj e]
    have hk' : k < 2 * d + 1 := by rw [← h.len]; exact hk
    have hl := h.row k hk'
    simp only [swB, Bool.and_eq_true, decide_eq_true_iff]
    refine ⟨by omega, ?_⟩
    rw [List.all_eq_true]
    intro x hx
    obtain ⟨j, hj, rfl⟩ := List.getElem_of_mem hx
    have e2 := el_get hj
    rw [List.getElem?_eq_getElem hj] at e2
    rw [Option.some.inj e2]
    have := h.bit k hk' j (by omega)
    rcases this with q | q <;> rw [q] <;> decide
theorem NetW.rsz {n d : Nat} {X : List (List Int)} (h : NetW n d X) : rsz X ≤ 1048576 := by
  have hn := h.n4
  have := rsz_le (xss := X) (n := 7) (m := 8) (by rw [h.len]; have := h.d3; omega) (fun k hk => by rw [h.len] at hk; rw [h.row k hk]; omega)
  exact Nat.le_trans this (by decide)
theorem NetW.run {n d : Nat} {X : List (List Int)} (h : NetW n d X) {b : Int} {a : List Int} (ha : a.length = n) (hv : vecB b a = true) :
    ∃ o, m_RunNetwork b X a = (o, true) ∧ o.length = n ∧ ∀ i, i < n → el o i = el a (posN X (d + 1) (2 * d + 1) i) := by
  have hS : StO n (d + 1) (2 * d + 1) := StO.of (by omega) (by have := h.d3; omega) h.n2 (by omega)
  refine ⟨netN X (d + 1) n (2 * d + 1) a, ?_, by rw [netN_length, ha], fun i hi => netN_pos hS ha _ (Nat.le_refl _) i hi⟩
  unfold m_RunNetwork
  rw [hv, ha, h.netB, h.dep, h.len]
  rfl
theorem rt_bit : ∀ d, ∀ g : List Int, Prm g (2 ^ (d + 1)) → ∀ s, s < 2 * d + 1 → ∀ p, p < 2 ^ d → el (rw_ (rtN d g) s) p = 0 ∨ el (rw_ (rtN d g) s) p = 1 := by
  intro d
  induction d with
  | zero =>
    intro g hp s hs p hpp
    obtain rfl : s = 0 := by omega
    obtain rfl : p = 0 := by simpa using hpp
    have := hp.bel (i := 0) (by decide)
    show el [el g 0] 0 = 0 ∨ el [el g 0] 0 = 1
    show el g 0 = 0 ∨ el g 0 = 1
    have h2 : ((2 ^ (0 + 1) : Nat) : Int) = 2 := by decide
    omega
  | succ d ih =>
    intro g hp s hs p hpp
    obtain ⟨h, hh⟩ : ∃ h, h = 2 ^ (d + 1) := ⟨_, rfl⟩
    have hn : 2 ^ (d + 1 + 1) = 2 * h := by rw [hh, Nat.pow_succ]; omega
    rw [hn] at hp
    rw [← hh] at hpp
    have hgl : g.length / 2 = h := by rw [hp.len]; omega
    have hC := sdN_spec hp
    obtain ⟨e0, eL, eM⟩ := rt_rows d g h hgl
    by_cases q0 : s = 0
    · subst q0
      rw [e0, goN_take hp rfl hpp]
      exact hC.bit _ (hp.inv_ (k := p) (by omega)).1
    · by_cases qL : s = 2 * d + 2
      · subst qL
        rw [eL, el_takeI hpp]
        exact hC.bit p (by omega)
      · obtain ⟨t, rfl⟩ : ∃ t, s = t + 1 := ⟨s - 1, by omega⟩
        rw [eM t (by omega)]
        have hl := rtN_rw (d := d) (g := sbN g (sdN g) h 0) (s := t) (by rw [sbN_length, hh]) (by omega)
        have h2d : h = 2 ^ d + 2 ^ d := by rw [hh, Nat.pow_succ]; omega
        by_cases qp : p < 2 ^ d
        · rw [el_app1 (by omega)]
          exact ih _ (hh ▸ sbN_prm hp hC 0 (.inl rfl)) t (by omega) p qp
        · rw [show p = 2 ^ d + (p - 2 ^ d) from by omega, el_app2 hl]
          exact ih _ (hh ▸ sbN_prm hp hC 1 (.inr rfl)) t (by omega) _ (by omega)
theorem rt_net {g : List Int} {n : Nat} (h : orderB g = true) (hl : g.length = n) : ∃ d, m_RouteNetwork g = (rtN d g, true) ∧ NetW n d (rtN d g) ∧ Prm g n := by
  obtain ⟨hp, hgl, hd, h16⟩ := order_prm h
  rw [hl] at hp hgl hd
  refine ⟨dOf n, ?_, ⟨hgl, hd, rtN_length _ _, fun s hs => ?_, fun s hs p hpp => ?_⟩, hp⟩
  · unfold m_RouteNetwork; rw [h, hl]; rfl
  · rw [rtN_rw (by rw [hl]; exact hgl) hs]
    have e : 2 ^ (dOf n + 1) = 2 * 2 ^ dOf n := by rw [Nat.pow_succ]; omega
    omega
  · refine rt_bit _ g (by rw [← hgl]; exact hp) s hs p ?_
    have e : 2 ^ (dOf n + 1) = 2 * 2 ^ dOf n := by rw [Nat.pow_succ]; omega
    omega
/-- The routed network does what its goal does. -/
theorem rt_run {g a : List Int} {n d : Nat} {b : Int} (hW : NetW n d (rtN d g)) (hp : Prm g n) (ha : a.length = n) (hv : vecB b a = true) : m_RunNetwork b (rtN d g) a = (pick a g, true) := by
  obtain ⟨o, e, hl, he⟩ := hW.run ha hv
  rw [e]
  congr 1
  apply el_ext
  · rw [hl, pick_length, hp.len]
  · intro k hk
    rw [hl] at hk
    rw [he k hk, rt_pos d hW.d3 g (by rw [← hW.n2]; exact hp) k (by rw [← hW.n2]; exact hk), pick_el (by rw [hp.len]; exact hk)]
    rfl
/-- Another switch. -/
def bendN (X : List (List Int)) (k p : Nat) : List (List Int) := X.set k ((rw_ X k).set p (1 - el (rw_ X k) p))
theorem bend_row {X : List (List Int)} {k p : Nat} (hk : k < X.length) (s : Nat) : rw_ (bendN X k p) s = if s = k then (rw_ X k).set p (1 - el (rw_ X k) p) else rw_ X s := by
  unfold bendN rw_
  rw [List.getD_eq_getElem?_getD, List.getElem?_set]
  by_cases e : s = k
  · subst e; rw [if_pos rfl, if_pos hk, if_pos rfl]; rfl
  · rw [if_neg (fun q => e q.symm), if_neg e, List.getD_eq_getElem?_getD]
theorem bend_net {n d k p : Nat} {X : List (List Int)} (h : NetW n d X) (hk : k < 2 * d + 1) (hp : p < n / 2) : NetW n d (bendN X k p) := by
  have hkl : k < X.length := by rw [h.len]; exact hk
  refine ⟨h.n2, h.d3, by unfold bendN; rw [List.length_set]; exact h.len, fun s hs => ?_, fun s hs q hq => ?_⟩
  · rw [bend_row hkl]
    split
    · rw [List.length_set]; exact h.row k hk
    · exact h.row s hs
  · rw [bend_row hkl]
    split
    · rw [el_set _ (by rw [h.row k hk]; exact hp)]
      have := h.bit k hk p hp
      split
      · omega
      · exact h.bit k hk q hq
    · exact h.bit s hs q hq
theorem bend_run {g : List Int} {n d k p : Nat} (hW : NetW n d (rtN d g)) (hp : Prm g n) (hk : k < 2 * d + 1) (hpp : p < n / 2) :
    ∃ o, m_RunNetwork 8 (bendN (rtN d g) k p) (idl n) = (o, true) ∧ o.length = n ∧ orderB o = true ∧ o ≠ g := by
  have hB := bend_net hW hk hpp
  have hS : StO n (d + 1) (2 * d + 1) := StO.of (by omega) (by have := hW.d3; omega) hW.n2 (by omega)
  have hv : vecB 8 (idl n) = true := by
    rcases hW.n4 with rfl | rfl | rfl | rfl <;> decide
  obtain ⟨o, e, hl, he⟩ := hB.run (idl_length n) hv
  have hid : ∀ i, i < n → el (idl n) i = i := fun i hi => by unfold idl; exact el_range (fun k : Nat => (k : Int)) hi
  have heo : ∀ i, i < n → el o i = ((posN (bendN (rtN d g) k p) (d + 1) (2 * d + 1) i : Nat) : Int) := fun i hi => by
    rw [he i hi, hid _ (posN_lt hS _ (Nat.le_refl _) i hi)]
  have honto : ∀ j, j < n → ∃ i, i < n ∧ posN (bendN (rtN d g) k p) (d + 1) (2 * d + 1) i = j := fun j hj => by
    obtain ⟨i, hi, q⟩ := bckN_onto (xss := bendN (rtN d g) k p) hS 0 (2 * d + 1) (by omega) j hj
    refine ⟨i, hi, ?_⟩
    have := posN_split (bendN (rtN d g) k p) (d + 1) 0 (2 * d + 1) i
    rw [Nat.zero_add] at this
    rw [this]; exact q
  have hO : OrdP o n := ⟨hl, fun j hj => by
    obtain ⟨i, hi, q⟩ := honto j hj
    rw [← q, ← heo i hi]
    exact el_mem (by rw [hl]; exact hi)⟩
  refine ⟨o, e, hl, ord_orderB hO hW.lanes, fun q => ?_⟩
  have hkl : k < (rtN d g).length := by rw [hW.len]; exact hk
  obtain ⟨i, hi, hne⟩ := bent_ne (xss := rtN d g) (yss := bendN (rtN d g) k p) hS hk hpp (fun j hj => by rw [bend_row hkl, if_neg hj]) (by
    rw [bend_row hkl, if_pos rfl, el_set_same (by rw [hW.row k hk]; exact hpp)]
    have := hW.bit k hk p hpp
    omega)
  apply hne
  have h1 := heo i hi
  rw [q, (hp.lt hi).2] at h1
  rw [rt_pos d hW.d3 g (by rw [← hW.n2]; exact hp) i (by rw [← hW.n2]; exact hi)]
  omega
end Go.Proofs.Ytolcmehndambmaa
set_option linter.unusedVariables false
set_option linter.unusedSimpArgs false
namespace Go.Proofs.Ytolcmehndambmaa
open Go.RowKit

theorem box3 (w : World) (a b c : Value) (t : TypeId) : (((w.alloc (.cells #[a] t)).alloc (.cells #[b] t)).alloc (.cells #[c] t)).cell? ⟨w.heap.size, 0, none⟩ = some a ∧ (((w.alloc (.cells #[a] t)).alloc (.cells #[b] t)).alloc (.cells #[c] t)).cell? ⟨w.heap.size + 1, 0, none⟩ = some b ∧
    (((w.alloc (.cells #[a] t)).alloc (.cells #[b] t)).alloc (.cells #[c] t)).cell? ⟨w.heap.size + 1 + 1, 0, none⟩ = some c := by
  have s1 : (w.alloc (.cells #[a] t)).heap.size = w.heap.size + 1 := by simp
  have s2 : ((w.alloc (.cells #[a] t)).alloc (.cells #[b] t)).heap.size = w.heap.size + 1 + 1 := by simp
  have n1 := cell_of_row _ _ 0 _ _ _ (heap_alloc_new w (.cells #[a] t))
  have n2 := cell_of_row _ _ 0 _ _ _ (heap_alloc_new (w.alloc (.cells #[a] t)) (.cells #[b] t))
  have n3 := cell_of_row _ _ 0 _ _ _ (heap_alloc_new ((w.alloc (.cells #[a] t)).alloc (.cells #[b] t)) (.cells #[c] t))
  rw [s1] at n2
  rw [s2] at n3
  exact ⟨bcell (ballocw _ _) (bcell (ballocw _ _) n1), bcell (ballocw _ _) n2, n3⟩
theorem wrap8_all : ∀ k : Nat, k < 16 → bits .and .i64 ((k : Nat) : Int) 255 = ((k : Nat) : Int) := by decide
theorem i_wrap8 (k : Nat) (hk : k < 16) (W : World) : Calls Try.prog 87 #[.int .i64 8, .int .i64 (k : Nat)] W fun e w' => e = .returned (.int .i64 (k : Nat)) ∧ W = w' := by
  have hb := wrap8_all k hk
  go_enter Try.func87, Try.ntmps87
  go_wp2
  go_ret
  exact ⟨rfl, rfl⟩
theorem i_Ramp1 (W : World) (B C D k : Nat) (hk : k < 16) (k1 : W.cell? ⟨B, 0, none⟩ = some (.int .i64 8)) (k2 : W.cell? ⟨C, 0, none⟩ = some (.int .i64 0)) (k3 : W.cell? ⟨D, 0, none⟩ = some (.int .i64 1)) :
    Calls Try.prog 86 #[.int .i64 (k : Nat), .pointer (some ⟨B, 0, none⟩), .pointer (some ⟨C, 0, none⟩), .pointer (some ⟨D, 0, none⟩)] W fun e w' => e = .returned (.int .i64 (k : Nat)) ∧ Below W.heap.size W w' := by
  have c0 := hid (i_wrap8 k hk)
  go_enter Try.func86, Try.ntmps86
  go_wp2_with fail
  refine (c0.out _).mono ?_
  rintro e w' ⟨rfl, rfl⟩
  go_wp2_with fail
  go_ret
  exact ⟨rfl, Below.refl _ _⟩
set_option maxRecDepth 100000 in
theorem i_Ramp8 (w : World) (n : Nat) (hn : lanesB (n : Int) = true) : Calls Try.prog 33 #[.int .i64 8, .int .i64 (n : Nat), .int .i64 0, .int .i64 1] w (RetIB w (idl n, true)) := by
  have hn16 : n ≤ 16 := by have := lanesB_or hn; omega
  have C0 := hid (fun W => i_IsWord 8 0 W)
  have C1 := hid (fun W => i_IsWord 8 1 W)
  have C2 := hid (fun W => i_isLanes (n : Int) W)
  rw [show wordB 8 0 = true from by decide] at C0
  rw [show wordB 8 1 = true from by decide] at C1
  rw [hn] at C2
  have hb := balloc (balloc (ballocw w (.cells #[.int .i64 8] 2)) (.cells #[.int .i64 0] 2)) (.cells #[.int .i64 1] 2)
  obtain ⟨k1, k2, k3⟩ := box3 w (.int .i64 8) (.int .i64 0) (.int .i64 1) 2
  have HB := hid hb
  have CL : Hid (∀ W, W.cell? ⟨w.heap.size, 0, none⟩ = some (.int .i64 8) → W.cell? ⟨w.heap.size + 1, 0, none⟩ = some (.int .i64 0) → W.cell? ⟨w.heap.size + 1 + 1, 0, none⟩ = some (.int .i64 1) →
      Calls Try.prog 59 #[.int .i64 (n : Nat), .func (.func 86) #[] #[.pointer (some ⟨w.heap.size, 0, none⟩), .pointer (some ⟨w.heap.size + 1, 0, none⟩), .pointer (some ⟨w.heap.size + 1 + 1, 0, none⟩)]] W (RetI W 2 (idl n))) := hid fun W h1 h2 h3 =>
    i_lanesOf W n 86 #[.pointer (some ⟨w.heap.size, 0, none⟩), .pointer (some ⟨w.heap.size + 1, 0, none⟩), .pointer (some ⟨w.heap.size + 1 + 1, 0, none⟩)] (fun k => (k : Int)) (by omega) (enters_of Try.func86 (by kernel_rfl) rfl)
      (fun V hV k hk => i_Ramp1 V w.heap.size (w.heap.size + 1) (w.heap.size + 1 + 1) k (by omega) (bcell hV h1) (bcell hV h2) (bcell hV h3))
  have K1 := hid k1
  have K2 := hid k2
  have K3 := hid k3
  clear hb k1 k2 k3 hn
  generalize idl n = r at *
  go_enter Try.func33, Try.ntmps33
  go_wp2_with fail
  refine (C0.out _).mono ?_
  generalize ((w.alloc (.cells #[.int .i64 8] 2)).alloc (.cells #[.int .i64 0] 2)).alloc (.cells #[.int .i64 1] 2) = V at *
  rintro e w' ⟨rfl, rfl⟩
  have k1 := K1.out
  have k3 := K3.out
  go_wp2_with fail
  refine (C1.out _).mono ?_
  rintro e w' ⟨rfl, rfl⟩
  go_wp2_with fail
  refine (C2.out _).mono ?_
  rintro e w' ⟨rfl, rfl⟩
  go_wp2_with fail
  refine (CL.out _ K1.out K2.out K3.out).mono ?_
  rintro e w2 ⟨v2, rfl, ho2, hb2⟩
  go_wp2_with fail
  go_ret2
  exact ⟨_, rfl, Own.wide ho2 HB.out.size (Nat.le_refl _), bthen HB.out hb2⟩
end Go.Proofs.Ytolcmehndambmaa
set_option linter.unusedVariables false
set_option linter.unusedSimpArgs false
namespace Go.Proofs.Ytolcmehndambmaa
open Go.RowKit

set_option maxRecDepth 100000 in
theorem l_r8At (w : World) (A : Option Addr) (c : Nat) (bs : List Int) (k n : Int) (hl : bs.length ≤ 1048576) (hk0 : 0 ≤ k) (hk : k ≤ 1048576) (hn : 0 ≤ n) (hn2 : n ≤ 1048576) (hR : RdU w A bs) :
    Calls Try.prog 14 #[.slice A bs.length c, .int .i64 k, .int .i64 n] w fun e w' => ∃ z, e = .returned (.int .i64 z) ∧ (0 ≤ z ∧ (1 ≤ n → z < n)) ∧ w = w' := by
  by_cases h1 : n ≤ 1
  · clear hR
    go_enter Try.func14, Try.ntmps14
    go_wp2
    go_ret
    exact ⟨0, rfl, ⟨by omega, by omega⟩, rfl⟩
  · by_cases h2 : k < (bs.length : Int)
    · obtain ⟨j, rfl⟩ : ∃ j : Nat, k = j := ⟨k.toNat, by omega⟩
      obtain ⟨b, off, rfl, hc⟩ := hR.get (k := j) (by omega)
      have hb := hR.2 j (by omega)
      obtain ⟨hb0, hb1⟩ := hb
      clear hR
      generalize el bs j = x at *
      have ht := tmod_range (x := x) (n := n) hb0 (by omega)
      have HT := hid ht
      have hle : ¬ ((bs.length : Int) ≤ (j : Int)) := by omega
      clear ht
      go_enter Try.func14, Try.ntmps14
      go_wp2
      go_ret
      exact ⟨_, rfl, ⟨Int.emod_nonneg _ (by omega), fun _ => Int.emod_lt_of_pos _ (by omega)⟩, rfl⟩
    · clear hR
      have hle : (bs.length : Int) ≤ k := by omega
      go_enter Try.func14, Try.ntmps14
      go_wp2
      go_ret
      exact ⟨0, rfl, ⟨by omega, by omega⟩, rfl⟩
end Go.Proofs.Ytolcmehndambmaa
set_option linter.unusedVariables false
set_option linter.unusedSimpArgs false
namespace Go.Proofs.Ytolcmehndambmaa
open Go.RowKit

/-- A number of a row of one's own rows is set. -/
theorem OR.put {w : World} {lo hi n c : Nat} {A : Option Addr} {X : List (List Int)} (h : OR w lo hi (.slice A n c) X) {k p : Nat} (hk : k < X.length) (hp : p < (rw_ X k).length) :
    ∃ b g cr, A = some ⟨b, 0, none⟩ ∧ w.cell? ⟨b, k, none⟩ = some (.slice (some ⟨g, 0, none⟩) (rw_ X k).length cr) ∧ lo ≤ g ∧ g < hi ∧ w.cell? ⟨g, p, none⟩ = some (.int .i64 (el (rw_ X k) p)) ∧ w.frozen? ⟨g, p, none⟩ = false ∧
      ∀ x, OR (w.setCell ⟨g, p, none⟩ (.int .i64 x)) lo hi (.slice A n c) (X.set k ((rw_ X k).set p x)) := by
  obtain ⟨f, h1, h2, h3, h4⟩ := h
  obtain ⟨A', c', e, _, _, hs⟩ := h1.shape
  cases e
  rcases hs with ⟨_, h0⟩ | ⟨b, rfl, hb1, hb2, hcell, _⟩
  · omega
  have hrow := h2 k hk
  obtain ⟨Ar, cr, er, _, _, hsr⟩ := Own.shape hrow
  rcases hsr with ⟨_, h0⟩ | ⟨g, hg, hg1, hg2, hgc, hgf⟩
  · omega
  subst hg
  have hck := hcell k (f k) (by simp [hk])
  rw [er] at hck
  refine ⟨b, g, cr, rfl, hck, hg1, hg2, hgc p _ (ints_get hp), hgf p, fun x => ?_⟩
  have hfk : (f k).ownBlock = some g := by rw [er]; rfl
  have hkeep : ∀ j, j ≠ g → (w.setCell ⟨g, p, none⟩ (.int .i64 x)).heap[j]? = w.heap[j]? := fun j hj => Below.heap_setCell _ _ _ _ hj
  have hlen : (X.set k ((rw_ X k).set p x)).length = X.length := by simp
  have hrw : ∀ j, rw_ (X.set k ((rw_ X k).set p x)) j = if j = k then (rw_ X k).set p x else rw_ X j := fun j => by
    unfold rw_
    rw [List.getD_eq_getElem?_getD, List.getElem?_set]
    by_cases e : j = k
    · subst e; rw [if_pos rfl, if_pos hk, if_pos rfl]; rfl
    · rw [if_neg (fun q => e q.symm), if_neg e, List.getD_eq_getElem?_getD]
  refine ⟨f, ?_, fun j hj => ?_, fun i j a d hij hj ha hd => h3 i j a d hij (by rw [hlen] at hj; exact hj) ha hd, fun j a d hj ha hd => h4 j a d (by rw [hlen] at hj; exact hj) ha hd⟩
  · rw [hlen]
    exact own_blk h1 fun j hj => hkeep j fun q => h4 k j g hk hj hfk q
  · rw [hlen] at hj
    rw [hrw]
    by_cases e : j = k
    · subst e
      rw [if_pos rfl]
      have ho : OwnI w lo hi 2 (.slice (some ⟨g, 0, none⟩) (rw_ X j).length cr) (rw_ X j) := by rw [← er]; exact hrow
      have := Own.set ho p (.int .i64 x)
      rw [ints_set] at this
      rw [er]
      unfold OI OwnI
      rw [List.length_set]
      exact this
    · rw [if_neg e]
      refine own_blk (h2 j hj) fun a ha => hkeep a fun q => ?_
      rcases Nat.lt_or_ge j k with r | r
      · exact h3 j k a g r hk ha hfk q
      · exact h3 k j g a (by omega) hj hfk ha q.symm
/-- append([]int64{}, row...). -/
theorem wp_appendE {ops : Array Oper} {rest : List Oper} {o : Oper} {a : Act} {Q : Exit → Act → World → Prop} {W : World} (lo : Nat) (hgd : o.guard = none) (s x : Operand)
    (ho : o.op = .call { callee := .builtin .append, args := #[s, x], argTypes := #[29, 29] })
    (v : Value) (A : Option Addr) (c q : Nat) (ys : List Int) (hq : ys.length = q) (hs : a.eval s = v) (hx : a.eval x = .slice A q c)
    (HO : Own W lo W.heap.size 2 1 v 0 []) (hR : RdI W A ys) (hlo : lo ≤ W.heap.size) (hl : q ≤ 1048576)
    (h : ∀ A1 c1 w1, OI w1 lo w1.heap.size (.slice A1 q c1) ys → Below lo W w1 → wpList Try.prog ops Q rest (a.put o.dst (.slice A1 q c1)) w1) :
    wpList Try.prog ops Q (o :: rest) a W := by
  subst hq
  refine wp_appendS lo hgd s x 29 2 (.int .i64 0) 8 ho Try.underlying29 infoInt rfl v 0 [] A c ys hs hx HO hR hlo (by omega) (by omega) ?_
  intro v1 w1 hown hb
  have ho : OwnI w1 lo w1.heap.size 2 v1 ys := by
    unfold OwnI
    simpa using hown
  obtain ⟨A1, c1, rfl, _, _, _⟩ := Own.int ho
  exact h A1 c1 w1 ho hb
end Go.Proofs.Ytolcmehndambmaa
set_option linter.unusedVariables false
set_option linter.unusedSimpArgs false
namespace Go.Proofs.Ytolcmehndambmaa
open Go.RowKit

theorem take_rw {X : List (List Int)} {k : Nat} (hk : k < X.length) : X.take (k + 1) = X.take k ++ [rw_ X k] := by
  rw [List.take_add_one, rw_get hk]; rfl
set_option maxRecDepth 100000 in
set_option maxHeartbeats 20000000 in
theorem law_Routed (w : World) (A0 : Option Addr) (c0 : Nat) (xs0 : List Int) (A1 : Option Addr) (c1 : Nat) (xs1 : List Int) (hl0 : xs0.length ≤ 9223372036854775807) (hR0 : RdU w A0 xs0) (hl1 : xs1.length ≤ 9223372036854775807) (hR1 : RdU w A1 xs1) :
    Calls Try.prog 5 #[.slice A0 xs0.length c0, .slice A1 xs1.length c1] w fun e w' => e = .returned (.bool true) ∧ Below w.heap.size w w' := by
  have CL := hid (l_r8Long w A0 A1 xs0.length c0 xs1.length c1 hl0 hl1)
  cases hlong : (decide (48 < xs0.length) || decide (48 < xs1.length)) with
  | true =>
    rw [hlong] at CL
    clear hlong hR0 hR1
    go_enter Try.func5, Try.ntmps5
    go_wp2_with fail
    refine CL.out.mono ?_
    rintro e w1 ⟨rfl, rfl⟩
    go_wp2_with fail
    go_ret
    exact ⟨rfl, Below.refl _ _⟩
  | false =>
    rw [hlong] at CL
    have hs0 : xs0.length ≤ 48 := by simp at hlong; omega
    have hs1 : xs1.length ≤ 48 := by simp at hlong; omega
    have HU0 := hid hR0
    have HU1 := hid hR1
    clear hlong hR0 hR1 hl0 hl1
    go_enter Try.func5, Try.ntmps5
    go_wp2_with fail
    refine CL.out.mono ?_
    rintro e w0 ⟨rfl, rfl⟩
    clear CL
    have BW := hid (Below.refl w.heap.size w)
    have CC := hid (s_R8Bits w A0 c0 xs0 (by omega) (HU0.out.below BW.out))
    go_wp2_with fail
    refine CC.out.mono ?_
    rintro e w1 ⟨b, rfl, hb0, hb⟩
    clear CC
    have HBI := hid hb0
    clear hb0
    replace BW := hid (bthen BW.out hb)
    clear hb
    have CC := hid (s_R8Lanes w1 A1 c1 xs1 (by omega) (HU1.out.below BW.out))
    go_wp2_with fail
    refine CC.out.mono ?_
    rintro e w2 ⟨lz, rfl, hn0, hb⟩
    clear CC
    replace BW := hid (bthen BW.out hb)
    clear hb
    obtain ⟨n, hnz⟩ : ∃ n : Nat, lz = n := ⟨lz.toNat, by have := lanesB_or hn0; omega⟩
    subst hnz
    have HN := hid hn0
    have hn : n = 2 ∨ n = 4 ∨ n = 8 ∨ n = 16 := by have := lanesB_or hn0; omega
    obtain ⟨q, hqn⟩ : ∃ q, n = 2 * q := ⟨n / 2, by omega⟩
    have hnq : (n : Int) / 2 = (q : Int) := by omega
    have hn16 : n ≤ 16 := by omega
    have hn2 : 2 ≤ n := by omega
    have hq1 : 1 ≤ q := by omega
    have hq8 : q ≤ 8 := by omega
    have HQ := hid hqn
    have HNN := hid hn
    clear hn hn0 hqn
    have CC := hid (s_R8Vector w2 A0 c0 xs0 b n HBI.out (by omega) (by omega) (HU0.out.below BW.out))
    go_wp2_with fail
    refine CC.out.mono ?_
    rintro e w3 ⟨v, a, rfl, ⟨hal, haw⟩, ho, hb⟩
    clear CC
    replace BW := hid (bthen BW.out hb)
    clear hb
    have hav := vecB_of hal HN.out HBI.out haw
    obtain ⟨Aa, ca, rfl, hca, _, ra⟩ := OI.shp ho
    rw [hal] at hca
    rw [hal]
    have Ra := hid ra
    clear ra ho
    have HAL := hid hal
    have HAV := hid hav
    clear hal haw hav
    have CC := hid (s_R8Order w3 A1 c1 xs1 n HNN.out (by omega) (HU1.out.below BW.out))
    go_wp2_with fail
    refine CC.out.mono ?_
    rintro e w4 ⟨v, g, rfl, h1, ho, hb⟩
    clear CC
    replace BW := hid (bthen BW.out hb)
    replace Ra := hid (Ra.out.below hb)
    clear hb
    have HGL := hid h1.1
    have HGO := hid (ord_orderB h1 HN.out)
    have HGS := hid (h1.shuf HN.out)
    clear h1
    obtain ⟨Ag, cg, rfl, hcg, _, rg⟩ := OI.shp ho
    rw [HGL.out] at hcg
    rw [HGL.out]
    have Rg := hid rg
    clear rg ho
    obtain ⟨d, hX1, hX2, hX3⟩ := rt_net HGO.out HGL.out
    have HX := hid hX2
    have HP := hid hX3
    have HLX : Hid ((rtN d g).length = 2 * d + 1) := hid hX2.len
    have hd7 : 2 * d + 1 ≤ 7 := by have := hX2.d3; omega
    have HRUN : Hid (m_RunNetwork b (rtN d g) a = (pick a g, true)) := hid (rt_run hX2 hX3 HAL.out HAV.out)
    have HBEND : Hid (∀ k p, k < 2 * d + 1 → p < q → ∃ o, m_RunNetwork 8 (bendN (rtN d g) k p) (idl n) = (o, true) ∧ o.length = n ∧ orderB o = true ∧ o ≠ g) := hid fun k p hk hp => bend_run hX2 hX3 hk (by have := HQ.out; omega)
    have HBNW : Hid (∀ k p, k < 2 * d + 1 → p < q → NetW n d (bendN (rtN d g) k p)) := hid fun k p hk hp => bend_net hX2 hk (by have := HQ.out; omega)
    have HROW : Hid (∀ s, s < 2 * d + 1 → (rw_ (rtN d g) s).length = q) := hid fun s hs => by have := hX2.row s hs; have := HQ.out; omega
    have HBIT : Hid (∀ s, s < 2 * d + 1 → ∀ p, p < q → el (rw_ (rtN d g) s) p = 0 ∨ el (rw_ (rtN d g) s) p = 1) := hid fun s hs p hp => hX2.bit s hs p (by have := HQ.out; omega)
    have HNB := hid hX2.netB
    have HRSZ := hid hX2.rsz
    have HMR := hid hX1
    clear hX1 hX2 hX3
    generalize hXX : rtN d g = X at *
    clear hXX
    generalize hL : 2 * d + 1 = L at *
    clear HX HP
    have CC := i_RouteNetwork w4 Ag cg g (by have := HGL.out; omega) Rg.out
    rw [HMR.out, HGL.out] at CC
    replace CC := hid CC
    go_wp2_with fail
    refine CC.out.mono ?_
    rintro e w5 ⟨v, rfl, ho, hb⟩
    clear CC
    replace BW := hid (bthen BW.out hb)
    replace Ra := hid (Ra.out.below hb)
    replace Rg := hid (Rg.out.below hb)
    clear hb
    obtain ⟨AX, cX, rfl, hcX, _, rX⟩ := OR.shp ho
    rw [show ((X, true) : List (List Int) × Bool).1 = X from rfl, HLX.out] at hcX
    rw [show ((X, true) : List (List Int) × Bool).1 = X from rfl, HLX.out]
    have RX := hid (show RdR _ AX X from rX)
    clear rX ho
    have CC := i_RunNetwork w5 b AX cX X Aa ca a HRSZ.out RX.out (by have := HAL.out; omega) Ra.out
    rw [HRUN.out, HLX.out, HAL.out] at CC
    replace CC := hid CC
    go_wp2_with fail
    refine CC.out.mono ?_
    rintro e w6 ⟨v, rfl, ho, hb⟩
    clear CC
    replace BW := hid (bthen BW.out hb)
    replace Ra := hid (Ra.out.below hb)
    replace Rg := hid (Rg.out.below hb)
    replace RX := hid (RX.out.below hb)
    clear hb
    have hyl : (pick a g).length = n := by rw [pick_length]; exact HGL.out
    have HMS : Hid (m_ShuffleLanes b g a = (pick a g, true)) := hid (by unfold m_ShuffleLanes; rw [HGS.out, HAV.out]; simp [HGL.out, HAL.out])
    generalize pick a g = y at *
    have HYL := hid hyl
    clear hyl
    obtain ⟨Ay, cy, rfl, hcy, _, ry⟩ := OI.shp ho
    rw [HYL.out] at hcy
    rw [HYL.out]
    have Ry := hid ry
    clear ry ho
    have CC := i_ShuffleLanes w6 b Ag cg g Aa ca a (by have := HGL.out; omega) Rg.out (by have := HAL.out; omega) Ra.out
    rw [HMS.out, HGL.out, HAL.out] at CC
    replace CC := hid CC
    go_wp2_with fail
    refine CC.out.mono ?_
    rintro e w7 ⟨v, rfl, ho, hb⟩
    clear CC
    replace BW := hid (bthen BW.out hb)
    replace Ra := hid (Ra.out.below hb)
    replace Rg := hid (Rg.out.below hb)
    replace RX := hid (RX.out.below hb)
    replace Ry := hid (Ry.out.below hb)
    clear hb
    obtain ⟨Az, cz, rfl, hcz, _, rz⟩ := OI.shp ho
    rw [show ((y, true) : List Int × Bool).1 = y from rfl, HYL.out] at hcz
    rw [show ((y, true) : List Int × Bool).1 = y from rfl, HYL.out]
    have Rz := hid (show RdI _ Az y from rz)
    clear rz ho
    have CC := i_IsNetwork w7 (n : Int) AX cX X HRSZ.out RX.out
    rw [HNB.out, HLX.out] at CC
    replace CC := hid CC
    go_wp2_with fail
    refine CC.out.mono ?_
    rintro e w8 ⟨rfl, hb⟩
    clear CC
    replace BW := hid (bthen BW.out hb)
    replace Ra := hid (Ra.out.below hb)
    replace Rg := hid (Rg.out.below hb)
    replace RX := hid (RX.out.below hb)
    replace Ry := hid (Ry.out.below hb)
    replace Rz := hid (Rz.out.below hb)
    clear hb
    have CC := l_r8Same w8 Ay Az cy cz y y (by rw [HYL.out]; omega) (by rw [HYL.out]; omega) Ry.out Rz.out
    rw [show decide (y = y) = true by simp, HYL.out] at CC
    replace CC := hid CC
    go_wp2_with fail
    refine CC.out.mono ?_
    rintro e w9 ⟨rfl, hb⟩
    clear CC
    replace BW := hid (bthen BW.out hb)
    replace Ra := hid (Ra.out.below hb)
    replace Rg := hid (Rg.out.below hb)
    replace RX := hid (RX.out.below hb)
    replace Ry := hid (Ry.out.below hb)
    replace Rz := hid (Rz.out.below hb)
    clear hb
    clear Ry
    clear Rz
    clear Ra
    clear HYL HMS HRUN HAV HAL HBI HNB HGS
    have CC := hid (i_Ramp8 w9 n HN.out)
    go_wp2_with fail
    refine CC.out.mono ?_
    rintro e w10 ⟨v, rfl, ho, hb⟩
    clear CC
    replace BW := hid (bthen BW.out hb)
    replace Rg := hid (Rg.out.below hb)
    replace RX := hid (RX.out.below hb)
    clear hb
    have HIL := hid (idl_length n)
    obtain ⟨Ai, ci, rfl, hci, _, ri⟩ := OI.shp ho
    rw [show ((idl n, true) : List Int × Bool).1 = idl n from rfl, HIL.out] at hci
    rw [show ((idl n, true) : List Int × Bool).1 = idl n from rfl, HIL.out]
    have Ri := hid (show RdI _ Ai (idl n) from ri)
    clear ri ho
    have HO0 := hid (OR.wide (OR.lit0 w10) (Nat.le_refl _) (Nat.le_of_eq (show w10.heap.size + 1 = (w10.alloc (.cells #[] 29)).heap.size by simp)))
    have HB0 := hid (ballocw w10 (.cells #[] 29))
    go_wp2_with fail
    go_loopg [17, 18] L (fun gg v s wr => ∃ k : Nat, k ≤ L ∧ L - k ≤ gg ∧ s = .int .i64 k ∧ Aside (Below w10.heap.size w10 wr) ∧ Aside (OR wr w10.heap.size wr.heap.size v (X.take k)))
    case atStart => exact ⟨0, Nat.zero_le _, by omega, rfl, HB0.out, by simpa [Aside] using HO0.out⟩
    case round =>
      obtain ⟨k, hk, hgk, rfl, BK, OK⟩ := hrel
      clear HO0 HB0
      obtain ⟨wk, rfl⟩ : ∃ wk : World, wk = wr := ⟨_, rfl⟩
      by_cases hlt : k < L
      · have hlt' : (k : Int) < (L : Int) := by omega
        have hbe := ballocw wk (.cells #[] 2)
        obtain ⟨ba, oa, Ar, cr, rfl, hca, hcc, hra⟩ := ((RX.out.below BK.out).below hbe).get (k := k) (by rw [HLX.out]; exact hlt)
        have hrl := HROW.out k hlt
        rw [hrl] at hca hcc
        have HRA := hid hra
        have HRL := hid hrl
        have HE := hid (Own.of (World.ownsRow_lit (base := wk.heap.size) (e := 2) (size := 1) wk #[] 0 (Nat.le_refl _) (by simp [maxLen]) rfl))
        have HOK := hid OK.out
        have HBK := hid BK.out
        have HBE := hid hbe
        have hze := hbe.size
        have hzk := BK.out.size
        have HTK := hid (take_rw (X := X) (k := k) (by rw [HLX.out]; exact hlt))
        have HLN : Hid ((X.take k).length + 1 ≤ 1048576) := hid (by rw [List.length_take]; omega)
        clear hra hrl hbe OK BK HROW HBIT HBEND HBNW RX Rg Ri
        generalize rw_ X k = row at *
        go_wp2_with (at_builtin; first | (refine wp_appendRn w10.heap.size wk.heap.size rfl _ _ rfl u17 _ A11 c11 q row HRL.out rfl rfl HO11.out HU11.out (by omega) (by omega) HLN.out ?_; intro v12 w12 ho12 hb12) | (refine wp_appendE wk.heap.size rfl _ _ rfl (.slice (some ⟨wk.heap.size, 0, none⟩) 0 0) Ar cr q row HRL.out rfl rfl HE.out HRA.out hze (by omega) ?_; intro A11 c11 w11 ho11 hb11; have HB11 := hid (HBE.out.trans hb11); have HO11 := hid (HOK.out.eqv (Eqv.of HB11.out (Nat.le_refl _))); have HU11 := hid ho11; have hz11 := HB11.out.size; clear ho11 hb11))
        go_roundg (L - (k + 1))
        case measure => omega
        case rel => exact ⟨k + 1, by omega, by omega, by go_num, (bthen HBK.out HB11.out).trans hb12, by unfold Aside; rw [HTK.out]; exact ho12⟩
      · have : L = k := by omega
        subst this
        have hta : X.take L = X := by rw [← HLX.out]; exact List.take_length
        rw [hta] at OK
        obtain ⟨Ab, cb, rfl, hcb, _, _⟩ := OR.shp OK.out
        rw [HLX.out] at hcb
        rw [HLX.out]
        have OK' := OK.out
        rw [HLX.out] at OK'
        have OB := hid OK'
        have BWk := hid (bthen BW.out BK.out)
        have hzk := BK.out.size
        have BKK := hid BK.out
        clear OK OK' hta RX BK
        have CC := hid (l_r8At wk A1 c1 xs1 40 (L : Int) (by omega) (by omega) (by omega) (by omega) (by omega) (HU1.out.below BWk.out))
        go_wp2_with fail
        refine CC.out.mono ?_
        rintro e w21 ⟨z, rfl, ⟨hz0, hz1⟩, rfl⟩
        clear CC
        obtain ⟨k, rfl⟩ : ∃ k : Nat, z = k := ⟨z.toNat, by omega⟩
        have hkL : k < L := by have := hz1 (by omega); omega
        clear hz0 hz1
        have CC := hid (l_r8At wk A1 c1 xs1 41 (q : Int) (by omega) (by omega) (by omega) (by omega) (by omega) (HU1.out.below BWk.out))
        go_wp2_with fail
        refine CC.out.mono ?_
        rintro e w21 ⟨z, rfl, ⟨hz0, hz1⟩, rfl⟩
        clear CC
        obtain ⟨p, rfl⟩ : ∃ p : Nat, z = p := ⟨z.toNat, by omega⟩
        have hpq : p < q := by have := hz1 (by omega); omega
        clear hz0 hz1
        have hrl := HROW.out k hkL
        obtain ⟨bb, gk, cr, rfl, hcell, hg1, hg2, hgc, hgf, hset⟩ := OR.put OB.out (k := k) (p := p) (by rw [HLX.out]; exact hkL) (by rw [hrl]; exact hpq)
        rw [hrl] at hcell
        have hbit := HBIT.out k hkL p hpq
        obtain ⟨o, e1, e2, e3, e4⟩ := HBEND.out k p hkL hpq
        have hnw := HBNW.out k p hkL hpq
        have HE1 := hid e1
        have HE2 := hid e2
        have HE3 := hid e3
        have HE4 := hid e4
        have HNW := hid hnw
        have OB2 : Hid (OR ((wk.setCell ⟨gk, p, none⟩ (.int .i64 (1 - el (rw_ X k) p))).drew) w10.heap.size wk.heap.size (.slice (some ⟨bb, 0, none⟩) L cb) (bendN X k p)) := hid ((hset (1 - el (rw_ X k) p)).eqv (fun _ _ _ => rfl))
        have HCH : Hid (Chg w10.heap.size wk.heap.size wk ((wk.setCell ⟨gk, p, none⟩ (.int .i64 (1 - el (rw_ X k) p))).drew)) := hid ((chg_set wk hg1 hg2 p _).trans (Chg.of (bdrewL _) (Nat.le_refl _)))
        have hkL' : (k : Int) < (L : Int) := by omega
        have hpq' : (p : Int) < (q : Int) := by omega
        have hx01 : 0 ≤ el (rw_ X k) p ∧ el (rw_ X k) p ≤ 1 := by omega
        obtain ⟨hx0, hx1⟩ := hx01
        clear hset hbit e1 e2 e3 e4 hnw OB HROW HBIT HBEND HBNW
        generalize el (rw_ X k) p = x at *
        go_wp2_with fail
        go_region
        have HBL := hid (BKK.out.trans (HCH.out.below (B := w10.heap.size) (Nat.le_refl _) hzk))
        have BW3 := hid (bthen BW.out HBL.out)
        have Rg3 := hid (Rg.out.below HBL.out)
        have Ri3 := hid (Ri.out.below HBL.out)
        have RB := hid (OR.rdn OB2.out)
        have HLB : Hid ((bendN X k p).length = L) := hid (by unfold bendN; rw [List.length_set]; exact HLX.out)
        clear HCH HBL BKK Rg Ri BW OB2 hgc hgf hcell BWk
        generalize (wk.setCell ⟨gk, p, none⟩ (.int .i64 (1 - x))).drew = W3 at *
        have CC := i_RunNetwork W3 8 (some ⟨bb, 0, none⟩) cb (bendN X k p) Ai ci (idl n) HNW.out.rsz RB.out (by have := HIL.out; omega) Ri3.out
        rw [HE1.out, HLB.out, HIL.out] at CC
        replace CC := hid CC
        go_wp2_with fail
        refine CC.out.mono ?_
        rintro e w31 ⟨v, rfl, ho, hb⟩
        clear CC
        obtain ⟨Ao, co, rfl, hco, _, ro⟩ := OI.shp ho
        rw [show ((o, true) : List Int × Bool).1 = o from rfl, HE2.out] at hco
        rw [show ((o, true) : List Int × Bool).1 = o from rfl, HE2.out]
        have Ro := hid (show RdI _ Ao o from ro)
        have BW4 := hid (bthen BW3.out hb)
        have Rg4 := hid (Rg3.out.below hb)
        clear ro ho hb BW3 Rg3 Ri3 RB
        have CC := i_InverseShuffle w31 Ao co o (by have := HE2.out; omega) Ro.out
        rw [show m_InverseShuffle o = (inv o, true) by unfold m_InverseShuffle; rw [HE3.out]; rfl, HE2.out] at CC
        replace CC := hid CC
        go_wp2_with fail
        refine CC.out.mono ?_
        rintro e w32 ⟨v, rfl, ho, hb⟩
        clear CC
        have BW5 := hid (bthen BW4.out hb)
        have Rg5 := hid (Rg4.out.below hb)
        have Ro5 := hid (Ro.out.below hb)
        clear ho hb BW4 Rg4 Ro
        have CC := l_r8Same w32 Ao Ag co cg o g (by rw [HE2.out]; omega) (by rw [HGL.out]; omega) Ro5.out Rg5.out
        rw [show decide (o = g) = false by simp; exact HE4.out, HE2.out, HGL.out] at CC
        replace CC := hid CC
        go_wp2_with fail
        refine CC.out.mono ?_
        rintro e w33 ⟨rfl, hb⟩
        clear CC
        have BW6 := hid (bthen BW5.out hb)
        clear hb
        go_wp2_with fail
        go_ret
        exact ⟨rfl, BW6.out⟩
end Go.Proofs.Ytolcmehndambmaa
set_option linter.unusedVariables false
set_option linter.unusedSimpArgs false
namespace Go.Proofs.Ytolcmehndambmaa
open Go.ChangeShapes Go.WideShapes Go.ChangeAt Go.RowKit
theorem own : ownKnob Try.prog.godebug = none := by kernel_rfl
theorem laidOut : laidOutB Try.prog = true := by kernel_rfl
theorem cellsInt : Try.prog.cellsOf 2 = 1 := by kernel_rfl
set_option maxRecDepth 100000 in
theorem open_I {H : Type} {enc : TypeId × Value → H} {W : World} {base : Nat} {v : Value} {d : DataW H} {p : List MemPlace}
    (hv : Value.okWide Try.prog W .any base 29 v) (h : DataW.Trod enc Try.prog W 0 (fun _ => true) true 29 v d p) :
    ∃ (A : Option Addr) (c : Nat) (xs : List Int), v = .slice A xs.length c ∧ xs.length ≤ 9223372036854775807 ∧ RdI W A xs := by
  obtain ⟨a, len, cap, rfl⟩ := okWide_slice Try.underlying29 hv
  obtain ⟨fuel, hf⟩ := h
  rcases open_ints Try.underlying29 Try.underlying2 cellsInt hf with ⟨hcs, _⟩ | ⟨x, l, c, zs, hcs, _, hl, hm, hz, _, hcell, _⟩
  · simp [Value.cells] at hcs
    obtain ⟨rfl, rfl, rfl⟩ := hcs
    exact ⟨none, 0, [], rfl, by simp, fun k hk => absurd hk (Nat.not_lt_zero _)⟩
  · simp [Value.cells] at hcs
    obtain ⟨rfl, rfl, rfl⟩ := hcs
    simp only [if_true] at hz
    have hlen : (zs.take len).length = len := by rw [List.length_take]; omega
    refine ⟨some x, cap, zs.take len, by rw [hlen], by rw [hlen]; simp only [maxLen] at hm; omega, ?_⟩
    intro k hk
    rw [hlen] at hk
    have hc := hcell k (by omega)
    have he : el (zs.take len) k = zs.getD k 0 := by
      unfold el; rw [List.getD_eq_getElem?_getD, List.getD_eq_getElem?_getD, List.getElem?_take_of_lt hk]
    have hs : x.spot = none := by
      have hc0 := hcell 0 (by omega)
      cases hx : x.spot with
      | none => rfl
      | some s =>
        rw [show x.add 0 = x from rfl] at hc0
        simp only [World.cell?] at hc0
        split at hc0
        · rw [if_pos (by rw [hx]; rfl)] at hc0; cases hc0
        · cases hc0
    obtain ⟨b, off, s⟩ := x
    obtain rfl : s = none := hs
    refine ⟨b, off, rfl, ?_⟩
    show W.cell? _ = some (.int .i64 (el (List.take len zs) k))
    rw [he, ← hc]
    congr 1
    unfold Addr.add
    split
    · rename_i h; subst h; rfl
    · rfl
end Go.Proofs.Ytolcmehndambmaa
set_option linter.unusedVariables false
set_option linter.unusedSimpArgs false
namespace Go.Proofs.Ytolcmehndambmaa
open Go.ChangeShapes Go.WideShapes Go.ChangeAt Go.RowKit
theorem cellsU8 : Try.prog.cellsOf 5 = 1 := by kernel_rfl
set_option maxRecDepth 100000 in
theorem open_U {H : Type} {enc : TypeId × Value → H} {W : World} {base : Nat} {v : Value} {d : DataW H} {p : List MemPlace}
    (hv : Value.okWide Try.prog W .any base 22 v) (h : DataW.Trod enc Try.prog W 0 (fun _ => true) true 22 v d p) :
    ∃ (A : Option Addr) (c : Nat) (xs : List Int), v = .slice A xs.length c ∧ xs.length ≤ 9223372036854775807 ∧ RdU W A xs := by
  obtain ⟨a, len, cap, rfl⟩ := okWide_slice Try.underlying22 hv
  obtain ⟨fuel, hf⟩ := h
  rcases open_ints Try.underlying22 Try.underlying5 cellsU8 hf with ⟨hcs, _⟩ | ⟨x, l, c, zs, hcs, _, hl, hm, hz, _, hcell, hwf⟩
  · simp [Value.cells] at hcs
    obtain ⟨rfl, rfl, rfl⟩ := hcs
    exact ⟨none, 0, [], rfl, by simp, fun k hk => absurd hk (Nat.not_lt_zero _), fun k hk => absurd hk (Nat.not_lt_zero _)⟩
  · simp [Value.cells] at hcs
    obtain ⟨rfl, rfl, rfl⟩ := hcs
    simp only [if_true] at hz
    have hlen : (zs.take len).length = len := by rw [List.length_take]; omega
    have he : ∀ k, k < len → el (zs.take len) k = zs.getD k 0 := fun k hk => by
      unfold el; rw [List.getD_eq_getElem?_getD, List.getD_eq_getElem?_getD, List.getElem?_take_of_lt hk]
    refine ⟨some x, cap, zs.take len, by rw [hlen], by rw [hlen]; simp only [maxLen] at hm; omega, ?_, ?_⟩
    · intro k hk
      rw [hlen] at hk
      have hc := hcell k (by omega)
      have hs : x.spot = none := by
        have hc0 := hcell 0 (by omega)
        cases hx : x.spot with
        | none => rfl
        | some s =>
          rw [show x.add 0 = x from rfl] at hc0
          simp only [World.cell?] at hc0
          split at hc0
          · rw [if_pos (by rw [hx]; rfl)] at hc0; cases hc0
          · cases hc0
      obtain ⟨b, off, s⟩ := x
      obtain rfl : s = none := hs
      refine ⟨b, off, rfl, ?_⟩
      show W.cell? _ = some (.int .u8 (el (List.take len zs) k))
      rw [he k hk, ← hc]
      congr 1
      unfold Addr.add
      split
      · rename_i h; subst h; rfl
      · rfl
    · intro k hk
      rw [hlen] at hk
      rw [he k hk]
      have hm' : zs.getD k 0 ∈ zs := by
        rw [List.getD_eq_getElem?_getD, List.getElem?_eq_getElem (by omega)]; exact List.getElem_mem _
      have hw := hwf _ hm'
      simp only [Lit.wf, Bool.and_eq_true, decide_eq_true_eq] at hw
      exact hw
end Go.Proofs.Ytolcmehndambmaa
/- For every input the law FnRouted holds: the call returns true; no condition. -/
set_option linter.unusedVariables false
set_option linter.unusedSimpArgs false
namespace Go.Proofs.Ytolcmehndambmaa.fnRouted
open Go.ChangeShapes Go.WideShapes Go.ChangeAt Go.RowKit
open Go.ChangeMaps (open_string shut_string)
theorem own : ownKnob Try.prog.godebug = none := by kernel_rfl
theorem laidOut : laidOutB Try.prog = true := by kernel_rfl
set_option maxRecDepth 100000 in
theorem lifted (os : Os) (started : os.Started) (H : Type) (enc : TypeId × Value → H) :
    ReturnsInHanded {} Try.checked os 5 .any (Rows.fnRoutedSpec.pre6 enc Try.prog Try.f5 Rows.fnRoutedRow.domain false) (Rows.fnRoutedSpec.post enc Try.prog Try.f5 false true false false) := by
  refine returnsInHanded_of_change (C := Try.checked) own started (by kernel_rfl) Try.func5
    (ChangeSpec.witness6 (enc := enc) (C := Try.checked) false ⟨#[], #[.slice none 0 0, .slice none 0 0], []⟩ 8 (by kernel_rfl) (by kernel_rfl) (by kernel_rfl) (by kernel_rfl)) ?_
  intro W base args ds gs before hval0 hW hcnd _
  have hval : ∀ (j : Nat) t v, Try.f5.params[j]? = some t → args[j]? = some v → Value.okWide Try.prog W .any base t v := hval0
  have hW' := hW
  obtain ⟨p, q, hA0, hV, rfl, hfz, hnd⟩ := hW
  have hA : DataW.TrodAll enc Try.prog W 0 (fun _ => true) true Try.f5.params.toList args.toList ds p := hA0
  rw [Try.params5] at hA hval
  obtain ⟨v0, vs0, d0, ds0, p0, q0, hargs, rfl, rfl, h0, r0⟩ := trodAll_cons hA
  obtain ⟨v1, vs1, d1, ds1, p1, q1, rfl, rfl, rfl, h1, r1⟩ := trodAll_cons r0
  obtain ⟨rfl, rfl, rfl⟩ := trodAll_nil r1
  obtain rfl : args = #[v0, v1] := by cases args; simp_all
  obtain ⟨rfl, rfl⟩ := trodVars_none hV
  have k0 := h0
  have lt0 : ∀ x ∈ p0, x.block < W.heap.size := by obtain ⟨m, hm⟩ := k0; exact DataW.trod_lt m _ _ _ hm
  obtain ⟨A0, c0, xs0, rfl, hl0, hR0⟩ := open_U (hval 0 22 v0 rfl rfl) h0
  have k1 := h1
  have lt1 : ∀ x ∈ p1, x.block < W.heap.size := by obtain ⟨m, hm⟩ := k1; exact DataW.trod_lt m _ _ _ hm
  obtain ⟨A1, c1, xs1, rfl, hl1, hR1⟩ := open_U (hval 1 22 v1 rfl rfl) h1
  clear hA0 hval0
  refine (law_Routed W A0 c0 xs0 A1 c1 xs1 hl0 hR0 hl1 hR1).mono fun e W' ⟨he, bel⟩ => ?_
  subst he
  exact ⟨_, rfl, _, _, _, [], _, [], hW', trodAll_mk1 (shut_bool Try.underlying4 _), (trodAll_cons_mk (Below.trod laidOut (by kernel_rfl) (of_decide_eq_true (by kernel_rfl)) k0 bel lt0) (trodAll_cons_mk (Below.trod laidOut (by kernel_rfl) (of_decide_eq_true (by kernel_rfl)) k1 bel lt1) trodAll_mk0)), rfl, bel.frame _, fun h => by cases h⟩
theorem over : Rows.fnRoutedRow.holds Try.pinned (OpenSpec.ofChange Rows.fnRoutedSpec) :=
  OpenClaim.holds_of_wide 5 Try.f5 rfl rfl rfl rfl rfl rfl rfl ⟨rfl, rfl, rfl, rfl, rfl⟩ rfl rfl rfl rfl rfl (by kernel_rfl) Try.func5 (by kernel_rfl)
    (of_decide_eq_true (by kernel_rfl)) (by unfold Func.isWrapper; first | (rw [if_pos (by decide +kernel)]; kernel_rfl) | (rw [if_neg (by decide +kernel)]; exact ⟨rfl, rfl⟩))
    (fun os started H enc _ => lifted os started H enc)
theorem proved : Rows.FnRoutedSaid := over
#print axioms proved
end Go.Proofs.Ytolcmehndambmaa.fnRouted
