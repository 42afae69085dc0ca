import Derived.Test.YtcjbfnbknpolcaaCat2
import Derived.Test.YtcjbfnbknpolcaaShuf2
set_option linter.unusedVariables false
set_option linter.unusedSimpArgs false
namespace Go.Proofs.Ytcjbfnbknpolcaa
open Go.RowKit

theorem rdR_two {W : World} {B : Nat} {A A' : Option Addr} {c c' : Nat} {xs ys : List Int} (h0 : W.cell? ⟨B, 0, none⟩ = some (.slice A xs.length c)) (h1 : W.cell? ⟨B, 1, none⟩ = some (.slice A' ys.length c')) (hc : xs.length ≤ c) (hc' : ys.length ≤ c')
    (hA : RdI W A xs) (hA' : RdI W A' ys) : RdR W (some ⟨B, 0, none⟩) [xs, ys] := by
  refine ⟨fun k => if k = 0 then .slice A xs.length c else .slice A' ys.length c', fun k hk => ?_, fun k hk => ?_⟩
  · rcases (show k = 0 ∨ k = 1 by simp at hk; omega) with rfl | rfl
    · exact ⟨B, 0, rfl, by simpa using h0⟩
    · exact ⟨B, 0, rfl, by simpa using h1⟩
  · rcases (show k = 0 ∨ k = 1 by simp at hk; omega) with rfl | rfl
    · exact ⟨A, c, rfl, hc, hA⟩
    · exact ⟨A', c', rfl, hc', hA'⟩
def pickB (b : Int) (ps xs ys : List Int) : Bool := vecB b xs && (vecB b ys && decide (xs.length = ys.length)) && decide (ps.length = xs.length) && ps.all (fun i => inB i 0 (2 * (xs.length : Int) - 1))
def m_PickLanes (b : Int) (ps xs ys : List Int) : List Int × Bool := if pickB b ps xs ys then (pick (xs ++ ys) ps, true) else ([], false)
theorem m_PickLanes_len (b : Int) (ps xs ys : List Int) (h : ps.length ≤ 1048576) : (m_PickLanes b ps xs ys).1.length ≤ 1048576 := by
  unfold m_PickLanes; split
  · simpa [pick] using h
  · simp
theorem vecs_two (b : Int) (xs ys : List Int) : vecsB b [xs, ys] = (vecB b xs && (vecB b ys && decide (xs.length = ys.length))) := by
  have : rw_ [xs, ys] 0 = xs := rfl
  simp only [vecsB, List.all_cons, List.all_nil, Bool.and_true, this, decide_true]
  congr 2; rw [Bool.eq_iff_iff]; simp; omega
theorem pick_inB {ps xs ys : List Int} (hl : xs.length = ys.length) (h : (ps.all fun i => inB i 0 (2 * (xs.length : Int) - 1)) = true) : InB (xs ++ ys) ps := by
  intro k hk
  rw [List.all_eq_true] at h
  have := inB_iff.1 (h _ (el_mem hk))
  simp only [List.length_append]; omega

theorem i_PickLanes1 (W : World) (B : Nat) (A : Option Addr) (n c : Nat) (x : Int) (hn : n ≤ 1048576) (hb : W.cell? ⟨B, 0, none⟩ = some (.slice A n c)) :
    Calls Try.prog 98 #[.int .i64 x, .pointer (some ⟨B, 0, none⟩)] W fun e w' => e = .returned (.bool (inB x 0 (2 * (n : Int) - 1))) ∧ Below W.heap.size W w' := by
  have h0 : (0 : Int) ≤ n := by omega
  go_enter Try.func98, Try.ntmps98
  go_wp2_with (first | (go_at_call 54; refine (i_lengthI _ _ _ _).mono ?_; rintro e w' ⟨rfl, rfl⟩) | (go_at_call 57; refine (i_within _ _ _ _).mono ?_; rintro e w' ⟨rfl, rfl⟩))
  go_ret
  exact ⟨rfl, Below.refl _ _⟩
theorem two_rd (w : World) (A2 : Option Addr) (c2 : Nat) (xs : List Int) (A3 : Option Addr) (c3 : Nat) (ys : List Int) (hx : xs.length ≤ c2) (hy : ys.length ≤ c3) (h2 : RdI w A2 xs) (h3 : RdI w A3 ys) :
    RdR (w.alloc (.cells #[.slice A2 xs.length c2, .slice A3 ys.length c3] 28)) (some ⟨w.heap.size, 0, none⟩) [xs, ys] :=
  rdR_two (by simp) (by simp) hx hy (h2.below (ballocw w _)) (h3.below (ballocw w _))
theorem c_vecs (w : World) (b : Int) (A2 : Option Addr) (c2 : Nat) (xs : List Int) (A3 : Option Addr) (c3 : Nat) (ys : List Int) (hx : xs.length ≤ c2) (hy : ys.length ≤ c3) (hl2 : xs.length ≤ 1048576) (hl3 : ys.length ≤ 1048576) (h2 : RdI w A2 xs) (h3 : RdI w A3 ys) :
    Calls Try.prog 97 #[.int .i64 b, .slice (some ⟨w.heap.size, 0, none⟩) 2 2] (w.alloc (.cells #[.slice A2 xs.length c2, .slice A3 ys.length c3] 28))
      fun e w' => e = .returned (.bool (vecB b xs && (vecB b ys && decide (xs.length = ys.length)))) ∧ Below w.heap.size w w' := by
  have h := i_areVectors _ b (some ⟨w.heap.size, 0, none⟩) 2 [xs, ys] (by simp) (by simp; omega) (two_rd w A2 c2 xs A3 c3 ys hx hy h2 h3)
  rw [vecs_two] at h
  exact h.mono fun e w' ⟨he, hb⟩ => ⟨he, bthen (ballocw w _) hb⟩
theorem c_cat (w : World) (A2 : Option Addr) (c2 : Nat) (xs : List Int) (A3 : Option Addr) (c3 : Nat) (ys : List Int) (hx : xs.length ≤ c2) (hy : ys.length ≤ c3) (hl2 : xs.length ≤ 1048576) (hl3 : ys.length ≤ 1048576) (hll : xs.length + ys.length ≤ 1048576) (h2 : RdI w A2 xs) (h3 : RdI w A3 ys) :
    Calls Try.prog 99 #[.slice (some ⟨w.heap.size, 0, none⟩) 2 2] (w.alloc (.cells #[.slice A2 xs.length c2, .slice A3 ys.length c3] 28))
      fun e w' => ∃ A c, e = .returned (.slice A (xs ++ ys).length c) ∧ RdI w' A (xs ++ ys) ∧ Below w.heap.size w w' := by
  have h := g_Concat _ (some ⟨w.heap.size, 0, none⟩) 2 [xs, ys] (by simp) (by simp; omega) (two_rd w A2 c2 xs A3 c3 ys hx hy h2 h3)
  have e : [xs, ys].flatten = xs ++ ys := by simp
  rw [e] at h
  refine h.mono ?_
  rintro en w' ⟨v, rfl, ho, hb⟩
  obtain ⟨A, c, rfl, _, _, hr⟩ := ho.int
  exact ⟨A, c, rfl, hr, bthen (ballocw w _) hb⟩
theorem c_all (w : World) (B : Nat) (A1 : Option Addr) (c1 : Nat) (ps : List Int) (A2 : Option Addr) (c2 n : Nat) (hl1 : ps.length ≤ 1048576) (hn : n ≤ 1048576) (h1 : RdI w A1 ps) (hB : w.cell? ⟨B, 0, none⟩ = some (.slice A2 n c2)) :
    Calls Try.prog 55 #[.slice A1 ps.length c1, .func (.func 98) #[] #[.pointer (some ⟨B, 0, none⟩)]] w
      fun e w' => e = .returned (.bool (ps.all fun i => inB i 0 (2 * (n : Int) - 1))) ∧ Below w.heap.size w w' := by
  have h := areAllI w A1 ps.length c1 (fun k => .int .i64 (el ps k)) 98 #[.pointer (some ⟨B, 0, none⟩)] (fun k => inB (el ps k) 0 (2 * (n : Int) - 1)) (by omega) h1 (enters_of Try.func98 (by kernel_rfl) rfl)
    (fun W hW k hk => i_PickLanes1 W B A2 n c2 (el ps k) hn (bcell hW hB))
  rw [allN_ints ps (fun x => inB x 0 (2 * (n : Int) - 1))] at h
  exact h
abbrev WP (w : World) (A2 : Option Addr) (n2 c2 : Nat) : World := w.alloc (.cells #[.slice A2 n2 c2] 28)
abbrev WP2 (W : World) (A2 : Option Addr) (n2 c2 : Nat) (A3 : Option Addr) (n3 c3 : Nat) : World := W.alloc (.cells #[.slice A2 n2 c2, .slice A3 n3 c3] 28)
abbrev AnsB (b : Bool) (Q : World → Prop) : Ending → World → Prop := fun e w' => e = .returned (.bool b) ∧ Q w'
set_option maxRecDepth 100000 in
theorem i_PKa (w : World) (b : Int) (A1 : Option Addr) (n1 c1 : Nat) (A2 : Option Addr) (n2 c2 : Nat) (A3 : Option Addr) (n3 c3 : Nat) (Q : World → Prop)
    (hv : Hid (Calls Try.prog 97 #[.int .i64 b, .slice (some ⟨w.heap.size + 1, 0, none⟩) 2 2] (WP2 (WP w A2 n2 c2) A2 n2 c2 A3 n3 c3) (AnsB false Q))) :
    Calls Try.prog 49 #[.int .i64 b, .slice A1 n1 c1, .slice A2 n2 c2, .slice A3 n3 c3] w fun e w' => e = .returned (.tuple #[.slice none 0 0, .bool false]) ∧ Q w' := by
  go_enter Try.func49, Try.ntmps49
  go_wp2_with fail
  refine hv.out.mono ?_
  rintro e w1 ⟨rfl, hq⟩
  go_wp2_with fail
  go_ret2
  exact ⟨rfl, hq⟩
set_option maxRecDepth 100000 in
theorem i_PKb (w : World) (b : Int) (A1 : Option Addr) (n1 c1 : Nat) (A2 : Option Addr) (n2 c2 : Nat) (A3 : Option Addr) (n3 c3 : Nat) (Q : World → Prop) (hne : ((n1 : Int) != (n2 : Int)) = true) (hl1 : n1 ≤ 1048576) (hl2 : n2 ≤ 1048576)
    (hv : Hid (Calls Try.prog 97 #[.int .i64 b, .slice (some ⟨w.heap.size + 1, 0, none⟩) 2 2] (WP2 (WP w A2 n2 c2) A2 n2 c2 A3 n3 c3) (AnsB true Q))) (hc : Hid (∀ W, Q W → W.cell? ⟨w.heap.size, 0, none⟩ = some (.slice A2 n2 c2))) :
    Calls Try.prog 49 #[.int .i64 b, .slice A1 n1 c1, .slice A2 n2 c2, .slice A3 n3 c3] w fun e w' => e = .returned (.tuple #[.slice none 0 0, .bool false]) ∧ Q w' := by
  go_enter Try.func49, Try.ntmps49
  go_wp2_with fail
  refine hv.out.mono ?_
  rintro e w1 ⟨rfl, hq⟩
  have hcW := hc.out _ hq
  go_wp2_with fail
  go_ret2
  exact ⟨rfl, hq⟩
set_option maxRecDepth 100000 in
theorem i_PKc (w : World) (b : Int) (A1 : Option Addr) (n1 c1 : Nat) (A2 : Option Addr) (n2 c2 : Nat) (A3 : Option Addr) (n3 c3 : Nat) (Q : World → Prop) (hne : ((n1 : Int) != (n2 : Int)) = false) (hl1 : n1 ≤ 1048576) (hl2 : n2 ≤ 1048576)
    (hv : Hid (Calls Try.prog 97 #[.int .i64 b, .slice (some ⟨w.heap.size + 1, 0, none⟩) 2 2] (WP2 (WP w A2 n2 c2) A2 n2 c2 A3 n3 c3) (AnsB true Q))) (hc : Hid (∀ W, Q W → W.cell? ⟨w.heap.size, 0, none⟩ = some (.slice A2 n2 c2)))
    (Q2 : World → Prop) (ha : Hid (∀ W, Q W → Calls Try.prog 55 #[.slice A1 n1 c1, .func (.func 98) #[] #[.pointer (some ⟨w.heap.size, 0, none⟩)]] W (AnsB false Q2))) :
    Calls Try.prog 49 #[.int .i64 b, .slice A1 n1 c1, .slice A2 n2 c2, .slice A3 n3 c3] w fun e w' => e = .returned (.tuple #[.slice none 0 0, .bool false]) ∧ Q2 w' := by
  go_enter Try.func49, Try.ntmps49
  go_wp2_with fail
  refine hv.out.mono ?_
  rintro e w1 ⟨rfl, hq⟩
  have hcW := hc.out _ hq
  go_wp2_with fail
  refine (ha.out _ hq).mono ?_
  rintro e w2 ⟨rfl, hq2⟩
  go_wp2_with fail
  go_ret2
  exact ⟨rfl, hq2⟩
set_option maxRecDepth 100000 in
theorem i_PKd (w : World) (b : Int) (A1 : Option Addr) (n1 c1 : Nat) (A2 : Option Addr) (n2 c2 : Nat) (A3 : Option Addr) (n3 c3 : Nat) (Q : World → Prop) (hne : ((n1 : Int) != (n2 : Int)) = false) (hl1 : n1 ≤ 1048576) (hl2 : n2 ≤ 1048576)
    (hv : Hid (Calls Try.prog 97 #[.int .i64 b, .slice (some ⟨w.heap.size + 1, 0, none⟩) 2 2] (WP2 (WP w A2 n2 c2) A2 n2 c2 A3 n3 c3) (AnsB true Q))) (hc : Hid (∀ W, Q W → W.cell? ⟨w.heap.size, 0, none⟩ = some (.slice A2 n2 c2)))
    (Q2 : World → Prop) (ha : Hid (∀ W, Q W → Calls Try.prog 55 #[.slice A1 n1 c1, .func (.func 98) #[] #[.pointer (some ⟨w.heap.size, 0, none⟩)]] W (AnsB true Q2))) (hc2 : Hid (∀ W, Q2 W → W.cell? ⟨w.heap.size, 0, none⟩ = some (.slice A2 n2 c2)))
    (Q3 : Value → World → Prop) (hca : Hid (∀ W, Q2 W → Calls Try.prog 99 #[.slice (some ⟨W.heap.size, 0, none⟩) 2 2] (WP2 W A2 n2 c2 A3 n3 c3) fun e w' => ∃ v, e = .returned v ∧ Q3 v w'))
    (Q4 : Value → World → Prop) (hpk : Hid (∀ W v, Q3 v W → Calls Try.prog 64 #[v, .slice A1 n1 c1] W fun e w' => ∃ v, e = .returned v ∧ Q4 v w')) :
    Calls Try.prog 49 #[.int .i64 b, .slice A1 n1 c1, .slice A2 n2 c2, .slice A3 n3 c3] w fun e w' => ∃ v, e = .returned (.tuple #[v, .bool true]) ∧ Q4 v w' := by
  go_enter Try.func49, Try.ntmps49
  go_wp2_with fail
  refine hv.out.mono ?_
  rintro e w1 ⟨rfl, hq⟩
  have hcW := hc.out _ hq
  go_wp2_with fail
  refine (ha.out _ hq).mono ?_
  rintro e w2 ⟨rfl, hq2⟩
  clear hcW
  have hcW2 := hc2.out _ hq2
  go_wp2_with fail
  refine (hca.out _ hq2).mono ?_
  rintro e w3 ⟨v3, rfl, hq3⟩
  clear hcW2
  go_wp2_with fail
  refine (hpk.out _ _ hq3).mono ?_
  rintro e w4 ⟨v, rfl, hq4⟩
  go_wp2_with fail
  go_ret2
  exact ⟨_, rfl, hq4⟩
theorem i_PickLanes (w : World) (b : Int) (A1 : Option Addr) (c1 : Nat) (ps : List Int) (A2 : Option Addr) (c2 : Nat) (xs : List Int) (A3 : Option Addr) (c3 : Nat) (ys : List Int)
    (hl1 : ps.length ≤ 1048576) (hw : ps.length ≤ c1) (h1 : RdI w A1 ps) (hl2 : xs.length ≤ 1048576) (hx : xs.length ≤ c2) (h2 : RdI w A2 xs) (hl3 : ys.length ≤ 1048576) (hy : ys.length ≤ c3) (h3 : RdI w A3 ys) :
    Calls Try.prog 49 #[.int .i64 b, .slice A1 ps.length c1, .slice A2 xs.length c2, .slice A3 ys.length c3] w (RetIB w (m_PickLanes b ps xs ys)) := by
  have hb0 : Below w.heap.size w (WP w A2 xs.length c2) := ballocw w _
  have hS : (WP w A2 xs.length c2).heap.size = w.heap.size + 1 := by simp [WP]
  have hcB : (WP w A2 xs.length c2).cell? ⟨w.heap.size, 0, none⟩ = some (.slice A2 xs.length c2) := by simp [WP]
  have hv := c_vecs (WP w A2 xs.length c2) b A2 c2 xs A3 c3 ys hx hy hl2 hl3 (h2.below hb0) (h3.below hb0)
  rw [hS] at hv
  have hcW : ∀ W, Below (w.heap.size + 1) (WP w A2 xs.length c2) W → W.cell? ⟨w.heap.size, 0, none⟩ = some (.slice A2 xs.length c2) := fun W hW => (hW.cell (by simp)).trans hcB
  have hbb : ∀ W, Below (w.heap.size + 1) (WP w A2 xs.length c2) W → Below w.heap.size w W := fun W hW => hb0.trans (hW.mono (by omega))
  have nil : ∀ {e : Ending} {w' : World}, m_PickLanes b ps xs ys = ([], false) → (e = .returned (.tuple #[.slice none 0 0, .bool false]) ∧ Below w.heap.size w w') → RetIB w (m_PickLanes b ps xs ys) e w' := by
    rintro e w' hm ⟨rfl, hb⟩
    rw [hm]
    exact ⟨_, rfl, Own.nil _ _ _ _ _, hb⟩
  cases hV : (vecB b xs && (vecB b ys && decide (xs.length = ys.length))) with
  | false =>
    rw [hV] at hv
    exact (i_PKa w b A1 ps.length c1 A2 xs.length c2 A3 ys.length c3 _ (hid hv)).mono fun e w' h => nil (by simp [m_PickLanes, pickB, hV]) ⟨h.1, hbb _ h.2⟩
  | true =>
    rw [hV] at hv
    have hV0 := hV
    simp only [Bool.and_eq_true, decide_eq_true_eq] at hV0
    obtain ⟨hV1, hV2, hV3⟩ := hV0
    have l1 := vecB_len hV1
    have l2 := vecB_len hV2
    cases hE : decide (ps.length = xs.length) with
    | false =>
      have hne : ((ps.length : Int) != (xs.length : Int)) = true := by rw [len_ne, hE]; rfl
      exact (i_PKb w b A1 ps.length c1 A2 xs.length c2 A3 ys.length c3 _ hne hl1 hl2 (hid hv) (hid hcW)).mono fun e w' h => nil (by simp only [m_PickLanes, pickB, hV, hE]; rfl) ⟨h.1, hbb _ h.2⟩
    | true =>
      have hne : ((ps.length : Int) != (xs.length : Int)) = false := by rw [len_ne, hE]; rfl
      have hall : ∀ W, Below (w.heap.size + 1) (WP w A2 xs.length c2) W → Calls Try.prog 55 #[.slice A1 ps.length c1, .func (.func 98) #[] #[.pointer (some ⟨w.heap.size, 0, none⟩)]] W
          (AnsB (ps.all fun i => inB i 0 (2 * (xs.length : Int) - 1)) fun w' => Below (w.heap.size + 1) (WP w A2 xs.length c2) w') := fun W hW =>
        (c_all W w.heap.size A1 c1 ps A2 c2 xs.length hl1 hl2 (h1.below (hbb W hW)) (hcW W hW)).mono fun e w' h => ⟨h.1, hW.trans (h.2.mono (by have := hW.size; omega))⟩
      cases hP : ps.all (fun i => inB i 0 (2 * (xs.length : Int) - 1)) with
      | false =>
        simp only [hP] at hall
        exact (i_PKc w b A1 ps.length c1 A2 xs.length c2 A3 ys.length c3 _ hne hl1 hl2 (hid hv) (hid hcW) _ (hid hall)).mono fun e w' h => nil (by simp only [m_PickLanes, pickB, hV, hE, hP]; rfl) ⟨h.1, hbb _ h.2⟩
      | true =>
        simp only [hP] at hall
        have hin := pick_inB hV3 hP
        have hm : m_PickLanes b ps xs ys = (pick (xs ++ ys) ps, true) := by simp only [m_PickLanes, pickB, hV, hE, hP]; rfl
        refine (i_PKd w b A1 ps.length c1 A2 xs.length c2 A3 ys.length c3 _ hne hl1 hl2 (hid hv) (hid hcW) _ (hid hall) (hid hcW)
          (fun v W => ∃ A c, v = .slice A (xs ++ ys).length c ∧ RdI W A (xs ++ ys) ∧ Below w.heap.size w W) (hid fun W hW => ?_)
          (fun v W => OI W w.heap.size W.heap.size v (pick (xs ++ ys) ps) ∧ Below w.heap.size w W) (hid ?_)).mono ?_
        · refine (c_cat W A2 c2 xs A3 c3 ys hx hy hl2 hl3 (by omega) (h2.below (hbb W hW)) (h3.below (hbb W hW))).mono ?_
          rintro e w' ⟨A, c, rfl, hr, hb⟩
          exact ⟨_, rfl, A, c, rfl, hr, bthen (hbb W hW) hb⟩
        · rintro W v ⟨A, c, rfl, hr, hb⟩
          refine (i_picked W A A1 c c1 (xs ++ ys) ps hin (by simp; omega) (by omega) hr (h1.below hb)).mono ?_
          rintro e w' ⟨v, rfl, ho, hb'⟩
          exact ⟨v, rfl, ho.wide hb.size (Nat.le_refl _), bthen hb hb'⟩
        · rintro e w' ⟨v, rfl, ho, hb⟩
          rw [hm]
          exact ⟨v, rfl, ho, hb⟩
set_option maxRecDepth 100000 in
set_option maxHeartbeats 1000000 in
theorem s_PickLanes (w : World) (b : Int) (A1 : Option Addr) (c1 : Nat) (ps : List Int) (A2 : Option Addr) (c2 : Nat) (xs : List Int) (A3 : Option Addr) (c3 : Nat) (ys : List Int)
    (hl1 : ps.length ≤ 1048576) (hw : ps.length ≤ c1) (h1 : RdI w A1 ps) (hl2 : xs.length ≤ 1048576) (hx : xs.length ≤ c2) (h2 : RdI w A2 xs) (hl3 : ys.length ≤ 1048576) (hy : ys.length ≤ c3) (h3 : RdI w A3 ys) :
    Calls Try.prog 48 #[.int .i64 b, .slice A1 ps.length c1, .slice A2 xs.length c2, .slice A3 ys.length c3] w (RetIB w (m_PickLanes b ps xs ys)) := by
  have hv := s_l02Both w b A2 c2 xs A3 c3 ys hl2 h2 hl3 h3
  unfold m_PickLanes pickB
  generalize hV : (vecB b xs && (vecB b ys && decide (xs.length = ys.length))) = V at hv ⊢
  cases V with
  | false =>
    simp only [Bool.false_and, Bool.false_eq_true, if_false]
    clear hV h1 h2 h3
    go_enter Try.func48, Try.ntmps48
    go_wp2_with fail
    refine hv.mono ?_
    rintro e w1 ⟨rfl, hb1⟩
    go_wp2_with fail
    go_ret2
    exact ⟨_, rfl, Own.nil _ _ _ _ _, hb1⟩
  | true =>
    simp only [Bool.and_eq_true, decide_eq_true_eq] at hV
    obtain ⟨hV1, hV2, hV3⟩ := hV
    have l1 := vecB_len hV1
    have l2 := vecB_len hV2
    clear hV1 hV2
    have HV := hid hV3
    clear hV3
    simp only [Bool.true_and]
    cases hE : decide (ps.length = xs.length) with
    | false =>
      simp only [Bool.false_and, Bool.false_eq_true, if_false]
      have hne : ((ps.length : Int) != (xs.length : Int)) = true := by rw [len_ne, hE]; rfl
      clear hE h1 h2 h3 HV
      go_enter Try.func48, Try.ntmps48
      go_wp2_with fail
      refine hv.mono ?_
      rintro e w1 ⟨rfl, hb1⟩
      go_wp2_with fail
      go_ret2
      exact ⟨_, rfl, Own.nil _ _ _ _ _, hb1⟩
    | true =>
      have hne : ((ps.length : Int) != (xs.length : Int)) = false := by rw [len_ne, hE]; rfl
      simp only [Bool.true_and]
      clear hE
      generalize hG : (if (ps.all fun i => inB i 0 (2 * (xs.length : Int) - 1)) = true then (pick (xs ++ ys) ps, true) else (([] : List Int), false)) = G
      have HG := hid hG
      clear hG
      have HP : Hid (ps.all (fun i => inB i 0 (2 * (xs.length : Int) - 1)) = true → ∀ W (hW : Below w.heap.size w W) A c (hR : RdI W A (xs ++ ys)),
          Calls Try.prog 63 #[.slice A1 ps.length c1, .slice A (xs ++ ys).length c] W (RetI W 2 (pick (xs ++ ys) ps))) :=
        hid fun hP W hW A c hR => s_l04Apply W A A1 c c1 (xs ++ ys) ps (pick_inB HV.out hP) (by simp; omega) (by omega) hR (h1.below hW)
      have hown := fun W (hW : Below w.heap.size w W) => s_l00Own W A2 c2 xs hl2 (h2.below hW)
      have H1 := hid h1
      have H3 := hid h3
      clear h1 h2 h3
      go_enter Try.func48, Try.ntmps48
      go_wp2_with fail
      refine hv.mono ?_
      rintro e w1 ⟨rfl, hb1⟩
      go_wp2_with fail
      have hq0 := fun x => s_l00In x 0 (2 * (xs.length : Int) - 1)
      go_loopg [10] ps.length (fun gg s wr => ∃ k : Nat, k ≤ ps.length ∧ ps.length - k ≤ gg ∧ s = .int .i64 k ∧ Aside (w1 = wr) ∧ Aside ((ps.all fun i => inB i 0 (2 * (xs.length : Int) - 1)) = (ps.drop k).all fun i => inB i 0 (2 * (xs.length : Int) - 1)))
      case atStart => exact ⟨0, Nat.zero_le _, by omega, rfl, rfl, rfl⟩
      case round =>
        obtain ⟨k, hk, hg, rfl, BW, AL⟩ := hrel
        obtain rfl := BW.out
        by_cases hlt : k < ps.length
        · obtain ⟨b', off, rfl, hc⟩ := (H1.out.below hb1).get hlt
          have hq := AL.out
          rw [el_drop hlt, List.all_cons] at hq
          have hw' := hq0 (el ps k)
          cases hi : inB (el ps k) 0 (2 * (xs.length : Int) - 1) with
          | true =>
            rw [hi] at hq hw'
            have AL' : Aside ((ps.all fun i => inB i 0 (2 * (xs.length : Int) - 1)) = (ps.drop (k + 1)).all fun i => inB i 0 (2 * (xs.length : Int) - 1)) := hq
            clear hi hq AL hq0 HP hown hne
            go_wp2_with (go_at_call 77; refine (hw' _).mono ?_; rintro e w' ⟨rfl, rfl⟩)
            go_roundg (ps.length - (k + 1))
            case measure => omega
            case rel => exact ⟨k + 1, by omega, by omega, by go_num, rfl, AL'⟩
          | false =>
            rw [hi] at hq hw'
            have AL' : Hid (G = ([], false)) := hid (by rw [← HG.out, hq]; simp)
            clear hi hq AL hq0 HP HG hown hne
            go_wp2_with (go_at_call 77; refine (hw' _).mono ?_; rintro e w' ⟨rfl, rfl⟩)
            go_ret2
            rw [AL'.out]
            exact ⟨_, rfl, Own.nil _ _ _ _ _, hb1⟩
        · have : k = ps.length := by omega
          subst this
          have hP : (ps.all fun i => inB i 0 (2 * (xs.length : Int) - 1)) = true := by rw [AL.out]; simp
          have hcall := HP.out hP
          have HE : Hid (G = (pick (xs ++ ys) ps, true)) := hid (by rw [← HG.out]; exact if_pos hP)
          clear AL hP HP hq0 HG
          go_wp2_with fail
          refine (hown _ hb1).mono ?_
          rintro e w2 ⟨v, rfl, ho, hb2⟩
          have hb3 := bthen hb1 hb2
          have H3' := hid (H3.out.below hb3)
          go_wp2_with (at_builtin; refine wp_appendS w1.heap.size rfl _ _ 28 2 (.int .i64 0) 8 rfl Try.underlying28 infoInt rfl v xs.length _ A3 c3 ys rfl rfl ho H3'.out hb2.size (by omega) (by omega) ?_; intro v1 w3 ho1 hb4)
          have hb5 := bthen hb1 (hb2.trans hb4)
          have ho2 : OwnI w3 w1.heap.size w3.heap.size 2 v1 (xs ++ ys) := by
            have e1 : xs.length + ys.length = (xs ++ ys).length := by simp
            have e2 : ints xs ++ ints ys = ints (xs ++ ys) := by simp [ints]
            rw [e1, e2] at ho1
            exact ho1
          obtain ⟨A, c, rfl, _, _, hr⟩ := ho2.int
          refine (hcall _ hb5 _ c hr).mono ?_
          rintro e w4 ⟨v4, rfl, ho4, hb6⟩
          go_wp2_with fail
          go_ret2
          rw [HE.out]
          exact ⟨_, rfl, ho4.wide hb5.size (Nat.le_refl _), bthen hb5 hb6⟩
end Go.Proofs.Ytcjbfnbknpolcaa
