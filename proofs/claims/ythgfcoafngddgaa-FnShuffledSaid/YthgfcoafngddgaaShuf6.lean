import Derived.Test.YthgfcoafngddgaaCat2
import Derived.Test.YthgfcoafngddgaaShuf2
set_option linter.unusedVariables false
set_option linter.unusedSimpArgs false
namespace Go.Proofs.Ythgfcoafngddgaa
open Go.RowKit

theorem rdR_two {W : World} {B : Nat} {A A' : Option Addr} {c c' : Nat} {xs ys : List Int} (h0 : W.cell? ⟨B, 0, none⟩ = some (.slice A xs.length c)) (h1 : W.cell? ⟨B, 1, none⟩ = some (.slice A' ys.length c')) (hc : xs.length ≤ c) (hc' : ys.length ≤ c')
    (hA : RdI W A xs) (hA' : RdI W A' ys) : RdR W (some ⟨B, 0, none⟩) [xs, ys] := by
  refine ⟨fun k => if k = 0 then .slice A xs.length c else .slice A' ys.length c', fun k hk => ?_, fun k hk => ?_⟩
  · rcases (show k = 0 ∨ k = 1 by simp at hk; omega) with rfl | rfl
    · exact ⟨B, 0, rfl, by simpa using h0⟩
    · exact ⟨B, 0, rfl, by simpa using h1⟩
  · rcases (show k = 0 ∨ k = 1 by simp at hk; omega) with rfl | rfl
    · exact ⟨A, c, rfl, hc, hA⟩
    · exact ⟨A', c', rfl, hc', hA'⟩
def pickB (b : Int) (ps xs ys : List Int) : Bool := vecB b xs && (vecB b ys && decide (xs.length = ys.length)) && decide (ps.length = xs.length) && ps.all (fun i => inB i 0 (2 * (xs.length : Int) - 1))
def m_PickLanes (b : Int) (ps xs ys : List Int) : List Int × Bool := if pickB b ps xs ys then (pick (xs ++ ys) ps, true) else ([], false)
theorem m_PickLanes_len (b : Int) (ps xs ys : List Int) (h : ps.length ≤ 1048576) : (m_PickLanes b ps xs ys).1.length ≤ 1048576 := by
  unfold m_PickLanes; split
  · simpa [pick] using h
  · simp
theorem vecs_two (b : Int) (xs ys : List Int) : vecsB b [xs, ys] = (vecB b xs && (vecB b ys && decide (xs.length = ys.length))) := by
  have : rw_ [xs, ys] 0 = xs := rfl
  simp only [vecsB, List.all_cons, List.all_nil, Bool.and_true, this, decide_true]
  congr 2; rw [Bool.eq_iff_iff]; simp; omega
theorem pick_inB {ps xs ys : List Int} (hl : xs.length = ys.length) (h : (ps.all fun i => inB i 0 (2 * (xs.length : Int) - 1)) = true) : InB (xs ++ ys) ps := by
  intro k hk
  rw [List.all_eq_true] at h
  have := inB_iff.1 (h _ (el_mem hk))
  simp only [List.length_append]; omega

theorem i_PickLanes1 (W : World) (B : Nat) (A : Option Addr) (n c : Nat) (x : Int) (hn : n ≤ 1048576) (hb : W.cell? ⟨B, 0, none⟩ = some (.slice A n c)) :
    Calls Try.prog 157 #[.int .i64 x, .pointer (some ⟨B, 0, none⟩)] W fun e w' => e = .returned (.bool (inB x 0 (2 * (n : Int) - 1))) ∧ Below W.heap.size W w' := by
  have h0 : (0 : Int) ≤ n := by omega
  go_enter Try.func157, Try.ntmps157
  go_wp2_with (first | (go_at_call 90; refine (i_lengthI _ _ _ _).mono ?_; rintro e w' ⟨rfl, rfl⟩) | (go_at_call 98; refine (i_within _ _ _ _).mono ?_; rintro e w' ⟨rfl, rfl⟩))
  go_ret
  exact ⟨rfl, Below.refl _ _⟩
theorem two_rd (w : World) (A2 : Option Addr) (c2 : Nat) (xs : List Int) (A3 : Option Addr) (c3 : Nat) (ys : List Int) (hx : xs.length ≤ c2) (hy : ys.length ≤ c3) (h2 : RdI w A2 xs) (h3 : RdI w A3 ys) :
    RdR (w.alloc (.cells #[.slice A2 xs.length c2, .slice A3 ys.length c3] 24)) (some ⟨w.heap.size, 0, none⟩) [xs, ys] :=
  rdR_two (by simp) (by simp) hx hy (h2.below (ballocw w _)) (h3.below (ballocw w _))
theorem c_vecs (w : World) (b : Int) (A2 : Option Addr) (c2 : Nat) (xs : List Int) (A3 : Option Addr) (c3 : Nat) (ys : List Int) (hx : xs.length ≤ c2) (hy : ys.length ≤ c3) (hl2 : xs.length ≤ 1048576) (hl3 : ys.length ≤ 1048576) (h2 : RdI w A2 xs) (h3 : RdI w A3 ys) :
    Calls Try.prog 156 #[.int .i64 b, .slice (some ⟨w.heap.size, 0, none⟩) 2 2] (w.alloc (.cells #[.slice A2 xs.length c2, .slice A3 ys.length c3] 24))
      fun e w' => e = .returned (.bool (vecB b xs && (vecB b ys && decide (xs.length = ys.length)))) ∧ Below w.heap.size w w' := by
  have h := i_areVectors _ b (some ⟨w.heap.size, 0, none⟩) 2 [xs, ys] (by simp) (by simp; omega) (two_rd w A2 c2 xs A3 c3 ys hx hy h2 h3)
  rw [vecs_two] at h
  exact h.mono fun e w' ⟨he, hb⟩ => ⟨he, bthen (ballocw w _) hb⟩
theorem c_cat (w : World) (A2 : Option Addr) (c2 : Nat) (xs : List Int) (A3 : Option Addr) (c3 : Nat) (ys : List Int) (hx : xs.length ≤ c2) (hy : ys.length ≤ c3) (hl2 : xs.length ≤ 1048576) (hl3 : ys.length ≤ 1048576) (hll : xs.length + ys.length ≤ 1048576) (h2 : RdI w A2 xs) (h3 : RdI w A3 ys) :
    Calls Try.prog 158 #[.slice (some ⟨w.heap.size, 0, none⟩) 2 2] (w.alloc (.cells #[.slice A2 xs.length c2, .slice A3 ys.length c3] 24))
      fun e w' => ∃ A c, e = .returned (.slice A (xs ++ ys).length c) ∧ RdI w' A (xs ++ ys) ∧ Below w.heap.size w w' := by
  have h := g_Concat _ (some ⟨w.heap.size, 0, none⟩) 2 [xs, ys] (by simp) (by simp; omega) (two_rd w A2 c2 xs A3 c3 ys hx hy h2 h3)
  have e : [xs, ys].flatten = xs ++ ys := by simp
  rw [e] at h
  refine h.mono ?_
  rintro en w' ⟨v, rfl, ho, hb⟩
  obtain ⟨A, c, rfl, _, _, hr⟩ := ho.int
  exact ⟨A, c, rfl, hr, bthen (ballocw w _) hb⟩
theorem c_all (w : World) (B : Nat) (A1 : Option Addr) (c1 : Nat) (ps : List Int) (A2 : Option Addr) (c2 n : Nat) (hl1 : ps.length ≤ 1048576) (hn : n ≤ 1048576) (h1 : RdI w A1 ps) (hB : w.cell? ⟨B, 0, none⟩ = some (.slice A2 n c2)) :
    Calls Try.prog 113 #[.slice A1 ps.length c1, .func (.func 157) #[] #[.pointer (some ⟨B, 0, none⟩)]] w
      fun e w' => e = .returned (.bool (ps.all fun i => inB i 0 (2 * (n : Int) - 1))) ∧ Below w.heap.size w w' := by
  have h := areAllI w A1 ps.length c1 (fun k => .int .i64 (el ps k)) 157 #[.pointer (some ⟨B, 0, none⟩)] (fun k => inB (el ps k) 0 (2 * (n : Int) - 1)) (by omega) h1 (enters_of Try.func157 (by kernel_rfl) rfl)
    (fun W hW k hk => i_PickLanes1 W B A2 n c2 (el ps k) hn (bcell hW hB))
  rw [allN_ints ps (fun x => inB x 0 (2 * (n : Int) - 1))] at h
  exact h
abbrev WP (w : World) (A2 : Option Addr) (n2 c2 : Nat) : World := w.alloc (.cells #[.slice A2 n2 c2] 24)
abbrev WP2 (W : World) (A2 : Option Addr) (n2 c2 : Nat) (A3 : Option Addr) (n3 c3 : Nat) : World := W.alloc (.cells #[.slice A2 n2 c2, .slice A3 n3 c3] 24)
abbrev AnsB (b : Bool) (Q : World → Prop) : Ending → World → Prop := fun e w' => e = .returned (.bool b) ∧ Q w'
set_option maxRecDepth 100000 in
theorem i_PKa (w : World) (b : Int) (A1 : Option Addr) (n1 c1 : Nat) (A2 : Option Addr) (n2 c2 : Nat) (A3 : Option Addr) (n3 c3 : Nat) (Q : World → Prop)
    (hv : Hid (Calls Try.prog 156 #[.int .i64 b, .slice (some ⟨w.heap.size + 1, 0, none⟩) 2 2] (WP2 (WP w A2 n2 c2) A2 n2 c2 A3 n3 c3) (AnsB false Q))) :
    Calls Try.prog 72 #[.int .i64 b, .slice A1 n1 c1, .slice A2 n2 c2, .slice A3 n3 c3] w fun e w' => e = .returned (.tuple #[.slice none 0 0, .bool false]) ∧ Q w' := by
  go_enter Try.func72, Try.ntmps72
  go_wp2_with fail
  refine hv.out.mono ?_
  rintro e w1 ⟨rfl, hq⟩
  go_wp2_with fail
  go_ret2
  exact ⟨rfl, hq⟩
set_option maxRecDepth 100000 in
theorem i_PKb (w : World) (b : Int) (A1 : Option Addr) (n1 c1 : Nat) (A2 : Option Addr) (n2 c2 : Nat) (A3 : Option Addr) (n3 c3 : Nat) (Q : World → Prop) (hne : ((n1 : Int) != (n2 : Int)) = true) (hl1 : n1 ≤ 1048576) (hl2 : n2 ≤ 1048576)
    (hv : Hid (Calls Try.prog 156 #[.int .i64 b, .slice (some ⟨w.heap.size + 1, 0, none⟩) 2 2] (WP2 (WP w A2 n2 c2) A2 n2 c2 A3 n3 c3) (AnsB true Q))) (hc : Hid (∀ W, Q W → W.cell? ⟨w.heap.size, 0, none⟩ = some (.slice A2 n2 c2))) :
    Calls Try.prog 72 #[.int .i64 b, .slice A1 n1 c1, .slice A2 n2 c2, .slice A3 n3 c3] w fun e w' => e = .returned (.tuple #[.slice none 0 0, .bool false]) ∧ Q w' := by
  go_enter Try.func72, Try.ntmps72
  go_wp2_with fail
  refine hv.out.mono ?_
  rintro e w1 ⟨rfl, hq⟩
  have hcW := hc.out _ hq
  go_wp2_with fail
  go_ret2
  exact ⟨rfl, hq⟩
set_option maxRecDepth 100000 in
theorem i_PKc (w : World) (b : Int) (A1 : Option Addr) (n1 c1 : Nat) (A2 : Option Addr) (n2 c2 : Nat) (A3 : Option Addr) (n3 c3 : Nat) (Q : World → Prop) (hne : ((n1 : Int) != (n2 : Int)) = false) (hl1 : n1 ≤ 1048576) (hl2 : n2 ≤ 1048576)
    (hv : Hid (Calls Try.prog 156 #[.int .i64 b, .slice (some ⟨w.heap.size + 1, 0, none⟩) 2 2] (WP2 (WP w A2 n2 c2) A2 n2 c2 A3 n3 c3) (AnsB true Q))) (hc : Hid (∀ W, Q W → W.cell? ⟨w.heap.size, 0, none⟩ = some (.slice A2 n2 c2)))
    (Q2 : World → Prop) (ha : Hid (∀ W, Q W → Calls Try.prog 113 #[.slice A1 n1 c1, .func (.func 157) #[] #[.pointer (some ⟨w.heap.size, 0, none⟩)]] W (AnsB false Q2))) :
    Calls Try.prog 72 #[.int .i64 b, .slice A1 n1 c1, .slice A2 n2 c2, .slice A3 n3 c3] w fun e w' => e = .returned (.tuple #[.slice none 0 0, .bool false]) ∧ Q2 w' := by
  go_enter Try.func72, Try.ntmps72
  go_wp2_with fail
  refine hv.out.mono ?_
  rintro e w1 ⟨rfl, hq⟩
  have hcW := hc.out _ hq
  go_wp2_with fail
  refine (ha.out _ hq).mono ?_
  rintro e w2 ⟨rfl, hq2⟩
  go_wp2_with fail
  go_ret2
  exact ⟨rfl, hq2⟩
set_option maxRecDepth 100000 in
theorem i_PKd (w : World) (b : Int) (A1 : Option Addr) (n1 c1 : Nat) (A2 : Option Addr) (n2 c2 : Nat) (A3 : Option Addr) (n3 c3 : Nat) (Q : World → Prop) (hne : ((n1 : Int) != (n2 : Int)) = false) (hl1 : n1 ≤ 1048576) (hl2 : n2 ≤ 1048576)
    (hv : Hid (Calls Try.prog 156 #[.int .i64 b, .slice (some ⟨w.heap.size + 1, 0, none⟩) 2 2] (WP2 (WP w A2 n2 c2) A2 n2 c2 A3 n3 c3) (AnsB true Q))) (hc : Hid (∀ W, Q W → W.cell? ⟨w.heap.size, 0, none⟩ = some (.slice A2 n2 c2)))
    (Q2 : World → Prop) (ha : Hid (∀ W, Q W → Calls Try.prog 113 #[.slice A1 n1 c1, .func (.func 157) #[] #[.pointer (some ⟨w.heap.size, 0, none⟩)]] W (AnsB true Q2))) (hc2 : Hid (∀ W, Q2 W → W.cell? ⟨w.heap.size, 0, none⟩ = some (.slice A2 n2 c2)))
    (Q3 : Value → World → Prop) (hca : Hid (∀ W, Q2 W → Calls Try.prog 158 #[.slice (some ⟨W.heap.size, 0, none⟩) 2 2] (WP2 W A2 n2 c2 A3 n3 c3) fun e w' => ∃ v, e = .returned v ∧ Q3 v w'))
    (Q4 : Value → World → Prop) (hpk : Hid (∀ W v, Q3 v W → Calls Try.prog 96 #[v, .slice A1 n1 c1] W fun e w' => ∃ v, e = .returned v ∧ Q4 v w')) :
    Calls Try.prog 72 #[.int .i64 b, .slice A1 n1 c1, .slice A2 n2 c2, .slice A3 n3 c3] w fun e w' => ∃ v, e = .returned (.tuple #[v, .bool true]) ∧ Q4 v w' := by
  go_enter Try.func72, Try.ntmps72
  go_wp2_with fail
  refine hv.out.mono ?_
  rintro e w1 ⟨rfl, hq⟩
  have hcW := hc.out _ hq
  go_wp2_with fail
  refine (ha.out _ hq).mono ?_
  rintro e w2 ⟨rfl, hq2⟩
  clear hcW
  have hcW2 := hc2.out _ hq2
  go_wp2_with fail
  refine (hca.out _ hq2).mono ?_
  rintro e w3 ⟨v3, rfl, hq3⟩
  clear hcW2
  go_wp2_with fail
  refine (hpk.out _ _ hq3).mono ?_
  rintro e w4 ⟨v, rfl, hq4⟩
  go_wp2_with fail
  go_ret2
  exact ⟨_, rfl, hq4⟩
theorem i_PickLanes (w : World) (b : Int) (A1 : Option Addr) (c1 : Nat) (ps : List Int) (A2 : Option Addr) (c2 : Nat) (xs : List Int) (A3 : Option Addr) (c3 : Nat) (ys : List Int)
    (hl1 : ps.length ≤ 1048576) (hw : ps.length ≤ c1) (h1 : RdI w A1 ps) (hl2 : xs.length ≤ 1048576) (hx : xs.length ≤ c2) (h2 : RdI w A2 xs) (hl3 : ys.length ≤ 1048576) (hy : ys.length ≤ c3) (h3 : RdI w A3 ys) :
    Calls Try.prog 72 #[.int .i64 b, .slice A1 ps.length c1, .slice A2 xs.length c2, .slice A3 ys.length c3] w (RetIB w (m_PickLanes b ps xs ys)) := by
  have hb0 : Below w.heap.size w (WP w A2 xs.length c2) := ballocw w _
  have hS : (WP w A2 xs.length c2).heap.size = w.heap.size + 1 := by simp [WP]
  have hcB : (WP w A2 xs.length c2).cell? ⟨w.heap.size, 0, none⟩ = some (.slice A2 xs.length c2) := by simp [WP]
  have hv := c_vecs (WP w A2 xs.length c2) b A2 c2 xs A3 c3 ys hx hy hl2 hl3 (h2.below hb0) (h3.below hb0)
  rw [hS] at hv
  have hcW : ∀ W, Below (w.heap.size + 1) (WP w A2 xs.length c2) W → W.cell? ⟨w.heap.size, 0, none⟩ = some (.slice A2 xs.length c2) := fun W hW => (hW.cell (by simp)).trans hcB
  have hbb : ∀ W, Below (w.heap.size + 1) (WP w A2 xs.length c2) W → Below w.heap.size w W := fun W hW => hb0.trans (hW.mono (by omega))
  have nil : ∀ {e : Ending} {w' : World}, m_PickLanes b ps xs ys = ([], false) → (e = .returned (.tuple #[.slice none 0 0, .bool false]) ∧ Below w.heap.size w w') → RetIB w (m_PickLanes b ps xs ys) e w' := by
    rintro e w' hm ⟨rfl, hb⟩
    rw [hm]
    exact ⟨_, rfl, Own.nil _ _ _ _ _, hb⟩
  cases hV : (vecB b xs && (vecB b ys && decide (xs.length = ys.length))) with
  | false =>
    rw [hV] at hv
    exact (i_PKa w b A1 ps.length c1 A2 xs.length c2 A3 ys.length c3 _ (hid hv)).mono fun e w' h => nil (by simp [m_PickLanes, pickB, hV]) ⟨h.1, hbb _ h.2⟩
  | true =>
    rw [hV] at hv
    have hV0 := hV
    simp only [Bool.and_eq_true, decide_eq_true_eq] at hV0
    obtain ⟨hV1, hV2, hV3⟩ := hV0
    have l1 := vecB_len hV1
    have l2 := vecB_len hV2
    cases hE : decide (ps.length = xs.length) with
    | false =>
      have hne : ((ps.length : Int) != (xs.length : Int)) = true := by rw [len_ne, hE]; rfl
      exact (i_PKb w b A1 ps.length c1 A2 xs.length c2 A3 ys.length c3 _ hne hl1 hl2 (hid hv) (hid hcW)).mono fun e w' h => nil (by simp only [m_PickLanes, pickB, hV, hE]; rfl) ⟨h.1, hbb _ h.2⟩
    | true =>
      have hne : ((ps.length : Int) != (xs.length : Int)) = false := by rw [len_ne, hE]; rfl
      have hall : ∀ W, Below (w.heap.size + 1) (WP w A2 xs.length c2) W → Calls Try.prog 113 #[.slice A1 ps.length c1, .func (.func 157) #[] #[.pointer (some ⟨w.heap.size, 0, none⟩)]] W
          (AnsB (ps.all fun i => inB i 0 (2 * (xs.length : Int) - 1)) fun w' => Below (w.heap.size + 1) (WP w A2 xs.length c2) w') := fun W hW =>
        (c_all W w.heap.size A1 c1 ps A2 c2 xs.length hl1 hl2 (h1.below (hbb W hW)) (hcW W hW)).mono fun e w' h => ⟨h.1, hW.trans (h.2.mono (by have := hW.size; omega))⟩
      cases hP : ps.all (fun i => inB i 0 (2 * (xs.length : Int) - 1)) with
      | false =>
        simp only [hP] at hall
        exact (i_PKc w b A1 ps.length c1 A2 xs.length c2 A3 ys.length c3 _ hne hl1 hl2 (hid hv) (hid hcW) _ (hid hall)).mono fun e w' h => nil (by simp only [m_PickLanes, pickB, hV, hE, hP]; rfl) ⟨h.1, hbb _ h.2⟩
      | true =>
        simp only [hP] at hall
        have hin := pick_inB hV3 hP
        have hm : m_PickLanes b ps xs ys = (pick (xs ++ ys) ps, true) := by simp only [m_PickLanes, pickB, hV, hE, hP]; rfl
        refine (i_PKd w b A1 ps.length c1 A2 xs.length c2 A3 ys.length c3 _ hne hl1 hl2 (hid hv) (hid hcW) _ (hid hall) (hid hcW)
          (fun v W => ∃ A c, v = .slice A (xs ++ ys).length c ∧ RdI W A (xs ++ ys) ∧ Below w.heap.size w W) (hid fun W hW => ?_)
          (fun v W => OI W w.heap.size W.heap.size v (pick (xs ++ ys) ps) ∧ Below w.heap.size w W) (hid ?_)).mono ?_
        · refine (c_cat W A2 c2 xs A3 c3 ys hx hy hl2 hl3 (by omega) (h2.below (hbb W hW)) (h3.below (hbb W hW))).mono ?_
          rintro e w' ⟨A, c, rfl, hr, hb⟩
          exact ⟨_, rfl, A, c, rfl, hr, bthen (hbb W hW) hb⟩
        · rintro W v ⟨A, c, rfl, hr, hb⟩
          refine (i_picked W A A1 c c1 (xs ++ ys) ps hin (by simp; omega) (by omega) hr (h1.below hb)).mono ?_
          rintro e w' ⟨v, rfl, ho, hb'⟩
          exact ⟨v, rfl, ho.wide hb.size (Nat.le_refl _), bthen hb hb'⟩
        · rintro e w' ⟨v, rfl, ho, hb⟩
          rw [hm]
          exact ⟨v, rfl, ho, hb⟩
end Go.Proofs.Ythgfcoafngddgaa
