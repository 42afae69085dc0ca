import Derived.Test.YtmpdaafkphpnoaaBfs3
set_option linter.unusedVariables false
set_option linter.unusedSimpArgs false
namespace Go.Proofs.Ytmpdaafkphpnoaa
open Go.RowKit

theorem seenB_idx (O : List PQ) (s : List Int) : decide (0 ≤ idxN (fun k => decide ((qel O k).2 = s)) O.length O.length) = seenB O s := by
  have h := idxN_all (fun k => !decide ((qel O k).2 = s)) O.length
  simp only [Bool.not_not] at h
  rw [h]
  unfold allN seenB
  rw [Bool.eq_iff_iff, Bool.not_eq_true', List.any_eq_true, ← Bool.not_eq_true, List.all_eq_true]
  constructor
  · intro q
    apply Classical.byContradiction
    intro r
    apply q
    intro k hk
    have hk := List.mem_range.1 hk
    simp only [Bool.not_eq_true', decide_eq_false_iff_not]
    intro e
    exact r ⟨qel O k, qel_mem hk, by simpa using e⟩
  · rintro ⟨p, hp, e⟩ q
    obtain ⟨k, hk, rfl⟩ := List.getElem_of_mem hp
    have := q k (List.mem_range.2 hk)
    have e2 := qel_get hk
    rw [List.getElem?_eq_getElem hk] at e2
    have e2 := Option.some.inj e2
    rw [← e2] at this
    simp only [decide_eq_true_eq] at e
    simp [e] at this
set_option maxRecDepth 100000 in
theorem i_eq11 (W : World) (B : Nat) (A1 A2 A3 : Option Addr) (n1 c1 c2 c3 : Nat) (xs ys : List Int) (hx : xs.length ≤ 1048576) (hy : ys.length ≤ 1048576) (hb : W.cell? ⟨B, 0, none⟩ = some (.slice A3 ys.length c3)) (h2 : RdI W A2 xs) (h3 : RdI W A3 ys) :
    Calls Try.prog 55 #[.agg #[.slice A1 n1 c1, .slice A2 xs.length c2], .pointer (some ⟨B, 0, none⟩)] W fun e w' => e = .returned (.bool (decide (xs = ys))) ∧ Below W.heap.size W w' := by
  have hbx := ballocw W (.cells #[.slice A1 n1 c1, .slice A2 xs.length c2] 58)
  have hbb := bcell hbx hb
  have CE := hid (g_Equal (W.alloc (.cells #[.slice A1 n1 c1, .slice A2 xs.length c2] 58)) A2 A3 c2 c3 xs ys (by omega) (by omega) (h2.below hbx) (h3.below hbx))
  have HB := hid hbx
  clear hbx h2 h3
  go_enter Try.func55, Try.ntmps55
  go_wp2_with fail
  refine CE.out.mono ?_
  rintro e w1 ⟨rfl, hb1⟩
  go_wp2_with fail
  go_ret
  exact ⟨rfl, bthen HB.out hb1⟩
set_option maxRecDepth 100000 in
theorem i_eqS1 (W : World) (B : Nat) (A1 A2 A3 : Option Addr) (n1 c1 c2 c3 : Nat) (xs ys : List Int) (hx : xs.length ≤ 1048576) (hy : ys.length ≤ 1048576) (hb : W.cell? ⟨B, 0, none⟩ = some (.slice A3 ys.length c3)) (h2 : RdI W A2 xs) (h3 : RdI W A3 ys) :
    Calls Try.prog 29 #[.agg #[.slice A1 n1 c1, .slice A2 xs.length c2], .pointer (some ⟨B, 0, none⟩)] W fun e w' => e = .returned (.bool (decide (xs = ys))) ∧ Below W.heap.size W w' := by
  have hbx := ballocw W (.cells #[.slice A1 n1 c1, .slice A2 xs.length c2] 58)
  have hbb := bcell hbx hb
  have CE := hid (g_Equal (W.alloc (.cells #[.slice A1 n1 c1, .slice A2 xs.length c2] 58)) A2 A3 c2 c3 xs ys (by omega) (by omega) (h2.below hbx) (h3.below hbx))
  have HB := hid hbx
  clear hbx h2 h3
  go_enter Try.func29, Try.ntmps29
  go_wp2_with fail
  refine CE.out.mono ?_
  rintro e w1 ⟨rfl, hb1⟩
  go_wp2_with fail
  go_ret
  exact ⟨rfl, bthen HB.out hb1⟩
set_option maxRecDepth 100000 in
theorem i_seen (W : World) (Bo : Nat) (A A3 : Option Addr) (c c3 : Nat) (O : List PQ) (s : List Int) (F : Nat → Value × Value) (hO : O.length ≤ 1048576) (hs : s.length ≤ 1048576) (hlen : ∀ k, k < O.length → (qel O k).2.length ≤ 1048576)
    (ho : W.cell? ⟨Bo, 0, none⟩ = some (.slice A O.length c)) (hR : RdQ W A O F) (hF : ∀ k, k < O.length → ∃ A1 n1 c1 A2 c2, F k = (.slice A1 n1 c1, .slice A2 (qel O k).2.length c2) ∧ RdI W A2 (qel O k).2) (h3 : RdI W A3 s) :
    Calls Try.prog 53 #[.slice A3 s.length c3, .pointer (some ⟨Bo, 0, none⟩)] W fun e w' => e = .returned (.bool (seenB O s)) ∧ Below W.heap.size W w' := by
  have hbx := ballocw W (.cells #[.slice A3 s.length c3] 27)
  have k1 : (W.alloc (.cells #[.slice A3 s.length c3] 27)).cell? ⟨W.heap.size, 0, none⟩ = some (.slice A3 s.length c3) := by simp
  have hoo := bcell hbx ho
  have cc := containsFuncQ (W.alloc (.cells #[.slice A3 s.length c3] 27)) A c O 55 #[.pointer (some ⟨W.heap.size, 0, none⟩)] (fun k => decide ((qel O k).2 = s)) (by omega) F (hR.below hbx) (enters_of Try.func55 (by kernel_rfl) rfl)
    (fun V hV k hk => by
      obtain ⟨A1, n1, c1, A2, c2, e, h2⟩ := hF k hk
      dsimp only
      rw [e]
      exact i_eq11 V W.heap.size A1 A2 A3 n1 c1 c2 c3 (qel O k).2 s (hlen k hk) hs (bcell hV k1) ((h2.below hbx).below hV) ((h3.below hbx).below hV))
  rw [seenB_idx] at cc
  have CC := hid cc
  have HB := hid hbx
  clear cc hR hF h3 k1 hlen hbx ho
  generalize seenB O s = r at *
  go_enter Try.func53, Try.ntmps53
  go_wp2_with fail
  refine CC.out.mono ?_
  rintro e w1 ⟨rfl, hb1⟩
  go_wp2_with fail
  go_ret
  exact ⟨rfl, bthen HB.out hb1⟩
theorem i_sameR1 (W : World) (k : Nat) : Calls Try.prog 86 #[.int .i64 (k : Nat)] W fun e w' => e = .returned (.int .i64 (k : Nat)) ∧ Below W.heap.size W w' := by
  go_enter Try.func86, Try.ntmps86
  go_wp2
  go_ret
  exact ⟨rfl, Below.refl _ _⟩
theorem i_sameR (w : World) (n : Nat) (hn : n ≤ 1048576) : Calls Try.prog 51 #[.int .i64 (n : Nat)] w fun e w' => ∃ A c, e = .returned (.slice A n c) ∧ OwnI w' w.heap.size w'.heap.size 2 (.slice A n c) (idl n) ∧ Below w.heap.size w w' := by
  have c0 := i_lanesOf w n 86 #[] (fun k => (k : Int)) (by omega) (enters_of Try.func86 (by kernel_rfl) rfl) (fun W hW k hk => i_sameR1 W k)
  have C0 : Hid (Calls Try.prog 46 #[.int .i64 (n : Nat), .func (.func 86) #[] #[]] w (RetI w 2 (idl n))) := hid c0
  clear c0
  go_enter Try.func51, Try.ntmps51
  go_wp2_with fail
  refine C0.out.mono ?_
  rintro e w1 ⟨v, rfl, ho, hb1⟩
  obtain ⟨A, c, rfl, _, _, _⟩ := Own.int ho
  go_wp2_with fail
  go_ret
  rw [idl_length] at *
  exact ⟨A, c, rfl, by simpa [idl_length] using ho, hb1⟩
end Go.Proofs.Ytmpdaafkphpnoaa
