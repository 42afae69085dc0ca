import Derived.Test.YtnnioicjmlfllaaGreatDoorStm
import Derived.Test.YtnnioicjmlfllaaGreatDoorFn
import Derived.Test.YtnnioicjmlfllaaGreatDoorWord
set_option linter.unusedVariables false
set_option linter.unusedSimpArgs false
namespace Go.Proofs.YtnnioicjmlfllaaGreatDoor
open Go.RowKit

theorem indexFuncC (w : World) (A : Option Addr) (c : Nat) (xs : List SmV) (g : Nat) (lb : Array Value) (p : Nat → Bool) (hl : xs.length ≤ 9223372036854775807)
    (hR : RdC w A xs) (eg : Ent Tryz.prog g) (hp : Fv Tryz.prog w g lb xs.length (fun k => sv (sel xs k)) p) :
    Calls Tryz.prog 179 #[.slice A xs.length c, .func (.func g) #[] lb] w fun e w' => e = .returned (.int .i64 (idxN p xs.length xs.length)) ∧ Below w.heap.size w w' := by
  go_enter Tryz.func179, Tryz.ntmps179
  go_wp2
  go_loopg [5, 8] xs.length (fun gg _ s8 wr => ∃ k : Nat, k ≤ xs.length ∧ xs.length - k ≤ gg ∧ s8 = .int .i64 k ∧ Aside (Below w.heap.size w wr) ∧ Aside (idxN p xs.length xs.length = idxN p xs.length (xs.length - k)))
  case atStart => exact ⟨0, Nat.zero_le _, by omega, rfl, Below.refl _ w, rfl⟩
  case round =>
    obtain ⟨k, hk, hg, rfl, BW, IX⟩ := hrel
    by_cases hlt : k < xs.length
    · obtain ⟨b, off, rfl, g1⟩ := RdC.below hR BW.out k hlt
      obtain ⟨e1, e2, e3, e4⟩ := g1
      have hcall := hp wr BW.out k hlt
      have hltz : (k : Int) < (xs.length : Int) := by omega
      have IX' : Aside (idxN p xs.length xs.length = if p k then (k : Int) else idxN p xs.length (xs.length - (k + 1))) := by
        have := IX.out; rw [idxN_step hlt] at this; exact this
      clear IX hR hp
      have hcall : Calls Tryz.prog g (#[sv (sel xs k)] ++ lb) wr _ := hcall
      generalize sel xs k = x at e1 e2 e3 e4 hcall
      obtain ⟨xo, xd, xa, xb⟩ := x
      cases hq : p k with
      | true =>
        rw [hq] at hcall
        have IX'' : Aside (idxN p xs.length xs.length = k) := by have := IX'.out; rw [hq] at this; exact this
        clear hq IX'
        go_wp2_with (go_at_fn g; refine hcall.mono ?_; rintro e w' ⟨rfl, hb'⟩)
        go_ret
        exact ⟨by rw [IX''.out]; rfl, bthen BW.out hb'⟩
      | false =>
        rw [hq] at hcall
        have IX'' : Aside (idxN p xs.length xs.length = idxN p xs.length (xs.length - (k + 1))) := by have := IX'.out; rw [hq] at this; exact this
        clear hq IX'
        go_wp2_with (go_at_fn g; refine hcall.mono ?_; rintro e w' ⟨rfl, hb'⟩)
        go_roundg (xs.length - (k + 1))
        case measure => omega
        case rel => exact ⟨k + 1, by omega, by omega, by go_num, bthen BW.out hb', IX''⟩
    · have hltz : ¬ (k : Int) < (xs.length : Int) := by omega
      have : k = xs.length := by omega
      subst this
      have IX' : Aside (idxN p xs.length xs.length = -1) := by have := IX.out; rw [Nat.sub_self] at this; exact this
      clear IX
      go_wp2
      go_ret
      exact ⟨by rw [IX'.out]; rfl, BW.out⟩
theorem containsFuncC (w : World) (A : Option Addr) (c : Nat) (xs : List SmV) (g : Nat) (lb : Array Value) (p : Nat → Bool) (hl : xs.length ≤ 9223372036854775807)
    (hR : RdC w A xs) (eg : Ent Tryz.prog g) (hp : Fv Tryz.prog w g lb xs.length (fun k => sv (sel xs k)) p) :
    Calls Tryz.prog 127 #[.slice A xs.length c, .func (.func g) #[] lb] w fun e w' => e = .returned (.bool (decide (0 ≤ idxN p xs.length xs.length))) ∧ Below w.heap.size w w' := by
  have hc := indexFuncC w A c xs g lb p hl hR eg hp
  generalize idxN p xs.length xs.length = r at hc
  clear hR hp
  go_enter Tryz.func127, Tryz.ntmps127
  go_wp2_with (go_at_call 179; refine hc.mono ?_; rintro e w' ⟨rfl, hb'⟩)
  go_ret
  exact ⟨rfl, hb'⟩
theorem areAll1C (W : World) (B : Nat) (g : Nat) (lb : Array Value) (x : SmV) (b : Bool) (eg : Ent Tryz.prog g)
    (hc : W.cell? ⟨B, 0, none⟩ = some (.func (.func g) #[] lb)) (hp : ∀ W', Below W.heap.size W W' → Calls Tryz.prog g (#[sv x] ++ lb) W' fun e w' => e = .returned (.bool b) ∧ Below W'.heap.size W' w') :
    Calls Tryz.prog 128 #[sv x, .pointer (some ⟨B, 0, none⟩)] W fun e w' => e = .returned (.bool (!b)) ∧ Below W.heap.size W w' := by
  obtain ⟨xo, xd, xa, xb⟩ := x
  have hb0 := ballocw W (.cells #[.int .i64 xo, .int .i64 xd, .int .i64 xa, .int .i64 xb] 45)
  have hp0 := hp _ hb0
  have hc0 := bcell hb0 hc
  clear hp hc
  go_enter Tryz.func128, Tryz.ntmps128
  go_wp2_with (go_at_fn g; refine hp0.mono ?_; rintro e w' ⟨rfl, hb'⟩)
  go_ret
  exact ⟨rfl, bthen hb0 hb'⟩
theorem areAllC (w : World) (A : Option Addr) (c : Nat) (xs : List SmV) (g : Nat) (lb : Array Value) (p : Nat → Bool) (hl : xs.length ≤ 9223372036854775807)
    (hR : RdC w A xs) (eg : Ent Tryz.prog g) (hp : Fv Tryz.prog w g lb xs.length (fun k => sv (sel xs k)) p) :
    Calls Tryz.prog 82 #[.slice A xs.length c, .func (.func g) #[] lb] w fun e w' => e = .returned (.bool (allN xs.length p)) ∧ Below w.heap.size w w' := by
  have hb1 : Below w.heap.size w (w.alloc (.cells #[.func (.func g) #[] lb] 128)) := ballocw _ _
  have hcont := containsFuncC (w.alloc (.cells #[.func (.func g) #[] lb] 128)) A c xs 128 #[.pointer (some ⟨w.heap.size, 0, none⟩)] (fun k => !p k) hl (hR.below hb1)
    (enters_of Tryz.func128 (by kernel_rfl) rfl) (fun W hW k hk => areAll1C W w.heap.size g lb (sel xs k) (p k) eg ((hW.cell (p := ⟨w.heap.size, 0, none⟩) (by simp)).trans (by simp))
      (fun W' hW' => hp W' (bthen' (hb1.trans (hW.mono hb1.size)) hW' (bthen hb1 hW).size) k hk))
  have hcc := hcont.mono (fun e w' ⟨h1, h2⟩ => (⟨h1, bthen hb1 h2⟩ : e = Ending.returned (.bool (decide (0 ≤ idxN (fun k => !p k) xs.length xs.length))) ∧ Below w.heap.size w w'))
  rw [idxN_all] at hcc
  clear hcont hp hR hb1
  generalize allN xs.length p = r at hcc
  go_enter Tryz.func82, Tryz.ntmps82
  go_wp2_with (go_at_call 127; refine hcc.mono ?_; rintro e w' ⟨rfl, hb'⟩)
  go_ret
  exact ⟨by simp, hb'⟩
theorem allN_stms (xs : List SmV) (p : SmV → Bool) : allN xs.length (fun k => p (sel xs k)) = xs.all p := by
  unfold allN
  rw [Bool.eq_iff_iff, List.all_eq_true, List.all_eq_true]
  constructor
  · intro h x hx
    obtain ⟨k, hk, rfl⟩ := List.getElem_of_mem hx
    have := h k (List.mem_range.2 hk)
    have e := sel_get hk; rw [List.getElem?_eq_getElem hk] at e; rw [Option.some.inj e]; exact this
  · intro h k hk
    exact h _ (sel_mem (List.mem_range.1 hk))
/-- A valid statement; valid code. -/
def stmB (x : SmV) : Bool := inB x.o 0 17 && (inB x.d 0 31 && (inB x.a 0 31 && inB x.b 0 31))
def codeB (xs : List SmV) : Bool := decide (xs.length ≤ 16) && xs.all stmB
theorem codeB_len {xs : List SmV} (h : codeB xs = true) : xs.length ≤ 16 := by unfold codeB at h; simp at h; exact h.1
theorem codeB_at {xs : List SmV} (h : codeB xs = true) {k : Nat} (hk : k < xs.length) : (0 ≤ (sel xs k).o ∧ (sel xs k).o ≤ 17) ∧ (0 ≤ (sel xs k).d ∧ (sel xs k).d ≤ 31) ∧ (0 ≤ (sel xs k).a ∧ (sel xs k).a ≤ 31) ∧ (0 ≤ (sel xs k).b ∧ (sel xs k).b ≤ 31) := by
  unfold codeB at h
  simp only [Bool.and_eq_true, List.all_eq_true] at h
  have := h.2 _ (sel_mem hk)
  simp only [stmB, Bool.and_eq_true, inB_iff] at this
  exact ⟨this.1, this.2.1, this.2.2.1, this.2.2.2⟩
/-- A statement must follow another one. -/
def folB (x y : SmV) : Bool := x.d == y.a || (x.d == y.b || (x.d == y.d || (y.d == x.a || y.d == x.b)))
theorem i_isOp (n : Int) (w : World) : Calls Tryz.prog 84 #[.int .i64 n] w fun e w' => e = .returned (.bool (inB n 0 17)) ∧ w = w' := by
  have h := i_within n 0 17 w
  generalize inB n 0 17 = r at h
  go_enter Tryz.func84, Tryz.ntmps84
  go_wp2_with (go_at_call 118; refine h.mono ?_; rintro e w' ⟨rfl, rfl⟩)
  go_ret
  exact ⟨rfl, rfl⟩
theorem i_isCell (n : Int) (w : World) : Calls Tryz.prog 85 #[.int .i64 n] w fun e w' => e = .returned (.bool (inB n 0 31)) ∧ w = w' := by
  have h := i_within n 0 31 w
  generalize inB n 0 31 = r at h
  go_enter Tryz.func85, Tryz.ntmps85
  go_wp2_with (go_at_call 118; refine h.mono ?_; rintro e w' ⟨rfl, rfl⟩)
  go_ret
  exact ⟨rfl, rfl⟩

theorem i_ValidCode1 (W : World) (x : SmV) : Calls Tryz.prog 83 #[sv x] W fun e w' => e = .returned (.bool (stmB x)) ∧ Below W.heap.size W w' := by
  obtain ⟨o, d, a, b⟩ := x
  have q0 := fun w => i_isOp o w
  have q1 := fun w => i_isCell d w
  have q2 := fun w => i_isCell a w
  have q3 := fun w => i_isCell b w
  have HS : Hid (stmB ⟨o, d, a, b⟩ = (inB o 0 17 && (inB d 0 31 && (inB a 0 31 && inB b 0 31)))) := hid rfl
  generalize stmB ⟨o, d, a, b⟩ = r at HS ⊢
  generalize inB o 0 17 = r0 at *
  generalize inB d 0 31 = r1 at *
  generalize inB a 0 31 = r2 at *
  generalize inB b 0 31 = r3 at *
  have H0 := hid q0
  have H1 := hid q1
  have H2 := hid q2
  have H3 := hid q3
  clear q0 q1 q2 q3
  cases r0 with
  | false =>
    have HS : Hid (r = false) := hid (by rw [HS.out]; simp)
    go_enter Tryz.func83, Tryz.ntmps83
    go_wp2_with fail
    refine (H0.out _).mono ?_
    rintro e w' ⟨rfl, rfl⟩
    go_wp2_with fail
    go_ret
    exact ⟨ret_b (by rw [HS.out]), ballocw _ _⟩
  | true =>
    cases r1 with
    | false =>
      have HS : Hid (r = false) := hid (by rw [HS.out]; simp)
      go_enter Tryz.func83, Tryz.ntmps83
      go_wp2_with fail
      refine (H0.out _).mono ?_
      rintro e w' ⟨rfl, rfl⟩
      go_wp2_with fail
      refine (H1.out _).mono ?_
      rintro e w' ⟨rfl, rfl⟩
      go_wp2_with fail
      go_ret
      exact ⟨ret_b (by rw [HS.out]), ballocw _ _⟩
    | true =>
      cases r2 with
      | false =>
        have HS : Hid (r = false) := hid (by rw [HS.out]; simp)
        go_enter Tryz.func83, Tryz.ntmps83
        go_wp2_with fail
        refine (H0.out _).mono ?_
        rintro e w' ⟨rfl, rfl⟩
        go_wp2_with fail
        refine (H1.out _).mono ?_
        rintro e w' ⟨rfl, rfl⟩
        go_wp2_with fail
        refine (H2.out _).mono ?_
        rintro e w' ⟨rfl, rfl⟩
        go_wp2_with fail
        go_ret
        exact ⟨ret_b (by rw [HS.out]), ballocw _ _⟩
      | true =>
        cases r3 with
        | false =>
          have HS : Hid (r = false) := hid (by rw [HS.out]; simp)
          go_enter Tryz.func83, Tryz.ntmps83
          go_wp2_with fail
          refine (H0.out _).mono ?_
          rintro e w' ⟨rfl, rfl⟩
          go_wp2_with fail
          refine (H1.out _).mono ?_
          rintro e w' ⟨rfl, rfl⟩
          go_wp2_with fail
          refine (H2.out _).mono ?_
          rintro e w' ⟨rfl, rfl⟩
          go_wp2_with fail
          refine (H3.out _).mono ?_
          rintro e w' ⟨rfl, rfl⟩
          go_wp2_with fail
          go_ret
          exact ⟨ret_b (by rw [HS.out]), ballocw _ _⟩
        | true =>
          have HS : Hid (r = true) := hid (by rw [HS.out]; rfl)
          go_enter Tryz.func83, Tryz.ntmps83
          go_wp2_with fail
          refine (H0.out _).mono ?_
          rintro e w' ⟨rfl, rfl⟩
          go_wp2_with fail
          refine (H1.out _).mono ?_
          rintro e w' ⟨rfl, rfl⟩
          go_wp2_with fail
          refine (H2.out _).mono ?_
          rintro e w' ⟨rfl, rfl⟩
          go_wp2_with fail
          refine (H3.out _).mono ?_
          rintro e w' ⟨rfl, rfl⟩
          go_wp2_with fail
          go_ret
          exact ⟨ret_b (by rw [HS.out]), ballocw _ _⟩
theorem i_ValidCode (w : World) (A : Option Addr) (c : Nat) (xs : List SmV) (hl : xs.length ≤ 1048576) (hR : RdC w A xs) :
    Calls Tryz.prog 37 #[.slice A xs.length c] w fun e w' => e = .returned (.bool (codeB xs)) ∧ Below w.heap.size w w' := by
  have hall := areAllC w A c xs 83 #[] (fun k => stmB (sel xs k)) (by omega) hR (enters_of Tryz.func83 (by kernel_rfl) rfl) (fun W hW k hk => i_ValidCode1 W (sel xs k))
  rw [allN_stms] at hall
  clear hR
  unfold codeB
  generalize xs.all stmB = r at hall ⊢
  by_cases h : xs.length ≤ 16
  · have h' : (xs.length : Int) ≤ 16 := by omega
    go_enter Tryz.func37, Tryz.ntmps37
    go_wp2_with fail
    refine hall.mono ?_
    rintro e w1 ⟨rfl, hb1⟩
    go_wp2_with fail
    go_ret
    exact ⟨ret_b (by simp [h]), hb1⟩
  · have h' : ¬ (xs.length : Int) ≤ 16 := by omega
    clear hall
    go_enter Tryz.func37, Tryz.ntmps37
    go_wp2_with fail
    go_ret
    exact ⟨ret_b (by simp [h]), Below.refl _ _⟩

set_option maxRecDepth 100000 in
theorem i_follows (w : World) (x y : SmV) : Calls Tryz.prog 41 #[sv x, sv y] w fun e w' => e = .returned (.bool (folB x y)) ∧ Below w.heap.size w w' := by
  obtain ⟨o1, d1, a1, b1⟩ := x; obtain ⟨o2, d2, a2, b2⟩ := y
  have HS : Hid (folB ⟨o1, d1, a1, b1⟩ ⟨o2, d2, a2, b2⟩ = (d1 == a2 || (d1 == b2 || (d1 == d2 || (d2 == a1 || d2 == b1))))) := hid rfl
  generalize folB ⟨o1, d1, a1, b1⟩ ⟨o2, d2, a2, b2⟩ = r at HS ⊢
  cases h0 : (d1 == a2) with
  | true =>
    have HF : Hid (r = true) := hid (by rw [HS.out, h0]; simp)
    go_enter Tryz.func41, Tryz.ntmps41
    go_wp2
    go_ret
    exact ⟨ret_b (by rw [HF.out]), balloc (ballocw _ _) _⟩
  | false =>
    cases h1 : (d1 == b2) with
    | true =>
      have HF : Hid (r = true) := hid (by rw [HS.out, h0, h1]; simp)
      go_enter Tryz.func41, Tryz.ntmps41
      go_wp2
      go_ret
      exact ⟨ret_b (by rw [HF.out]), balloc (ballocw _ _) _⟩
    | false =>
      cases h2 : (d1 == d2) with
      | true =>
        have HF : Hid (r = true) := hid (by rw [HS.out, h0, h1, h2]; simp)
        go_enter Tryz.func41, Tryz.ntmps41
        go_wp2
        go_ret
        exact ⟨ret_b (by rw [HF.out]), balloc (ballocw _ _) _⟩
      | false =>
        cases h3 : (d2 == a1) with
        | true =>
          have HF : Hid (r = true) := hid (by rw [HS.out, h0, h1, h2, h3]; simp)
          go_enter Tryz.func41, Tryz.ntmps41
          go_wp2
          go_ret
          exact ⟨ret_b (by rw [HF.out]), balloc (ballocw _ _) _⟩
        | false =>
          cases h4 : (d2 == b1) with
          | true =>
            have HF : Hid (r = true) := hid (by rw [HS.out, h0, h1, h2, h3, h4]; simp)
            go_enter Tryz.func41, Tryz.ntmps41
            go_wp2
            go_ret
            exact ⟨ret_b (by rw [HF.out]), balloc (ballocw _ _) _⟩
          | false =>
            have HF : Hid (r = false) := hid (by rw [HS.out, h0, h1, h2, h3, h4]; rfl)
            go_enter Tryz.func41, Tryz.ntmps41
            go_wp2
            go_ret
            exact ⟨ret_b (by rw [HF.out]), balloc (ballocw _ _) _⟩
set_option maxRecDepth 100000 in
set_option maxHeartbeats 1000000 in
theorem s_l03Must (w : World) (b off b' off' : Nat) (x y : SmV) (hx : SAt w b off x) (hy : SAt w b' off' y) :
    Calls Tryz.prog 35 #[.pointer (some ⟨b, off, none⟩), .pointer (some ⟨b', off', none⟩)] w fun e w' => e = .returned (.bool (folB x y)) ∧ Below w.heap.size w w' := by
  obtain ⟨o1, d1, a1, b1⟩ := x; obtain ⟨o2, d2, a2, b2⟩ := y
  have HS : Hid (folB ⟨o1, d1, a1, b1⟩ ⟨o2, d2, a2, b2⟩ = (d1 == a2 || (d1 == b2 || (d1 == d2 || (d2 == a1 || d2 == b1))))) := hid rfl
  generalize folB ⟨o1, d1, a1, b1⟩ ⟨o2, d2, a2, b2⟩ = r at HS ⊢
  obtain ⟨_, x1, x2, x3⟩ := hx
  obtain ⟨_, y1, y2, y3⟩ := hy
  have x1 := lcell x1
  have x2 := lcell x2
  have x3 := lcell x3
  have y1 := lcell y1
  have y2 := lcell y2
  have y3 := lcell y3
  cases h0 : (d1 == a2) with
  | true =>
    have HF : Hid (r = true) := hid (by rw [HS.out, h0]; simp)
    go_enter Tryz.func35, Tryz.ntmps35
    go_wp2
    refine wp_region_calm (by kernel_rfl) (by kernel_rfl) ?_
    repeat (go_big_quiet_step (fail))
    refine wpQuiet_nil ?_
    intro _ hw'
    obtain ⟨xq, hw''⟩ := hw'
    subst hw''
    go_wp2_with fail
    go_ret
    exact ⟨ret_b (by rw [HF.out]), xq.below⟩
  | false =>
    cases h1 : (d1 == b2) with
    | true =>
      have HF : Hid (r = true) := hid (by rw [HS.out, h0, h1]; simp)
      go_enter Tryz.func35, Tryz.ntmps35
      go_wp2
      refine wp_region_calm (by kernel_rfl) (by kernel_rfl) ?_
      repeat (go_big_quiet_step (fail))
      refine wpQuiet_nil ?_
      intro _ hw'
      obtain ⟨xq, hw''⟩ := hw'
      subst hw''
      go_wp2_with fail
      go_ret
      exact ⟨ret_b (by rw [HF.out]), xq.below⟩
    | false =>
      cases h2 : (d1 == d2) with
      | true =>
        have HF : Hid (r = true) := hid (by rw [HS.out, h0, h1, h2]; simp)
        go_enter Tryz.func35, Tryz.ntmps35
        go_wp2
        refine wp_region_calm (by kernel_rfl) (by kernel_rfl) ?_
        repeat (go_big_quiet_step (fail))
        refine wpQuiet_nil ?_
        intro _ hw'
        obtain ⟨xq, hw''⟩ := hw'
        subst hw''
        go_wp2_with fail
        go_ret
        exact ⟨ret_b (by rw [HF.out]), xq.below⟩
      | false =>
        cases h3 : (d2 == a1) with
        | true =>
          have HF : Hid (r = true) := hid (by rw [HS.out, h0, h1, h2, h3]; simp)
          go_enter Tryz.func35, Tryz.ntmps35
          go_wp2
          refine wp_region_calm (by kernel_rfl) (by kernel_rfl) ?_
          repeat (go_big_quiet_step (fail))
          refine wpQuiet_nil ?_
          intro _ hw'
          obtain ⟨xq, hw''⟩ := hw'
          subst hw''
          go_wp2_with fail
          go_ret
          exact ⟨ret_b (by rw [HF.out]), xq.below⟩
        | false =>
          cases h4 : (d2 == b1) with
          | true =>
            have HF : Hid (r = true) := hid (by rw [HS.out, h0, h1, h2, h3, h4]; simp)
            go_enter Tryz.func35, Tryz.ntmps35
            go_wp2
            refine wp_region_calm (by kernel_rfl) (by kernel_rfl) ?_
            repeat (go_big_quiet_step (fail))
            refine wpQuiet_nil ?_
            intro _ hw'
            obtain ⟨xq, hw''⟩ := hw'
            subst hw''
            go_wp2_with fail
            go_ret
            exact ⟨ret_b (by rw [HF.out]), xq.below⟩
          | false =>
            have HF : Hid (r = false) := hid (by rw [HS.out, h0, h1, h2, h3, h4]; rfl)
            go_enter Tryz.func35, Tryz.ntmps35
            go_wp2
            refine wp_region_calm (by kernel_rfl) (by kernel_rfl) ?_
            repeat (go_big_quiet_step (fail))
            refine wpQuiet_nil ?_
            intro _ hw'
            obtain ⟨xq, hw''⟩ := hw'
            subst hw''
            go_wp2_with fail
            go_ret
            exact ⟨ret_b (by rw [HF.out]), xq.below⟩
end Go.Proofs.YtnnioicjmlfllaaGreatDoor
