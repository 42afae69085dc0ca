import Derived.Test.YtolcmehndambmaaFn
set_option linter.unusedVariables false
set_option linter.unusedSimpArgs false
namespace Go.Proofs.Ytolcmehndambmaa
open Go.RowKit

/-! ### The plain functions -/
def lanesB (n : Int) : Bool := n == 2 || n == 4 || n == 8 || n == 16
def bitsB (n : Int) : Bool := n == 4 || n == 8 || n == 16
def inB (n a b : Int) : Bool := decide (a ≤ n) && decide (n ≤ b)
def top (bits : Int) : Int := if bits = 4 then 15 else if bits = 8 then 255 else 65535
def wordB (bits x : Int) : Bool := bitsB bits && inB x 0 (top bits)
def vecB (bits : Int) (xs : List Int) : Bool := bitsB bits && lanesB xs.length && xs.all (wordB bits)
def maskB (xs : List Int) : Bool := lanesB xs.length && xs.all (fun x => inB x 0 1)
theorem bitsB_or {b : Int} (h : bitsB b = true) : b = 4 ∨ b = 8 ∨ b = 16 := by simp [bitsB] at h; omega
theorem lanesB_or {b : Int} (h : lanesB b = true) : b = 2 ∨ b = 4 ∨ b = 8 ∨ b = 16 := by simp [lanesB] at h; omega
theorem inB_iff {n a b : Int} : inB n a b = true ↔ a ≤ n ∧ n ≤ b := by simp [inB]
theorem inB_no {n a b : Int} : inB n a b = false ↔ ¬ (a ≤ n ∧ n ≤ b) := by rw [← Bool.not_eq_true, inB_iff]
theorem wordB_range {b x : Int} (h : wordB b x = true) : 0 ≤ x ∧ x ≤ 65535 := by
  simp only [wordB, Bool.and_eq_true, inB_iff] at h; unfold top at h; obtain ⟨_, h1, h2⟩ := h; refine ⟨h1, ?_⟩; split at h2 <;> (try split at h2) <;> omega
theorem vecB_len {b : Int} {xs : List Int} (h : vecB b xs = true) : xs.length ≤ 16 := by
  simp only [vecB, Bool.and_eq_true] at h; have := lanesB_or h.1.2; omega

theorem i_isLanes (a : Int) (w : World) : Calls Try.prog 79 #[.int .i64 a] w fun e w' => e = .returned (.bool (lanesB a)) ∧ w = w' := by
  cases h2 : (a == 2) <;> cases h4 : (a == 4) <;> cases h8 : (a == 8) <;> (go_enter Try.func79, Try.ntmps79; go_wp2; go_ret; exact ⟨by simp [lanesB, h2, h4, h8], rfl⟩)
theorem s_l02Lanes (a : Int) (w : World) : Calls Try.prog 150 #[.int .i64 a] w fun e w' => e = .returned (.bool (lanesB a)) ∧ w = w' := by
  cases h2 : (a == 2) <;> cases h4 : (a == 4) <;> cases h8 : (a == 8) <;> (go_enter Try.func150, Try.ntmps150; go_wp2; go_ret; exact ⟨by simp [lanesB, h2, h4, h8], rfl⟩)
theorem i_isBits (a : Int) (w : World) : Calls Try.prog 134 #[.int .i64 a] w fun e w' => e = .returned (.bool (bitsB a)) ∧ w = w' := by
  cases h2 : (a == 4) <;> cases h4 : (a == 8) <;> (go_enter Try.func134, Try.ntmps134; go_wp2; go_ret; exact ⟨by simp [bitsB, h2, h4], rfl⟩)
theorem s_l01Bits (a : Int) (w : World) : Calls Try.prog 153 #[.int .i64 a] w fun e w' => e = .returned (.bool (bitsB a)) ∧ w = w' := by
  cases h2 : (a == 4) <;> cases h4 : (a == 8) <;> (go_enter Try.func153, Try.ntmps153; go_wp2; go_ret; exact ⟨by simp [bitsB, h2, h4], rfl⟩)
theorem i_within (n a b : Int) (w : World) : Calls Try.prog 94 #[.int .i64 n, .int .i64 a, .int .i64 b] w fun e w' => e = .returned (.bool (inB n a b)) ∧ w = w' := by
  by_cases h : a ≤ n
  · go_enter Try.func94, Try.ntmps94; go_wp2; go_ret; exact ⟨by simp [inB, h], rfl⟩
  · have h' : decide (a ≤ n) = false := by simpa using h
    clear h
    go_enter Try.func94, Try.ntmps94; go_wp2; go_ret; exact ⟨by simp [inB, h'], rfl⟩
theorem s_l00In (n a b : Int) (w : World) : Calls Try.prog 91 #[.int .i64 n, .int .i64 a, .int .i64 b] w fun e w' => e = .returned (.bool (inB n a b)) ∧ w = w' := by
  by_cases h : a ≤ n
  · go_enter Try.func91, Try.ntmps91; go_wp2; go_ret; exact ⟨by simp [inB, h], rfl⟩
  · have h' : decide (a ≤ n) = false := by simpa using h
    clear h
    go_enter Try.func91, Try.ntmps91; go_wp2; go_ret; exact ⟨by simp [inB, h'], rfl⟩
theorem i_lengthI (A : Option Addr) (n c : Nat) (w : World) : Calls Try.prog 74 #[.slice A n c] w fun e w' => e = .returned (.int .i64 n) ∧ w = w' := by
  go_enter Try.func74, Try.ntmps74
  go_wp2
  go_ret
  exact ⟨rfl, rfl⟩
theorem i_lengthR (A : Option Addr) (n c : Nat) (w : World) : Calls Try.prog 80 #[.slice A n c] w fun e w' => e = .returned (.int .i64 n) ∧ w = w' := by
  go_enter Try.func80, Try.ntmps80
  go_wp2
  go_ret
  exact ⟨rfl, rfl⟩
theorem i_IsWord (b x : Int) (w : World) : Calls Try.prog 85 #[.int .i64 b, .int .i64 x] w fun e w' => e = .returned (.bool (wordB b x)) ∧ w = w' := by
  have hb := i_isBits b w
  have hd := fun t => i_within x 0 t w
  cases h : bitsB b with
  | false =>
    rw [h] at hb
    have H := hid h
    clear h
    go_enter Try.func85, Try.ntmps85
    go_wp2_with (go_at_call 134; refine hb.mono ?_; rintro e w' ⟨rfl, rfl⟩)
    go_ret
    exact ⟨by simp [wordB, H.out], rfl⟩
  | true =>
    rw [h] at hb
    rcases bitsB_or h with rfl | rfl | rfl
    all_goals
      clear h
      go_enter Try.func85, Try.ntmps85
      go_wp2_with (first | (go_at_call 134; refine hb.mono ?_; rintro e w' ⟨rfl, rfl⟩) | (go_at_call 94; refine (hd _).mono ?_; rintro e w' ⟨rfl, rfl⟩))
      go_ret
      exact ⟨by simp [wordB, bitsB, top], rfl⟩
theorem s_l01Word (b x : Int) (w : World) : Calls Try.prog 154 #[.int .i64 b, .int .i64 x] w fun e w' => e = .returned (.bool (wordB b x)) ∧ w = w' := by
  have hb := s_l01Bits b w
  have hd := fun t => s_l00In x 0 t w
  cases h : bitsB b with
  | false =>
    rw [h] at hb
    have H := hid h
    clear h
    go_enter Try.func154, Try.ntmps154
    go_wp2_with (go_at_call 153; refine hb.mono ?_; rintro e w' ⟨rfl, rfl⟩)
    go_ret
    exact ⟨by simp [wordB, H.out], rfl⟩
  | true =>
    rw [h] at hb
    rcases bitsB_or h with rfl | rfl | rfl
    all_goals
      clear h
      go_enter Try.func154, Try.ntmps154
      go_wp2_with (first | (go_at_call 153; refine hb.mono ?_; rintro e w' ⟨rfl, rfl⟩) | (go_at_call 91; refine (hd _).mono ?_; rintro e w' ⟨rfl, rfl⟩))
      go_ret
      exact ⟨by simp [wordB, bitsB, top], rfl⟩
theorem s_l01Words (w : World) (b : Int) (A : Option Addr) (c : Nat) (xs : List Int) (hl : xs.length ≤ 9223372036854775807) (hR : RdI w A xs) :
    Calls Try.prog 104 #[.int .i64 b, .slice A xs.length c] w fun e w' => e = .returned (.bool (bitsB b && xs.all (wordB b))) ∧ Below w.heap.size w w' := by
  have hw := s_l01Word b
  have hb := s_l01Bits b
  go_enter Try.func104, Try.ntmps104
  go_wp2
  go_loopg [5] xs.length (fun gg s wr => ∃ k : Nat, k ≤ xs.length ∧ xs.length - k ≤ gg ∧ s = .int .i64 k ∧ Aside (Below w.heap.size w wr) ∧ Aside (xs.all (wordB b) = (xs.drop k).all (wordB b)))
  case atStart => exact ⟨0, Nat.zero_le _, by omega, rfl, Below.refl _ _, rfl⟩
  case round =>
    obtain ⟨k, hk, hg, rfl, BW, AL⟩ := hrel
    by_cases hlt : k < xs.length
    · obtain ⟨b', off, rfl, hc⟩ := hR.below BW.out k hlt
      have hq := AL.out
      rw [el_drop hlt, List.all_cons] at hq
      have hw' := hw (el xs k)
      cases hx : wordB b (el xs k) with
      | true =>
        rw [hx] at hq hw'
        have AL' : Aside (xs.all (wordB b) = (xs.drop (k + 1)).all (wordB b)) := hq
        clear hx hq AL hR
        go_wp2_with (go_at_call 154; refine (hw' _).mono ?_; rintro e w' ⟨rfl, rfl⟩)
        go_roundg (xs.length - (k + 1))
        case measure => omega
        case rel => exact ⟨k + 1, by omega, by omega, by go_num, BW, AL'⟩
      | false =>
        rw [hx] at hq hw'
        have AL' : Aside (xs.all (wordB b) = false) := hq
        clear hx hq AL hR
        go_wp2_with (go_at_call 154; refine (hw' _).mono ?_; rintro e w' ⟨rfl, rfl⟩)
        go_ret
        exact ⟨ret_b (by rw [AL'.out]; simp), BW.out⟩
    · have : k = xs.length := by omega
      subst this
      have AL' : Aside (xs.all (wordB b) = true) := by have := AL.out; simpa [Aside] using this
      clear AL
      go_wp2_with (go_at_call 153; refine (hb _).mono ?_; rintro e w' ⟨rfl, rfl⟩)
      go_ret
      exact ⟨ret_b (by rw [AL'.out]; simp), BW.out⟩
theorem i_IsVector1 (W : World) (B : Nat) (b x : Int) (hc : W.cell? ⟨B, 0, none⟩ = some (.int .i64 b)) :
    Calls Try.prog 135 #[.int .i64 x, .pointer (some ⟨B, 0, none⟩)] W fun e w' => e = .returned (.bool (wordB b x)) ∧ Below W.heap.size W w' := by
  have hd := i_IsWord b x W
  go_enter Try.func135, Try.ntmps135
  go_wp2_with (go_at_call 85; refine hd.mono ?_; rintro e w' ⟨rfl, rfl⟩)
  go_ret
  exact ⟨rfl, Below.refl _ _⟩
theorem i_IsVector (w : World) (b : Int) (A : Option Addr) (c : Nat) (xs : List Int) (hl : xs.length ≤ 9223372036854775807) (hR : RdI w A xs) :
    Calls Try.prog 73 #[.int .i64 b, .slice A xs.length c] w fun e w' => e = .returned (.bool (vecB b xs)) ∧ Below w.heap.size w w' := by
  have hb1 : Below w.heap.size w (w.alloc (.cells #[.int .i64 b] 2)) := ballocw _ _
  have hall := areAllI (w.alloc (.cells #[.int .i64 b] 2)) A xs.length c _ 135 #[.pointer (some ⟨w.heap.size, 0, none⟩)] (fun k => wordB b (el xs k)) hl (hR.below hb1)
    (enters_of Try.func135 (by kernel_rfl) rfl) (fun W hW k hk => i_IsVector1 W w.heap.size b (el xs k) ((hW.cell (p := ⟨w.heap.size, 0, none⟩) (by simp)).trans (by simp)))
  rw [allN_ints] at hall
  have hcc := hall.mono (fun e w' ⟨h1, h2⟩ => (⟨h1, bthen hb1 h2⟩ : e = Ending.returned (.bool (xs.all (wordB b))) ∧ Below w.heap.size w w'))
  have hs : vecB b xs = (bitsB b && lanesB xs.length && xs.all (wordB b)) := rfl
  generalize xs.all (wordB b) = r at hcc hs
  have HS := hid hs
  clear hs hall hR
  have hbits := i_isBits b (w.alloc (.cells #[.int .i64 b] 2))
  have hlan := i_isLanes (xs.length : Int) (w.alloc (.cells #[.int .i64 b] 2))
  cases hb : bitsB b with
  | false =>
    rw [hb] at hbits
    have HB := hid hb
    clear hb
    go_enter Try.func73, Try.ntmps73
    go_wp2_with (first | (go_at_call 134; refine hbits.mono ?_; rintro e w' ⟨rfl, rfl⟩))
    go_ret
    exact ⟨ret_b (by rw [HS.out, HB.out]; simp), hb1⟩
  | true =>
    rw [hb] at hbits
    have HB := hid hb
    clear hb
    cases hn : lanesB xs.length with
    | false =>
      rw [hn] at hlan
      have HN := hid hn
      clear hn
      go_enter Try.func73, Try.ntmps73
      go_wp2_with (first | (go_at_call 134; refine hbits.mono ?_; rintro e w' ⟨rfl, rfl⟩) | (go_at_call 74; refine (i_lengthI _ _ _ _).mono ?_; rintro e w' ⟨rfl, rfl⟩) | (go_at_call 79; refine hlan.mono ?_; rintro e w' ⟨rfl, rfl⟩))
      go_ret
      exact ⟨ret_b (by rw [HS.out, HB.out, HN.out]; simp), hb1⟩
    | true =>
      rw [hn] at hlan
      have HN := hid hn
      clear hn
      go_enter Try.func73, Try.ntmps73
      go_wp2_with (first | (go_at_call 134; refine hbits.mono ?_; rintro e w' ⟨rfl, rfl⟩) | (go_at_call 74; refine (i_lengthI _ _ _ _).mono ?_; rintro e w' ⟨rfl, rfl⟩) | (go_at_call 79; refine hlan.mono ?_; rintro e w' ⟨rfl, rfl⟩) | (go_at_call 83; refine hcc.mono ?_; rintro e w' ⟨rfl, hb'⟩))
      go_ret
      exact ⟨ret_b (by rw [HS.out, HB.out, HN.out]; simp), hb'⟩
end Go.Proofs.Ytolcmehndambmaa
