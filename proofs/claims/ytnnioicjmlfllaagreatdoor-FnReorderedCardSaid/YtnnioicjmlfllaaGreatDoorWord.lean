import Derived.Test.YtnnioicjmlfllaaGreatDoorFn
set_option linter.unusedVariables false
set_option linter.unusedSimpArgs false
namespace Go.Proofs.YtnnioicjmlfllaaGreatDoor
open Go.RowKit

/-! ### The plain functions -/
def lanesB (n : Int) : Bool := n == 2 || n == 4 || n == 8 || n == 16
def bitsB (n : Int) : Bool := n == 4 || n == 8 || n == 16
def inB (n a b : Int) : Bool := decide (a ≤ n) && decide (n ≤ b)
def top (bits : Int) : Int := if bits = 4 then 15 else if bits = 8 then 255 else 65535
def wordB (bits x : Int) : Bool := bitsB bits && inB x 0 (top bits)
def vecB (bits : Int) (xs : List Int) : Bool := bitsB bits && lanesB xs.length && xs.all (wordB bits)
def maskB (xs : List Int) : Bool := lanesB xs.length && xs.all (fun x => inB x 0 1)
theorem bitsB_or {b : Int} (h : bitsB b = true) : b = 4 ∨ b = 8 ∨ b = 16 := by simp [bitsB] at h; omega
theorem lanesB_or {b : Int} (h : lanesB b = true) : b = 2 ∨ b = 4 ∨ b = 8 ∨ b = 16 := by simp [lanesB] at h; omega
theorem inB_iff {n a b : Int} : inB n a b = true ↔ a ≤ n ∧ n ≤ b := by simp [inB]
theorem inB_no {n a b : Int} : inB n a b = false ↔ ¬ (a ≤ n ∧ n ≤ b) := by rw [← Bool.not_eq_true, inB_iff]
theorem wordB_range {b x : Int} (h : wordB b x = true) : 0 ≤ x ∧ x ≤ 65535 := by
  simp only [wordB, Bool.and_eq_true, inB_iff] at h; unfold top at h; obtain ⟨_, h1, h2⟩ := h; refine ⟨h1, ?_⟩; split at h2 <;> (try split at h2) <;> omega
theorem vecB_len {b : Int} {xs : List Int} (h : vecB b xs = true) : xs.length ≤ 16 := by
  simp only [vecB, Bool.and_eq_true] at h; have := lanesB_or h.1.2; omega

theorem i_isLanes (a : Int) (w : World) : Calls Tryz.prog 112 #[.int .i64 a] w fun e w' => e = .returned (.bool (lanesB a)) ∧ w = w' := by
  cases h2 : (a == 2) <;> cases h4 : (a == 4) <;> cases h8 : (a == 8) <;> (go_enter Tryz.func112, Tryz.ntmps112; go_wp2; go_ret; exact ⟨by simp [lanesB, h2, h4, h8], rfl⟩)

theorem i_isBits (a : Int) (w : World) : Calls Tryz.prog 86 #[.int .i64 a] w fun e w' => e = .returned (.bool (bitsB a)) ∧ w = w' := by
  cases h2 : (a == 4) <;> cases h4 : (a == 8) <;> (go_enter Tryz.func86, Tryz.ntmps86; go_wp2; go_ret; exact ⟨by simp [bitsB, h2, h4], rfl⟩)
theorem s_l01Bits (a : Int) (w : World) : Calls Tryz.prog 104 #[.int .i64 a] w fun e w' => e = .returned (.bool (bitsB a)) ∧ w = w' := by
  cases h2 : (a == 4) <;> cases h4 : (a == 8) <;> (go_enter Tryz.func104, Tryz.ntmps104; go_wp2; go_ret; exact ⟨by simp [bitsB, h2, h4], rfl⟩)
theorem i_within (n a b : Int) (w : World) : Calls Tryz.prog 118 #[.int .i64 n, .int .i64 a, .int .i64 b] w fun e w' => e = .returned (.bool (inB n a b)) ∧ w = w' := by
  by_cases h : a ≤ n
  · go_enter Tryz.func118, Tryz.ntmps118; go_wp2; go_ret; exact ⟨by simp [inB, h], rfl⟩
  · have h' : decide (a ≤ n) = false := by simpa using h
    clear h
    go_enter Tryz.func118, Tryz.ntmps118; go_wp2; go_ret; exact ⟨by simp [inB, h'], rfl⟩
theorem s_l00In (n a b : Int) (w : World) : Calls Tryz.prog 106 #[.int .i64 n, .int .i64 a, .int .i64 b] w fun e w' => e = .returned (.bool (inB n a b)) ∧ w = w' := by
  by_cases h : a ≤ n
  · go_enter Tryz.func106, Tryz.ntmps106; go_wp2; go_ret; exact ⟨by simp [inB, h], rfl⟩
  · have h' : decide (a ≤ n) = false := by simpa using h
    clear h
    go_enter Tryz.func106, Tryz.ntmps106; go_wp2; go_ret; exact ⟨by simp [inB, h'], rfl⟩
theorem i_lengthI (A : Option Addr) (n c : Nat) (w : World) : Calls Tryz.prog 66 #[.slice A n c] w fun e w' => e = .returned (.int .i64 n) ∧ w = w' := by
  go_enter Tryz.func66, Tryz.ntmps66
  go_wp2
  go_ret
  exact ⟨rfl, rfl⟩

theorem i_IsWord (b x : Int) (w : World) : Calls Tryz.prog 89 #[.int .i64 b, .int .i64 x] w fun e w' => e = .returned (.bool (wordB b x)) ∧ w = w' := by
  have hb := i_isBits b w
  have hd := fun t => i_within x 0 t w
  cases h : bitsB b with
  | false =>
    rw [h] at hb
    have H := hid h
    clear h
    go_enter Tryz.func89, Tryz.ntmps89
    go_wp2_with (go_at_call 86; refine hb.mono ?_; rintro e w' ⟨rfl, rfl⟩)
    go_ret
    exact ⟨by simp [wordB, H.out], rfl⟩
  | true =>
    rw [h] at hb
    rcases bitsB_or h with rfl | rfl | rfl
    all_goals
      clear h
      go_enter Tryz.func89, Tryz.ntmps89
      go_wp2_with (first | (go_at_call 86; refine hb.mono ?_; rintro e w' ⟨rfl, rfl⟩) | (go_at_call 118; refine (hd _).mono ?_; rintro e w' ⟨rfl, rfl⟩))
      go_ret
      exact ⟨by simp [wordB, bitsB, top], rfl⟩
theorem s_l01Word (b x : Int) (w : World) : Calls Tryz.prog 168 #[.int .i64 b, .int .i64 x] w fun e w' => e = .returned (.bool (wordB b x)) ∧ w = w' := by
  have hb := s_l01Bits b w
  have hd := fun t => s_l00In x 0 t w
  cases h : bitsB b with
  | false =>
    rw [h] at hb
    have H := hid h
    clear h
    go_enter Tryz.func168, Tryz.ntmps168
    go_wp2_with (go_at_call 104; refine hb.mono ?_; rintro e w' ⟨rfl, rfl⟩)
    go_ret
    exact ⟨by simp [wordB, H.out], rfl⟩
  | true =>
    rw [h] at hb
    rcases bitsB_or h with rfl | rfl | rfl
    all_goals
      clear h
      go_enter Tryz.func168, Tryz.ntmps168
      go_wp2_with (first | (go_at_call 104; refine hb.mono ?_; rintro e w' ⟨rfl, rfl⟩) | (go_at_call 106; refine (hd _).mono ?_; rintro e w' ⟨rfl, rfl⟩))
      go_ret
      exact ⟨by simp [wordB, bitsB, top], rfl⟩
theorem s_l01Words (w : World) (b : Int) (A : Option Addr) (c : Nat) (xs : List Int) (hl : xs.length ≤ 9223372036854775807) (hR : RdI w A xs) :
    Calls Tryz.prog 105 #[.int .i64 b, .slice A xs.length c] w fun e w' => e = .returned (.bool (bitsB b && xs.all (wordB b))) ∧ Below w.heap.size w w' := by
  have hw := s_l01Word b
  have hb := s_l01Bits b
  go_enter Tryz.func105, Tryz.ntmps105
  go_wp2
  go_loopg [5] xs.length (fun gg s wr => ∃ k : Nat, k ≤ xs.length ∧ xs.length - k ≤ gg ∧ s = .int .i64 k ∧ Aside (Below w.heap.size w wr) ∧ Aside (xs.all (wordB b) = (xs.drop k).all (wordB b)))
  case atStart => exact ⟨0, Nat.zero_le _, by omega, rfl, Below.refl _ _, rfl⟩
  case round =>
    obtain ⟨k, hk, hg, rfl, BW, AL⟩ := hrel
    by_cases hlt : k < xs.length
    · obtain ⟨b', off, rfl, hc⟩ := hR.below BW.out k hlt
      have hq := AL.out
      rw [el_drop hlt, List.all_cons] at hq
      have hw' := hw (el xs k)
      cases hx : wordB b (el xs k) with
      | true =>
        rw [hx] at hq hw'
        have AL' : Aside (xs.all (wordB b) = (xs.drop (k + 1)).all (wordB b)) := hq
        clear hx hq AL hR
        go_wp2_with (go_at_call 168; refine (hw' _).mono ?_; rintro e w' ⟨rfl, rfl⟩)
        go_roundg (xs.length - (k + 1))
        case measure => omega
        case rel => exact ⟨k + 1, by omega, by omega, by go_num, BW, AL'⟩
      | false =>
        rw [hx] at hq hw'
        have AL' : Aside (xs.all (wordB b) = false) := hq
        clear hx hq AL hR
        go_wp2_with (go_at_call 168; refine (hw' _).mono ?_; rintro e w' ⟨rfl, rfl⟩)
        go_ret
        exact ⟨ret_b (by rw [AL'.out]; simp), BW.out⟩
    · have : k = xs.length := by omega
      subst this
      have AL' : Aside (xs.all (wordB b) = true) := by have := AL.out; simpa [Aside] using this
      clear AL
      go_wp2_with (go_at_call 104; refine (hb _).mono ?_; rintro e w' ⟨rfl, rfl⟩)
      go_ret
      exact ⟨ret_b (by rw [AL'.out]; simp), BW.out⟩

theorem i_IsVector1 (W : World) (B : Nat) (b x : Int) (hc : W.cell? ⟨B, 0, none⟩ = some (.int .i64 b)) :
    Calls Tryz.prog 114 #[.int .i64 x, .pointer (some ⟨B, 0, none⟩)] W fun e w' => e = .returned (.bool (wordB b x)) ∧ Below W.heap.size W w' := by
  have hd := i_IsWord b x W
  go_enter Tryz.func114, Tryz.ntmps114
  go_wp2_with (go_at_call 89; refine hd.mono ?_; rintro e w' ⟨rfl, rfl⟩)
  go_ret
  exact ⟨rfl, Below.refl _ _⟩
theorem i_IsVector (w : World) (b : Int) (A : Option Addr) (c : Nat) (xs : List Int) (hl : xs.length ≤ 9223372036854775807) (hR : RdI w A xs) :
    Calls Tryz.prog 65 #[.int .i64 b, .slice A xs.length c] w fun e w' => e = .returned (.bool (vecB b xs)) ∧ Below w.heap.size w w' := by
  have hb1 : Below w.heap.size w (w.alloc (.cells #[.int .i64 b] 2)) := ballocw _ _
  have hall := areAllI (w.alloc (.cells #[.int .i64 b] 2)) A xs.length c _ 114 #[.pointer (some ⟨w.heap.size, 0, none⟩)] (fun k => wordB b (el xs k)) hl (hR.below hb1)
    (enters_of Tryz.func114 (by kernel_rfl) rfl) (fun W hW k hk => i_IsVector1 W w.heap.size b (el xs k) ((hW.cell (p := ⟨w.heap.size, 0, none⟩) (by simp)).trans (by simp)))
  rw [allN_ints] at hall
  have hcc := hall.mono (fun e w' ⟨h1, h2⟩ => (⟨h1, bthen hb1 h2⟩ : e = Ending.returned (.bool (xs.all (wordB b))) ∧ Below w.heap.size w w'))
  have hs : vecB b xs = (bitsB b && lanesB xs.length && xs.all (wordB b)) := rfl
  generalize xs.all (wordB b) = r at hcc hs
  have HS := hid hs
  clear hs hall hR
  have hbits := i_isBits b (w.alloc (.cells #[.int .i64 b] 2))
  have hlan := i_isLanes (xs.length : Int) (w.alloc (.cells #[.int .i64 b] 2))
  cases hb : bitsB b with
  | false =>
    rw [hb] at hbits
    have HB := hid hb
    clear hb
    go_enter Tryz.func65, Tryz.ntmps65
    go_wp2_with (first | (go_at_call 86; refine hbits.mono ?_; rintro e w' ⟨rfl, rfl⟩))
    go_ret
    exact ⟨ret_b (by rw [HS.out, HB.out]; simp), hb1⟩
  | true =>
    rw [hb] at hbits
    have HB := hid hb
    clear hb
    cases hn : lanesB xs.length with
    | false =>
      rw [hn] at hlan
      have HN := hid hn
      clear hn
      go_enter Tryz.func65, Tryz.ntmps65
      go_wp2_with (first | (go_at_call 86; refine hbits.mono ?_; rintro e w' ⟨rfl, rfl⟩) | (go_at_call 66; refine (i_lengthI _ _ _ _).mono ?_; rintro e w' ⟨rfl, rfl⟩) | (go_at_call 112; refine hlan.mono ?_; rintro e w' ⟨rfl, rfl⟩))
      go_ret
      exact ⟨ret_b (by rw [HS.out, HB.out, HN.out]; simp), hb1⟩
    | true =>
      rw [hn] at hlan
      have HN := hid hn
      clear hn
      go_enter Tryz.func65, Tryz.ntmps65
      go_wp2_with (first | (go_at_call 86; refine hbits.mono ?_; rintro e w' ⟨rfl, rfl⟩) | (go_at_call 66; refine (i_lengthI _ _ _ _).mono ?_; rintro e w' ⟨rfl, rfl⟩) | (go_at_call 112; refine hlan.mono ?_; rintro e w' ⟨rfl, rfl⟩) | (go_at_call 87; refine hcc.mono ?_; rintro e w' ⟨rfl, hb'⟩))
      go_ret
      exact ⟨ret_b (by rw [HS.out, HB.out, HN.out]; simp), hb'⟩
end Go.Proofs.YtnnioicjmlfllaaGreatDoor
