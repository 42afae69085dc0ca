import Derived.Test.YtnnioicjmlfllaaGreatDoorRde
set_option linter.unusedVariables false
set_option linter.unusedSimpArgs false
namespace Go.Proofs.YtnnioicjmlfllaaGreatDoor
open Go.RowKit

/-! ### An operation's word read -/
def opEq (s : ByteArray) (k : Nat) : Bool := opTx k == s.data.toList
def opI (s : ByteArray) : Int := idxN (opEq s) 18 18
def opR (s : ByteArray) : Value := .tuple #[.int .i64 (if 0 ≤ opI s then opI s else 0), .bool (decide (0 ≤ opI s))]
theorem opEq_v (s : ByteArray) (k : Nat) : (s.toList == (bstr (opTx k)).toList) = opEq s k := by
  unfold opEq
  rw [ByteArray.toList_eq, ByteArray.toList_eq, bstr_toList, Bool.beq_comm]
theorem opEq_v' (s : ByteArray) (k : Nat) : ((bstr (opTx k)).toList == s.toList) = opEq s k := by
  unfold opEq
  rw [ByteArray.toList_eq, ByteArray.toList_eq, bstr_toList]
theorem g_IndexS (w : World) (g : Nat) (s : ByteArray) (hR : Ops w g) :
    Calls Tryz.prog 144 #[.slice (some ⟨g, 0, none⟩) 18 18, .string s] w fun e w' => e = .returned (.int .i64 (opI s)) ∧ w = w' := by
  go_enter Tryz.func144, Tryz.ntmps144
  go_wp2
  go_loopg [5, 8] 18 (fun gg _ s8 wr => ∃ k : Nat, k ≤ 18 ∧ 18 - k ≤ gg ∧ s8 = .int .i64 k ∧ Aside (w = wr) ∧ Aside (opI s = idxN (opEq s) 18 (18 - k)))
  case atStart => exact ⟨0, Nat.zero_le _, by omega, rfl, rfl, rfl⟩
  case round =>
    obtain ⟨k, hk, hg, rfl, BW, IX⟩ := hrel
    obtain rfl := BW.out
    by_cases hlt : k < 18
    · have hc := hR k hlt
      have hv := opEq_v s k
      have hltz : (k : Int) < 18 := by omega
      have IX' : Aside (opI s = if opEq s k then (k : Int) else idxN (opEq s) 18 (18 - (k + 1))) := by
        have := IX.out; rw [idxN_step hlt] at this; exact this
      clear IX hR
      generalize bstr (opTx k) = t at *
      cases hq : opEq s k with
      | true =>
        rw [hq] at hv
        have IX'' : Aside (opI s = k) := by have := IX'.out; rw [hq] at this; exact this
        clear IX' hq
        go_wp2
        go_ret
        exact ⟨by rw [IX''.out]; rfl, rfl⟩
      | false =>
        rw [hq] at hv
        have IX'' : Aside (opI s = idxN (opEq s) 18 (18 - (k + 1))) := by have := IX'.out; rw [hq] at this; exact this
        clear IX' hq
        go_wp2
        go_roundg (18 - (k + 1))
        case measure => omega
        case rel => exact ⟨k + 1, by omega, by omega, by go_num, rfl, IX''⟩
    · have hltz : ¬ (k : Int) < 18 := by omega
      have : k = 18 := by omega
      subst this
      have IX' : Aside (opI s = -1) := by have := IX.out; rw [Nat.sub_self] at this; exact this
      clear IX
      go_wp2
      go_ret
      exact ⟨by rw [IX'.out]; rfl, rfl⟩
theorem i_ReadOp (w : World) (s : ByteArray) (ha : Asc w) :
    Calls Tryz.prog 96 #[.string s] w fun e w' => e = .returned (opR s) ∧ Below w.heap.size w w' := by
  have C := hid (i_opTexts w ha)
  have C1 := hid (fun W g (h : Ops W g) => g_IndexS W g s h)
  clear ha
  unfold opR
  generalize opI s = x at *
  by_cases h : x < 0
  · have h' : ¬ 0 ≤ x := by omega
    rw [if_neg h', decide_eq_false h']
    clear h'
    go_enter Tryz.func96, Tryz.ntmps96
    go_wp2_with (first | (go_at_call 92; go_loud (refine C.out.mono ?_; rintro e w1 ⟨g, rfl, hg, hb1, -⟩; have HG := hid hg; clear hg)) | (go_at_call 144; go_loud (refine (C1.out _ _ HG.out).mono ?_; rintro e w2 ⟨rfl, rfl⟩)))
    go_ret2
    exact ⟨rfl, hb1⟩
  · have h' : 0 ≤ x := by omega
    rw [if_pos h', decide_eq_true h']
    clear h'
    go_enter Tryz.func96, Tryz.ntmps96
    go_wp2_with (first | (go_at_call 92; go_loud (refine C.out.mono ?_; rintro e w1 ⟨g, rfl, hg, hb1, -⟩; have HG := hid hg; clear hg)) | (go_at_call 144; go_loud (refine (C1.out _ _ HG.out).mono ?_; rintro e w2 ⟨rfl, rfl⟩)))
    go_ret2
    exact ⟨rfl, hb1⟩

end Go.Proofs.YtnnioicjmlfllaaGreatDoor
