import Derived.Test.YtnnioicjmlfllaaGreatDoorLawI
import Derived.Laws.BitsAllLaws
import Derived.Laws.Rows
set_option linter.unusedVariables false
set_option linter.unusedSimpArgs false
namespace Go.Proofs.YtnnioicjmlfllaaGreatDoor
open Go.RowKit

/-! ### Choices that are drawn from bytes -/
def RdU (w : World) (A : Option Addr) (bs : List Int) : Prop := (Rd w A bs.length fun k => .int .u8 (el bs k)) ∧ ∀ k, k < bs.length → 0 ≤ el bs k ∧ el bs k ≤ 255
theorem RdU.below {w W : World} {A : Option Addr} {bs : List Int} (h : RdU w A bs) (hb : Below w.heap.size w W) : RdU W A bs := ⟨h.1.below hb, h.2⟩
theorem RdU.get {w : World} {A : Option Addr} {bs : List Int} (h : RdU w A bs) {k : Nat} (hk : k < bs.length) : ∃ b off, A = some ⟨b, off, none⟩ ∧ w.cell? ⟨b, off + k, none⟩ = some (.int .u8 (el bs k)) := h.1 k hk
/-- A source in block B, of bytes that were there in world w0; at most N choices were drawn. -/
structure SrcW (w0 w : World) (B N : Nat) (A : Option Addr) (c : Nat) (bs : List Int) (at_ : Nat) (sd : Int) : Prop where
  ge : w0.heap.size ≤ B
  bel : Below w0.heap.size w0 w
  hp : w.heap[B]? = some (.cells #[.slice A bs.length c, .int .i64 (at_ : Nat), .int .u64 sd] 123 (0, 0))
  at_le : at_ ≤ N
  sd0 : 0 ≤ sd
  sd1 : sd < 18446744073709551616
def SrcE (w0 w : World) (B N : Nat) (A : Option Addr) (c : Nat) (bs : List Int) : Prop := ∃ at_ sd, SrcW w0 w B N A c bs at_ sd
theorem SrcW.step {w0 w : World} {B N c k : Nat} {A : Option Addr} {bs : List Int} {sd : Int} (h : SrcW w0 w B N A c bs k sd) (sd' : Int) (h0 : 0 ≤ sd') (h1 : sd' < 18446744073709551616) (m n : Nat) :
    SrcE w0 ((((w.drewN m).setCell ⟨B, 1, none⟩ (.int .i64 ((k : Int) + 1))).setCell ⟨B, 2, none⟩ (.int .u64 sd')).drewN n) B (N + 1) A c bs ∧ Chg B (B + 1) w ((((w.drewN m).setCell ⟨B, 1, none⟩ (.int .i64 ((k : Int) + 1))).setCell ⟨B, 2, none⟩ (.int .u64 sd')).drewN n) := by
  refine ⟨⟨k + 1, sd', h.ge, ?_, ?_, by have := h.at_le; omega, h0, h1⟩, rfl, rfl, rfl, ?_, ?_⟩
  · exact bdrewN (bset (bset (bdrewN h.bel m) (p := ⟨B, 1, none⟩) h.ge _) (p := ⟨B, 2, none⟩) h.ge _) n
  · show ((w.setCell ⟨B, 1, none⟩ (.int .i64 ((k : Int) + 1))).setCell ⟨B, 2, none⟩ (.int .u64 sd')).heap[B]? = _
    rw [heap_setCell_same _ _ 2 _ _ (.int .u64 sd') (heap_setCell_same _ _ 1 _ _ (.int .i64 ((k : Int) + 1)) h.hp)]
    simp
  · show w.heap.size ≤ ((w.setCell ⟨B, 1, none⟩ (.int .i64 ((k : Int) + 1))).setCell ⟨B, 2, none⟩ (.int .u64 sd')).heap.size
    simp [World.setCell]
  · intro j _ hj
    show ((w.setCell ⟨B, 1, none⟩ (.int .i64 ((k : Int) + 1))).setCell ⟨B, 2, none⟩ (.int .u64 sd')).heap[j]? = _
    rw [heap_setCell_other _ _ _ _ (by show j ≠ B; omega), heap_setCell_other _ _ _ _ (by show j ≠ B; omega)]
theorem u64_range (x : Int) : 0 ≤ IntKind.u64.wrap x ∧ IntKind.u64.wrap x < 18446744073709551616 := by
  rw [IntKind.wrap_u64]; omega
theorem and255 (x : Int) : ∃ r, 0 ≤ r ∧ r ≤ 255 ∧ wrap64 (bits .and .u64 (IntKind.u64.wrap x / 1099511627776) 255) = r := by
  have h := u64_range x
  have e := u64_and (IntKind.u64.wrap x / 1099511627776) 255 (by omega) (by omega) (by omega) (by omega)
  rw [e, show (255 : Int).toNat = 255 from rfl, nat_mask8]
  refine ⟨_, ?_, ?_, rfl⟩
  · have : wrap64 ((((IntKind.u64.wrap x / 1099511627776).toNat % 256 : Nat) : Int)) = (((IntKind.u64.wrap x / 1099511627776).toNat % 256 : Nat) : Int) := by
      unfold wrap64; omega
    rw [this]; omega
  · have : wrap64 ((((IntKind.u64.wrap x / 1099511627776).toNat % 256 : Nat) : Int)) = (((IntKind.u64.wrap x / 1099511627776).toNat % 256 : Nat) : Int) := by
      unfold wrap64; omega
    rw [this]; omega
set_option maxRecDepth 100000 in
theorem s_next (w0 w : World) (B N : Nat) (A : Option Addr) (c : Nat) (bs : List Int) (hn : bs.length ≤ 1048576) (hN : N ≤ 1099511627776) (hR : RdU w0 A bs) (hS : SrcE w0 w B N A c bs) :
    Calls Tryz.prog 81 #[.pointer (some ⟨B, 0, none⟩)] w fun e w' => ∃ r, e = .returned (.int .i64 r) ∧ (0 ≤ r ∧ r ≤ 255) ∧ SrcE w0 w' B (N + 1) A c bs ∧ Chg B (B + 1) w w' := by
  obtain ⟨k, sd, hs⟩ := hS
  have c0 : w.cell? ⟨B, 0, none⟩ = some (.slice A bs.length c) := by rw [cell_of_row _ _ _ _ _ _ hs.hp]; rfl
  have c1 : w.cell? ⟨B, 1, none⟩ = some (.int .i64 (k : Nat)) := by rw [cell_of_row _ _ _ _ _ _ hs.hp]; rfl
  have c2 : w.cell? ⟨B, 2, none⟩ = some (.int .u64 sd) := by rw [cell_of_row _ _ _ _ _ _ hs.hp]; rfl
  have f1 : w.frozen? ⟨B, 1, none⟩ = false := frozen_of_row _ _ _ _ _ hs.hp
  have f2 : w.frozen? ⟨B, 2, none⟩ = false := frozen_of_row _ _ _ _ _ hs.hp
  have hk := hs.at_le
  have HS := hid hs
  have HR := hid hR
  clear hR hs
  by_cases hlt : k < bs.length
  · obtain ⟨b, off, rfl, hc⟩ := (HR.out.below HS.out.bel).get hlt
    have hlt' : (k : Int) < (bs.length : Int) := by omega
    have hle : (k : Int) + 1 ≤ (bs.length : Int) := by omega
    have hb := HR.out.2 k hlt
    obtain ⟨hb0, hb1⟩ := hb
    have HB := hid (And.intro hb0 hb1)
    generalize el bs k = x at *
    go_enter Tryz.func81, Tryz.ntmps81
    go_wp2
    go_quiet (fail)
    go_wp2
    go_quiet (fail)
    go_wp2
    go_quiet (fail)
    go_wp2
    go_ret
    obtain ⟨s1, s2⟩ := HS.out.step _ (u64_range _).1 (u64_range _).2 _ _
    exact ⟨x, rfl, HB.out, s1, s2⟩
  · have hlt' : ¬ (k : Int) < (bs.length : Int) := by omega
    have hle : ¬ (k : Int) + 1 ≤ (bs.length : Int) := by omega
    go_enter Tryz.func81, Tryz.ntmps81
    go_wp2
    go_quiet (fail)
    go_wp2
    go_quiet (fail)
    go_wp2
    go_ret
    obtain ⟨s1, s2⟩ := HS.out.step _ (u64_range _).1 (u64_range _).2 _ _
    obtain ⟨r, hr0, hr1, hr⟩ := and255 (IntKind.u64.wrap (IntKind.u64.wrap (sd * 6364136223846793005)) + 1442695040888963407)
    exact ⟨r, by rw [← hr]; rfl, ⟨hr0, hr1⟩, s1, s2⟩
end Go.Proofs.YtnnioicjmlfllaaGreatDoor
