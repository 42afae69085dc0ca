import Derived.Test.YtnnioicjmlfllaaGreatDoorWord
import Derived.Test.YtnnioicjmlfllaaGreatDoorLawI
set_option linter.unusedVariables false
set_option linter.unusedSimpArgs false
namespace Go.Proofs.YtnnioicjmlfllaaGreatDoor
open Go.RowKit

def shufB (xs : List Int) : Bool := lanesB xs.length && xs.all (fun x => inB x 0 ((xs.length : Int) - 1))
theorem shufB_len {xs : List Int} (h : shufB xs = true) : xs.length ≤ 16 := by
  simp only [shufB, Bool.and_eq_true] at h; have := lanesB_or h.1; omega
theorem shufB_el {xs : List Int} (h : shufB xs = true) {k : Nat} (hk : k < xs.length) : 0 ≤ el xs k ∧ el xs k < xs.length := by
  simp only [shufB, Bool.and_eq_true, List.all_eq_true] at h; have := inB_iff.1 (h.2 _ (el_mem hk)); omega



theorem set_range {n k : Nat} (h : Nat → Int) (hk : k < n) : ((List.range k).map h ++ List.replicate (n - k) 0).set k (h k) = (List.range (k + 1)).map h ++ List.replicate (n - (k + 1)) 0 := by
  obtain ⟨m, hm⟩ : ∃ m, n - k = m + 1 := ⟨n - k - 1, by omega⟩
  rw [hm, show n - (k + 1) = m from by omega, List.range_succ, List.replicate_succ, List.set_append_right _ _ (by simp)]
  simp
/-- A function value that answers with the numbers h. -/
def FvI (P : Program) (w : World) (g : Nat) (lb : Array Value) (n : Nat) (h : Nat → Int) : Prop :=
  ∀ W, Below w.heap.size w W → ∀ k, k < n → Calls P g (#[.int .i64 (k : Nat)] ++ lb) W fun e w' => e = .returned (.int .i64 (h k)) ∧ Below W.heap.size W w'
theorem i_lanesOf (w : World) (n : Nat) (g : Nat) (lb : Array Value) (h : Nat → Int) (hn : n ≤ 35184372088832) (eg : Ent Tryz.prog g) (hp : FvI Tryz.prog w g lb n h) :
    Calls Tryz.prog 190 #[.int .i64 (n : Nat), .func (.func g) #[] lb] w (RetI w 2 ((List.range n).map h)) := by
  have hmk := makeInt n hn
  go_enter Tryz.func190, Tryz.ntmps190
  go_wp2
  clear hmk
  go_loopg [6, 11] n (fun gg _ s wr => ∃ k : Nat, k ≤ n ∧ n - k ≤ gg ∧ s = .int .i64 k ∧ Aside (Below w.heap.size w wr) ∧
    Aside (Own wr w.heap.size (w.heap.size + 1) 2 1 (.slice (some ⟨w.heap.size, 0, none⟩) n n) n (ints ((List.range k).map h ++ List.replicate (n - k) 0))))
  case atStart => exact ⟨0, Nat.zero_le _, by omega, rfl, ballocw w _, by unfold Aside; simpa [ints_replicate] using own_made w 2 (.int .i64 0) n (by omega)⟩
  case round =>
    obtain ⟨k, hk, hg, rfl, BW, OW⟩ := hrel
    by_cases hlt : k < n
    · have hcall := hp wr BW.out k hlt
      have hsz := (OW.out.1.lt w.heap.size rfl).2
      clear hp
      go_wp2_with fail
      refine hcall.mono ?_
      rintro e w' ⟨rfl, hb'⟩
      have BW2 : Aside (Below w.heap.size w w') := bthen BW.out hb'
      have OW2 := OW.out.eqv (Eqv.of hb' hsz)
      obtain ⟨A', c', e', _, _, hs⟩ := OW2.shape
      obtain ⟨rfl, rfl⟩ : A' = some ⟨w.heap.size, 0, none⟩ ∧ c' = n := by cases e'; exact ⟨rfl, rfl⟩
      rcases hs with ⟨h0, _⟩ | ⟨g', hg', _, _, hcells, hfr⟩
      · cases h0
      obtain rfl : g' = w.heap.size := by cases hg'; rfl
      have hck := hcells k _ (ints_get (by simp; omega))
      have hfk := hfr k
      have OW' : Aside (Own (w'.setCell ⟨w.heap.size, k, none⟩ (.int .i64 (h k))) w.heap.size (w.heap.size + 1) 2 1 (.slice (some ⟨w.heap.size, 0, none⟩) c' c') c' (ints ((List.range (k + 1)).map h ++ List.replicate (c' - (k + 1)) 0))) := by
        have := OW2.set k (.int .i64 (h k)); rw [ints_set, set_range h hlt] at this; exact this
      have BW' : Aside (Below w.heap.size w (w'.setCell ⟨w.heap.size, k, none⟩ (.int .i64 (h k)))) := bset BW2.out (Nat.le_refl _) _
      clear e' hg' hcells hfr OW BW OW2 BW2 hcall hb'
      generalize h k = y at *
      go_wp2
      go_roundg (c' - (k + 1))
      case measure => omega
      case rel => exact ⟨k + 1, by omega, by omega, by go_num, BW', OW'⟩
    · have : k = n := by omega
      subst this
      have hlt := (OW.out.1.lt w.heap.size rfl).2
      go_wp2
      go_ret
      refine ⟨_, rfl, ?_, BW.out⟩
      have := OW.out
      simp only [Nat.sub_self, List.replicate_zero, List.append_nil] at this
      unfold OwnI
      rw [show ((List.range k).map h).length = k from by simp]
      exact Own.wide this (Nat.le_refl _) hlt
def pick (xs is : List Int) : List Int := is.map fun i => el xs i.toNat
theorem pick_range (xs is : List Int) : (List.range is.length).map (fun k => el xs (el is k).toNat) = pick xs is := by
  apply List.ext_getElem? ; intro k
  by_cases hk : k < is.length
  · simp [pick, hk, el_get hk]
    have := el_get hk; rw [List.getElem?_eq_getElem hk] at this; rw [Option.some.inj this]
  · simp [pick, hk]
def InB (xs is : List Int) : Prop := ∀ k, k < is.length → 0 ≤ el is k ∧ el is k < xs.length
theorem i_picked1 (W : World) (B D : Nat) (A A' : Option Addr) (c c' : Nat) (xs is : List Int) (k : Nat) (hk : k < is.length) (hin : 0 ≤ el is k ∧ el is k < xs.length)
    (hl : xs.length ≤ 9223372036854775807) (hl' : is.length ≤ 9223372036854775807)
    (hb : W.cell? ⟨B, 0, none⟩ = some (.slice A xs.length c)) (hd : W.cell? ⟨D, 0, none⟩ = some (.slice A' is.length c')) (hA : RdI W A xs) (hA' : RdI W A' is) :
    Calls Tryz.prog 194 #[.int .i64 (k : Nat), .pointer (some ⟨B, 0, none⟩), .pointer (some ⟨D, 0, none⟩)] W fun e w' => e = .returned (.int .i64 (el xs (el is k).toNat)) ∧ Below W.heap.size W w' := by
  obtain ⟨b, off, rfl, hc⟩ := hA'.get hk
  obtain ⟨m, hm⟩ := Int.eq_ofNat_of_zero_le hin.1
  obtain ⟨b', off', rfl, hc'⟩ := hA.get (k := m) (by omega)
  have h2 := hin.2
  rw [hm] at hc h2 ⊢
  simp only [Int.toNat_natCast]
  have hm' : m < xs.length := by omega
  clear hA hA' hm hin h2
  go_enter Tryz.func194, Tryz.ntmps194
  go_wp2
  go_quiet (fail)
  go_wp2
  go_ret
  exact ⟨rfl, bdrewN (Below.refl _ _) _⟩
theorem i_picked (w : World) (A A' : Option Addr) (c c' : Nat) (xs is : List Int) (hin : InB xs is) (hl : xs.length ≤ 9223372036854775807) (hl' : is.length ≤ 35184372088832) (hA : RdI w A xs) (hA' : RdI w A' is) :
    Calls Tryz.prog 165 #[.slice A xs.length c, .slice A' is.length c'] w (RetI w 2 (pick xs is)) := by
  have hb1 : Below w.heap.size w (w.alloc (.cells #[.slice A xs.length c] 27)) := ballocw _ _
  have hb2 : Below w.heap.size w ((w.alloc (.cells #[.slice A xs.length c] 27)).alloc (.cells #[.slice A' is.length c'] 27)) := balloc hb1 _
  have hcall := i_lanesOf ((w.alloc (.cells #[.slice A xs.length c] 27)).alloc (.cells #[.slice A' is.length c'] 27)) is.length 194
    #[.pointer (some ⟨w.heap.size, 0, none⟩), .pointer (some ⟨w.heap.size + 1, 0, none⟩)] (fun k => el xs (el is k).toNat) hl' (enters_of Tryz.func194 (by kernel_rfl) rfl)
    (fun W hW k hk => i_picked1 W w.heap.size (w.heap.size + 1) A A' c c' xs is k hk (hin k hk) hl (by omega) ((hW.cell (p := ⟨w.heap.size, 0, none⟩) (by simp; omega)).trans (by simp))
      ((hW.cell (p := ⟨w.heap.size + 1, 0, none⟩) (by simp)).trans (by simp)) ((hA.below hb2).below hW) ((hA'.below hb2).below hW))
  rw [pick_range] at hcall
  have hcc := hcall.mono (fun e w' ⟨v, h1, h2, h3⟩ => (⟨v, h1, h2.wide (by simp; omega) (Nat.le_refl _), bthen hb2 h3⟩ : RetI w 2 (pick xs is) e w'))
  clear hcall hA hA' hb1 hb2 hin
  generalize pick xs is = r at hcc
  go_enter Tryz.func165, Tryz.ntmps165
  go_wp2_with fail
  refine hcc.mono ?_
  rintro e w' ⟨v, rfl, ho, hb'⟩
  go_wp2
  go_ret
  exact ⟨v, rfl, ho, hb'⟩
theorem pick_snoc {xs is : List Int} {k : Nat} (hk : k < is.length) : pick xs (is.take (k + 1)) = pick xs (is.take k) ++ [el xs (el is k).toNat] := by
  rw [el_take hk]; simp [pick]
end Go.Proofs.YtnnioicjmlfllaaGreatDoor
