import Derived.Test.YtolcmehndambmaaCat
set_option linter.unusedVariables false
set_option linter.unusedSimpArgs false
namespace Go.Proofs.Ytolcmehndambmaa
open Go.RowKit

/-- How many numbers the first k rows have. -/
def tot (xss : List (List Int)) (k : Nat) : Nat := (xss.take k).flatten.length
theorem flat_step {xss : List (List Int)} {k : Nat} (hk : k < xss.length) : (xss.take (k + 1)).flatten = (xss.take k).flatten ++ rw_ xss k := by
  rw [List.take_add_one, rw_get hk]; simp
theorem tot_step {xss : List (List Int)} {k : Nat} (hk : k < xss.length) : tot xss (k + 1) = tot xss k + (rw_ xss k).length := by unfold tot; rw [flat_step hk]; simp
theorem tot_le {xss : List (List Int)} {k : Nat} : tot xss k ≤ xss.flatten.length := by
  unfold tot
  have : xss.flatten = (xss.take k).flatten ++ (xss.drop k).flatten := by rw [← List.flatten_append, List.take_append_drop]
  rw [this]; simp
theorem rw_drop {xss : List (List Int)} {k : Nat} (hk : k < xss.length) : xss.drop k = rw_ xss k :: xss.drop (k + 1) := by
  rw [List.drop_eq_getElem_cons hk]; congr 1; have := rw_get hk; rw [List.getElem?_eq_getElem hk] at this; exact Option.some.inj this

set_option maxRecDepth 100000 in
theorem g_Concat (w : World) (A : Option Addr) (c : Nat) (xss : List (List Int)) (hl : xss.length ≤ 1048576) (hs : xss.flatten.length ≤ 1048576) (hR : RdR w A xss) :
    Calls Try.prog 131 #[.slice A xss.length c] w (RetI w 2 xss.flatten) := by
  have hgr := fun (W : World) => g_Grow W (tot xss xss.length) (Nat.le_trans tot_le hs)
  have HS := hid hs
  clear hs
  have HR := hid hR
  clear hR
  go_enter Try.func131, Try.ntmps131
  go_wp2
  go_loopg [3, 11] xss.length (fun gg t s wr => ∃ k : Nat, k ≤ xss.length ∧ xss.length - k ≤ gg ∧ s = .int .i64 k ∧ t = .int .i64 (tot xss k) ∧ Aside (w = wr))
  case atStart => exact ⟨0, Nat.zero_le _, by omega, rfl, rfl, rfl⟩
  case round =>
    obtain ⟨k, hk, hg, rfl, rfl, BW⟩ := hrel
    obtain rfl := BW.out
    by_cases hlt : k < xss.length
    · obtain ⟨b, off, A', c', rfl, hc, hcc, hr⟩ := HR.out.get hlt
      have hst := tot_step hlt
      have hle : tot xss (k + 1) ≤ 1048576 := Nat.le_trans tot_le HS.out
      have h1 : (tot xss k : Int) + ((rw_ xss k).length : Int) ≤ 1048576 := by omega
      have h2 : (0 : Int) ≤ (tot xss k : Int) + ((rw_ xss k).length : Int) := by omega
      have HST := hid (show ((tot xss k : Int) + ((rw_ xss k).length : Int)) = (tot xss (k + 1) : Int) from by omega)
      clear hst hr hgr
      generalize (rw_ xss k).length = m at *
      go_wp2
      go_roundg (xss.length - (k + 1))
      case measure => omega
      case rel => exact ⟨k + 1, by omega, by omega, by go_num, by rw [HST.out], rfl⟩
    · have : k = xss.length := by omega
      subst this
      have HT := hid (show tot xss xss.length = xss.flatten.length from by simp [tot])
      go_wp2_with fail
      refine (hgr _).mono ?_
      rintro e w1 ⟨v1, rfl, ho1, hb1⟩
      clear hgr
      go_wp2_with fail
      go_loopg [6, 27] xss.length (fun gg v s wr => ∃ k : Nat, k ≤ xss.length ∧ xss.length - k ≤ gg ∧ s = .int .i64 k ∧ Aside (Below w.heap.size w wr) ∧ Aside (Own wr w.heap.size wr.heap.size 2 1 v (tot xss k) (ints (xss.take k).flatten)))
      case atStart => exact ⟨0, Nat.zero_le _, by omega, rfl, hb1, by simpa [Aside, tot, ints] using ho1⟩
      case round =>
        obtain ⟨k, hk, hg, rfl, BW2, OW⟩ := hrel
        by_cases hlt : k < xss.length
        · obtain ⟨b, off, A', c', rfl, hc, hcc, hr⟩ := (HR.out.below BW2.out).get hlt
          have HST := hid (tot_step hlt)
          have HFL := hid (flat_step hlt)
          have hle : tot xss (k + 1) ≤ 1048576 := Nat.le_trans tot_le HS.out
          have h1 : tot xss k + (rw_ xss k).length ≤ 1048576 := by rw [← HST.out]; omega
          have hsz := BW2.out.size
          have HRR := hid hr
          clear hr ho1 hb1
          generalize rw_ xss k = ys at *
          go_wp2_with (at_builtin; refine wp_appendS w.heap.size rfl _ _ 29 2 (.int .i64 0) 8 rfl Try.underlying29 infoInt rfl u6 (tot xss k) _ A' c' ys rfl rfl OW.out HRR.out hsz (by omega) (by omega) ?_; intro v2 w2 hown2 hbel2)
          go_roundg (xss.length - (k + 1))
          case measure => omega
          case rel =>
            refine ⟨k + 1, by omega, by omega, by go_num, ?_, ?_⟩
            · show Below _ _ _; exact BW2.out.trans hbel2
            · show Own _ _ _ _ _ _ _ _; rw [HST.out, HFL.out, ints_append]; exact hown2
        · have : k = xss.length := by omega
          subst this
          go_wp2_with fail
          go_ret
          refine ⟨_, rfl, ?_, BW2.out⟩
          have := OW.out
          rw [HT.out, List.take_length] at this
          exact this
end Go.Proofs.Ytolcmehndambmaa
