import Derived.Test.YtjcpjmijhloimaaAsg2
import Derived.Test.YtjcpjmijhloimaaAsg3
import Derived.Test.YtjcpjmijhloimaaReg
import Derived.Test.YtjcpjmijhloimaaShuf3
import Derived.Test.YtjcpjmijhloimaaCalm
set_option linter.unusedVariables false
set_option linter.unusedSimpArgs false
namespace Go.Proofs.Ytjcpjmijhloimaa
open Go.RowKit

theorem meet_iff {a b : PI} (ha : a.1 < a.2) (hb : b.1 < b.2) : meetB a b = (decide (a.1 < b.2) && decide (b.1 < a.2)) := by
  unfold meetB
  rw [Bool.eq_iff_iff, Bool.and_eq_true, decide_eq_true_eq, decide_eq_true_eq, decide_eq_true_eq]
  omega
set_option maxRecDepth 100000 in
theorem s_l00Put (w : World) (A : Option Addr) (c : Nat) (xs : List Int) (n : Int) (hl : xs.length ≤ 1048576) (hR : RdI w A xs) :
    Calls Try.prog 97 #[.slice A xs.length c, .int .i64 n] w (RetI w 2 (putF xs n)) := by
  have hown := Own.of (World.ownsRow_lit (base := w.heap.size) (e := 2) (size := 1) w #[] 0 (Nat.le_refl _) (by simp [maxLen]) rfl)
  have HO : Hid (OwnI (w.alloc (.cells #[] 2)) w.heap.size (w.alloc (.cells #[] 2)).heap.size 2 (.slice (some ⟨w.heap.size, 0, none⟩) 0 0) (putN xs n 0).1) := hid (by simpa [OwnI, ints, putN] using hown)
  have HB := hid (ballocw w (.cells #[] 2))
  have HS : Hid (∀ i, putN xs n (i + 1) = putS n (el xs i) (putN xs n i).1 (putN xs n i).2) := hid fun _ => rfl
  have HZ : Hid ((putN xs n 0).2 = false) := hid rfl
  have HF : Hid (putF xs n = if (putN xs n xs.length).2 then (putN xs n xs.length).1 else (putN xs n xs.length).1 ++ [n]) := hid rfl
  have HL := hid (fun k hk => (putN_spec xs n (k := k) hk).2)
  have HR := hid hR
  clear hown hR
  generalize putF xs n = F at *
  go_enter Try.func97, Try.ntmps97
  go_wp2
  go_loopg [5, 6, 7] xs.length (fun gg v d s wr => ∃ i : Nat, i ≤ xs.length ∧ xs.length - i ≤ gg ∧ s = .int .i64 i ∧ d = .bool (putN xs n i).2 ∧ Aside (Below w.heap.size w wr) ∧ Aside (OwnI wr w.heap.size wr.heap.size 2 v (putN xs n i).1))
  case atStart => exact ⟨0, Nat.zero_le _, by omega, rfl, (by rw [HZ.out]), HB.out, HO.out⟩
  case round =>
    obtain ⟨i, hi, hg, rfl, rfl, BW, OW⟩ := hrel
    clear HO HB
    have hsz := BW.out.size
    have hll := HL.out i hi
    by_cases hlt : i < xs.length
    · have hlt' : (i : Int) < (xs.length : Int) := by omega
      obtain ⟨b, off, rfl, hcw⟩ := HR.out.get hlt
      have hc := bcell BW.out hcw
      have HSi := hid (HS.out i)
      clear HS HR HF HL
      generalize hod : putN xs n i = od at *
      obtain ⟨o, d⟩ := od
      generalize el xs i = x at *
      have hol : o.length ≤ i + 1 := by cases d <;> simp at hll <;> omega
      clear hod hll
      cases d with
      | true =>
        have HQ : Hid (putN xs n (i + 1) = (o ++ [x], true)) := hid (by rw [HSi.out]; rfl)
        clear HSi
        go_wp2_with (at_builtin; refine wp_append1 w.heap.size rfl _ _ 25 2 (.int .i64 0) 8 rfl Try.underlying25 infoInt rfl u5 o.length _ (.int .i64 x) rfl rfl rfl OW.out hsz (by omega) (by omega) ?_; intro v1 w1 hown1 hbel1)
        have B1 : Aside (Below w.heap.size w w1) := BW.out.trans hbel1
        have O1 : Aside (OwnI w1 w.heap.size w1.heap.size 2 v1 (putN xs n (i + 1)).1) := by
          unfold Aside; rw [HQ.out]; unfold OwnI; rw [List.length_append, List.length_singleton, ints_append]; exact hown1
        go_roundg (xs.length - (i + 1))
        case measure => omega
        case rel => exact ⟨i + 1, by omega, by omega, by go_num, (by rw [HQ.out]), B1, O1⟩
      | false =>
        by_cases hn : n ≤ x
        · by_cases hn2 : n < x
          · have HQ : Hid (putN xs n (i + 1) = (o ++ [n] ++ [x], true)) := hid (by rw [HSi.out]; unfold putS; simp [hn, hn2])
            clear HSi
            go_wp2_with (first | (at_builtin; refine wp_append1 w.heap.size rfl _ _ 25 2 (.int .i64 0) 8 rfl Try.underlying25 infoInt rfl (.slice A0 (o.length + 1) c0) (o.length + 1) _ (.int .i64 x) rfl rfl rfl O0.out HB0.out.size (by omega) (by omega) ?_; intro v1 w1 hown1 hbel1) | (at_builtin; refine wp_append1 w.heap.size rfl _ _ 25 2 (.int .i64 0) 8 rfl Try.underlying25 infoInt rfl u5 o.length _ (.int .i64 n) rfl rfl rfl OW.out hsz (by omega) (by omega) ?_; intro v0 w0 hown0 hbel0; have hc0 := bcell (BW.out.trans hbel0) hcw; have HB0 := hid (BW.out.trans hbel0); have O0 : Hid (Own w0 w.heap.size w0.heap.size 2 1 v0 (o.length + 1) (ints (o ++ [n]))) := hid (by rw [ints_append]; exact hown0); clear hown0 hbel0; obtain ⟨A0, c0, rfl, _, _, _⟩ := Own.shape O0.out))
            have B1 : Aside (Below w.heap.size w w1) := HB0.out.trans hbel1
            have O1 : Aside (OwnI w1 w.heap.size w1.heap.size 2 v1 (putN xs n (i + 1)).1) := by
              unfold Aside; rw [HQ.out]; unfold OwnI; rw [List.length_append, List.length_append, List.length_singleton, List.length_singleton, ints_append]; exact hown1
            go_roundg (xs.length - (i + 1))
            case measure => omega
            case rel => exact ⟨i + 1, by omega, by omega, by go_num, (by rw [HQ.out]), B1, O1⟩
          · have HQ : Hid (putN xs n (i + 1) = (o ++ [x], true)) := hid (by rw [HSi.out]; unfold putS; simp [hn, hn2])
            clear HSi
            go_wp2_with (at_builtin; refine wp_append1 w.heap.size rfl _ _ 25 2 (.int .i64 0) 8 rfl Try.underlying25 infoInt rfl u5 o.length _ (.int .i64 x) rfl rfl rfl OW.out hsz (by omega) (by omega) ?_; intro v1 w1 hown1 hbel1)
            have B1 : Aside (Below w.heap.size w w1) := BW.out.trans hbel1
            have O1 : Aside (OwnI w1 w.heap.size w1.heap.size 2 v1 (putN xs n (i + 1)).1) := by
              unfold Aside; rw [HQ.out]; unfold OwnI; rw [List.length_append, List.length_singleton, ints_append]; exact hown1
            go_roundg (xs.length - (i + 1))
            case measure => omega
            case rel => exact ⟨i + 1, by omega, by omega, by go_num, (by rw [HQ.out]), B1, O1⟩
        · have HQ : Hid (putN xs n (i + 1) = (o ++ [x], false)) := hid (by rw [HSi.out]; unfold putS; simp [hn])
          clear HSi
          go_wp2_with (at_builtin; refine wp_append1 w.heap.size rfl _ _ 25 2 (.int .i64 0) 8 rfl Try.underlying25 infoInt rfl u5 o.length _ (.int .i64 x) rfl rfl rfl OW.out hsz (by omega) (by omega) ?_; intro v1 w1 hown1 hbel1)
          have B1 : Aside (Below w.heap.size w w1) := BW.out.trans hbel1
          have O1 : Aside (OwnI w1 w.heap.size w1.heap.size 2 v1 (putN xs n (i + 1)).1) := by
            unfold Aside; rw [HQ.out]; unfold OwnI; rw [List.length_append, List.length_singleton, ints_append]; exact hown1
          go_roundg (xs.length - (i + 1))
          case measure => omega
          case rel => exact ⟨i + 1, by omega, by omega, by go_num, (by rw [HQ.out]), B1, O1⟩
    · have hin : i = xs.length := by omega
      subst hin
      have hlt' : ¬ ((xs.length : Nat) : Int) < ((xs.length : Nat) : Int) := by omega
      clear HS HR HL
      generalize putN xs n xs.length = od at *
      obtain ⟨o, d⟩ := od
      have hol : o.length ≤ xs.length + 1 := by cases d <;> simp at hll <;> omega
      clear hll
      cases d with
      | true =>
        have HQ : Hid (F = o) := hid (by rw [HF.out]; rfl)
        clear HF
        go_wp2
        go_ret
        exact ⟨_, rfl, by rw [HQ.out]; exact OW.out, BW.out⟩
      | false =>
        have HQ : Hid (F = o ++ [n]) := hid (by rw [HF.out]; rfl)
        clear HF
        go_wp2_with (at_builtin; refine wp_append1 w.heap.size rfl _ _ 25 2 (.int .i64 0) 8 rfl Try.underlying25 infoInt rfl u5 o.length _ (.int .i64 n) rfl rfl rfl OW.out hsz (by omega) (by omega) ?_; intro v1 w1 hown1 hbel1)
        go_ret
        exact ⟨_, rfl, by rw [HQ.out]; unfold OwnI; rw [List.length_append, List.length_singleton, ints_append]; exact hown1, BW.out.trans hbel1⟩
end Go.Proofs.Ytjcpjmijhloimaa
