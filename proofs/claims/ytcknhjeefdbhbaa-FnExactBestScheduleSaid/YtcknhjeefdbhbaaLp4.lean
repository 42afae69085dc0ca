import Derived.Test.YtcknhjeefdbhbaaLp2
import Derived.Test.YtcknhjeefdbhbaaLp3
set_option linter.unusedVariables false
set_option linter.unusedSimpArgs false
namespace Go.Proofs.Ytcknhjeefdbhbaa
open Go.RowKit

/-- What a call leaves that returns a list, a number and a bool. -/
def RetIZB (w : World) (r : List Int × Int × Bool) (en : Ending) (w' : World) : Prop := ∃ v, en = .returned (.tuple #[v, .int .i64 r.2.1, .bool r.2.2]) ∧ OI w' w.heap.size w'.heap.size v r.1 ∧ Below w.heap.size w w'
set_option maxRecDepth 100000 in
theorem i_LeastPressure (w : World) (A : Option Addr) (c : Nat) (ts : List TaskV) (hl : tsz ts ≤ 1048576) (hT : RdT w A ts) :
    Calls Try.prog 45 #[.slice A ts.length c] w (RetIZB w (m_LeastPressure ts)) := by
  have hb0 := ballocw w (.cells #[.slice A ts.length c] 62)
  have c0 := i_ValidTasks (w.alloc (.cells #[.slice A ts.length c] 62)) A c ts hl (hT.below hb0)
  have HE : Hid (m_LeastPressure ts = if tasksB ts then ((lpI ts).1, (lpI ts).2, true) else ([], 0, false)) := hid rfl
  have HB0 := hid hb0
  have HBX := hid (box_at w #[.slice A ts.length c] 62)
  have hz0 : (w.alloc (.cells #[.slice A ts.length c] 62)).heap.size = w.heap.size + 1 := by simp
  cases h0 : tasksB ts with
  | false =>
    rw [h0] at c0 HE
    have C0 := hid c0
    clear c0 h0 hT hl hb0 hz0
    generalize m_LeastPressure ts = r at HE ⊢
    go_enter Try.func45, Try.ntmps45
    go_wp2_with fail
    refine C0.out.mono ?_
    rintro e w1 ⟨rfl, hb1⟩
    go_wp2_with fail
    go_ret3
    exact ⟨_, by rw [HE.out]; rfl, by rw [HE.out]; exact Own.nil _ _ _ _ _, bthen HB0.out hb1⟩
  | true =>
    rw [h0] at c0 HE
    have C0 := hid c0
    have hO := TOk.of h0
    have HO := hid hO
    have HT := hid hT
    have HZ0 := hid hz0
    have HLP : Hid ((ordD ts ts.length []).foldl (upB ts) ([], -1) = lpI ts) := hid rfl
    clear c0 h0 hT hl hb0 hO hz0
    generalize m_LeastPressure ts = r at HE ⊢
    go_enter Try.func45, Try.ntmps45
    go_wp2_with fail
    refine C0.out.mono ?_
    rintro e w1 ⟨rfl, hb1⟩
    have hz1 := hb1.size
    have hbx1 := (hb1.block w.heap.size (by have := HZ0.out; omega)).trans HBX.out
    have hbw := bthen HB0.out hb1
    have k0 : w1.cell? ⟨w.heap.size, 0, none⟩ = some (.slice A ts.length c) := by rw [cell_of_row _ _ _ _ _ _ hbx1]; rfl
    have hb2 : Below w1.heap.size w1 ((w1.alloc (.cells #[.slice none 0 0] 25)).alloc (.cells #[.int .i64 (-1)] 2)) := balloc (ballocw w1 _) _
    have g1 : ((w1.alloc (.cells #[.slice none 0 0] 25)).alloc (.cells #[.int .i64 (-1)] 2)).heap[w1.heap.size]? = some (.cells #[.slice none 0 0] 25) := (heap_alloc_old _ _ (by simp)).trans (box_at _ _ _)
    have g2 : ((w1.alloc (.cells #[.slice none 0 0] 25)).alloc (.cells #[.int .i64 (-1)] 2)).heap[w1.heap.size + 1]? = some (.cells #[.int .i64 (-1)] 2) := by
      have h := box_at (w1.alloc (.cells #[.slice none 0 0] 25)) #[.int .i64 (-1)] 2
      rwa [show (w1.alloc (.cells #[.slice none 0 0] 25)).heap.size = w1.heap.size + 1 by simp] at h
    have hlt : w.heap.size < w1.heap.size := by have := HZ0.out; omega
    have hS : LPs w1 w.heap.size ts A c ([], -1) ((w1.alloc (.cells #[.slice none 0 0] 25)).alloc (.cells #[.int .i64 (-1)] 2)) :=
      ⟨hb2, hlt, (hb2.block _ hlt).trans hbx1, ⟨_, g1, Own.nil _ _ _ _ _⟩, g2, by simp⟩
    have hrec := i_orders w1 w.heap.size ts A c HO.out (HT.out.below hbw) ts.length [] _ ([], -1) none 0 (by simp) (Own.nil _ _ _ _ _) hS (fun o ho => (ords_plc HO.out ho).2.1)
    rw [HLP.out] at hrec
    have HREC := hid hrec
    have kb := bcell hb2 k0
    have HW := hid hbw
    have HB2 := hid hb2
    have HLT := hid hlt
    clear hrec hS g1 g2 hb2 hbx1 hb1 hbw C0 HT HO HBX hlt hz1
    go_wp2_with fail
    refine HREC.out.mono ?_
    rintro e w3 ⟨rfl, hc3, hs3⟩
    obtain ⟨v3, hb3, ho3⟩ := hs3.best
    have k1 : w3.cell? ⟨w1.heap.size, 0, none⟩ = some v3 := by rw [cell_of_row _ _ _ _ _ _ hb3]; rfl
    have k2 : w3.cell? ⟨w1.heap.size + 1, 0, none⟩ = some (.int .i64 (lpI ts).2) := by rw [cell_of_row _ _ _ _ _ _ hs3.least]; rfl
    have HBL := hid hs3.below
    have HO3 := hid ho3
    clear hb3 hs3 hc3 ho3 HREC k0 kb
    go_wp2_with fail
    have l1 := lcell k1
    have l2 := lcell k2
    refine wp_region_calm (by kernel_rfl) (by kernel_rfl) ?_
    repeat (go_big_quiet_step (fail))
    refine wpQuiet_nil ?_
    intro _ hw'
    obtain ⟨xq, hw''⟩ := hw'
    subst hw''
    have hxb := xq.below
    go_wp2
    go_ret3
    have hlt := HLT.out
    exact ⟨_, by rw [HE.out]; rfl, by rw [HE.out]; exact Own.wide (OI.eqv HO3.out (Eqv.of hxb (Nat.le_refl _))) (by omega) hxb.size, bthen (bthen HW.out HBL.out) hxb⟩
end Go.Proofs.Ytcknhjeefdbhbaa
