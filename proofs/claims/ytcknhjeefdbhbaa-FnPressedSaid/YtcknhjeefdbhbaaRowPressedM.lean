import Derived.Test.YtcknhjeefdbhbaaLp
import Derived.Test.YtcknhjeefdbhbaaLp2
import Derived.Test.YtcknhjeefdbhbaaBase
import Derived.Test.YtcknhjeefdbhbaaTsk3
import Derived.WalkKit
import Derived.ProofKit
import Derived.OpenShut
import Derived.Test.YtcknhjeefdbhbaaSrc
import Derived.Test.YtcknhjeefdbhbaaRows
import Derived.ShutString
import Derived.ChangeOld
import Derived.Below
set_option linter.unusedVariables false
set_option linter.unusedSimpArgs false
namespace Go.Proofs.Ytcknhjeefdbhbaa
open Go.RowKit

theorem ords_step {ts : List TaskV} {o : List Int} (h : o ∈ ords ts) : o.length = ts.length ∧ stepN ts o o.length = true := by
  obtain ⟨h1, _, h3⟩ := ordD_spec h
  have hl : o.length = ts.length := by simpa using h1
  refine ⟨hl, stepN_of fun k hk => ?_⟩
  obtain ⟨i, hi, he, hr⟩ := h3 k (by simp) hk
  simp only [rdyO, Bool.and_eq_true] at hr
  unfold stepB seenB
  rw [he]
  simp only [Bool.and_eq_true, inB_iff]
  refine ⟨⟨by omega, by omega⟩, hr.1, ?_⟩
  rw [Int.toNat_natCast]
  exact hr.2
theorem ords_plc {ts : List TaskV} (hO : TOk ts) {o : List Int} (h : o ∈ ords ts) : o.length = ts.length ∧ plcB ts o = true ∧ aftN ts o ts.length = true := by
  obtain ⟨h1, h2⟩ := ords_step h
  have he := order_eq hO o
  rw [h2, show decide (o.length = ts.length) = true by simpa using h1] at he
  have := he.symm
  simp only [Bool.and_self, Bool.and_eq_true] at this
  exact ⟨h1, this.1, this.2⟩
theorem mem_ordD {ts : List TaskV} {d : Nat} {p o : List Int} (h1 : o.length = p.length + d) (h2 : o.take p.length = p) (h3 : ∀ k, p.length ≤ k → k < o.length → ∃ i, i < ts.length ∧ el o k = (i : Nat) ∧ rdyO ts (o.take k) i = true) : o ∈ ordD ts d p := by
  induction d generalizing p with
  | zero => simp only [ordD, List.mem_singleton]; rw [← h2, List.take_of_length_le (by omega)]
  | succ d ih =>
    obtain ⟨i, hi, he, hr⟩ := h3 p.length (Nat.le_refl _) (by omega)
    rw [h2] at hr
    simp only [ordD]
    refine (ordI_spec (Nat.le_refl _)).2 ⟨i, by omega, hi, hr, ih (by simp; omega) ?_ ?_⟩
    · rw [List.length_append, List.length_singleton, el_take (by omega), h2, he]
    · intro k hk; exact h3 k (by rw [List.length_append] at hk; omega)
theorem mem_ords {ts : List TaskV} (hO : TOk ts) {o : List Int} (h1 : plcB ts o = true) (h2 : aftN ts o ts.length = true) : o ∈ ords ts := by
  have hl : o.length = ts.length := (m_places_yes h1).2
  have he := order_eq hO o
  rw [h1, h2] at he
  simp only [Bool.and_self, Bool.and_eq_true] at he
  refine mem_ordD (by simpa using hl) (by simp) fun k _ hk => ?_
  have hs := stepN_at he.1 hk
  unfold stepB seenB at hs
  simp only [Bool.and_eq_true, inB_iff] at hs
  refine ⟨(el o k).toNat, by omega, by omega, ?_⟩
  unfold rdyO
  rw [Int.toNat_of_nonneg hs.1.1, hs.2.1]
  exact hs.2.2
def idn (n : Nat) : List Int := (List.range n).map fun k : Nat => (k : Int)
theorem idn_take {n k : Nat} (h : k ≤ n) : (idn n).take k = idn k := by
  unfold idn; rw [← List.map_take, List.take_range, Nat.min_eq_left h]
theorem idn_has (n : Nat) (x : Int) : hasB (idn n) x = decide (0 ≤ x ∧ x < n) := by
  rw [Bool.eq_iff_iff, hasB_iff, decide_eq_true_eq]
  simp only [idn, List.mem_map, List.mem_range]
  constructor
  · rintro ⟨k, hk, rfl⟩; omega
  · rintro ⟨h0, h1⟩; exact ⟨x.toNat, by omega, by omega⟩
theorem idn_mem {ts : List TaskV} (hO : TOk ts) : idn ts.length ∈ ords ts := by
  refine mem_ordD (by simp [idn]) (by simp) fun k _ hk => ?_
  have hk' : k < ts.length := by simpa [idn] using hk
  refine ⟨k, hk', by unfold idn; rw [el_range _ hk'], ?_⟩
  unfold rdyO
  rw [idn_take (by omega), idn_has]
  simp only [Bool.and_eq_true, Bool.not_eq_true', decide_eq_false_iff_not, List.all_eq_true]
  refine ⟨by omega, fun x hx => ?_⟩
  obtain ⟨j, hj, rfl⟩ := List.getElem_of_mem hx
  have hx' : (tel ts k).needs[j] = el (tel ts k).needs j := by have := el_get hj; rw [List.getElem?_eq_getElem hj] at this; exact Option.some.inj this
  rw [hx', idn_has, decide_eq_true_eq]
  exact hO.need k hk' j hj
/-- The fold keeps the first one that is least. -/
theorem up_fold {ts : List TaskV} (l : List (List Int)) : ∀ o0 : List Int, ∃ o, l.foldl (upB ts) (o0, prsI ts o0 ts.length) = (o, prsI ts o ts.length) ∧ o ∈ o0 :: l ∧
    (o0 :: l).find? (fun q => decide (prsI ts q ts.length ≤ prsI ts o ts.length)) = some o ∧ ∀ q ∈ o0 :: l, prsI ts o ts.length ≤ prsI ts q ts.length := by
  induction l with
  | nil => intro o0; exact ⟨o0, rfl, by simp, by simp, by simp⟩
  | cons q l ih =>
    intro o0
    have hp0 := (prsI_bnd ts o0 ts.length).1
    simp only [List.foldl_cons]
    by_cases h : prsI ts q ts.length < prsI ts o0 ts.length
    · have hu : upB ts (o0, prsI ts o0 ts.length) q = (q, prsI ts q ts.length) := by simp only [upB]; rw [if_pos (.inr h)]
      rw [hu]
      obtain ⟨o, h1, h2, h3, h4⟩ := ih q
      have h5 := h4 q (by simp)
      refine ⟨o, h1, List.mem_cons_of_mem _ h2, ?_, ?_⟩
      · rw [List.find?_cons, decide_eq_false (by omega)]; exact h3
      · intro x hx
        rcases List.mem_cons.1 hx with rfl | hx
        · omega
        · exact h4 x hx
    · have hn : ¬ (prsI ts o0 ts.length < 0 ∨ prsI ts q ts.length < prsI ts o0 ts.length) := by omega
      have hu : upB ts (o0, prsI ts o0 ts.length) q = (o0, prsI ts o0 ts.length) := by simp only [upB]; rw [if_neg hn]
      rw [hu]
      obtain ⟨o, h1, h2, h3, h4⟩ := ih o0
      have h5 := h4 o0 (by simp)
      refine ⟨o, h1, ?_, ?_, ?_⟩
      · rcases List.mem_cons.1 h2 with rfl | h2
        · simp
        · simp [h2]
      · by_cases e : prsI ts o0 ts.length ≤ prsI ts o ts.length
        · rw [List.find?_cons, decide_eq_true e] at h3 ⊢; exact h3
        · rw [List.find?_cons, decide_eq_false e] at h3 ⊢
          rw [List.find?_cons, decide_eq_false (by omega)]; exact h3
      · intro x hx
        rcases List.mem_cons.1 hx with rfl | hx
        · exact h5
        · rcases List.mem_cons.1 hx with rfl | hx
          · omega
          · exact h4 x (by simp [hx])
theorem lpI_spec {ts : List TaskV} (hO : TOk ts) : (lpI ts).1 ∈ ords ts ∧ (lpI ts).2 = prsI ts (lpI ts).1 ts.length ∧
    (ords ts).find? (fun q => decide (prsI ts q ts.length ≤ (lpI ts).2)) = some (lpI ts).1 ∧ ∀ q ∈ ords ts, (lpI ts).2 ≤ prsI ts q ts.length := by
  have hne := idn_mem hO
  unfold lpI
  generalize ords ts = l at *
  cases l with
  | nil => cases hne
  | cons q l =>
    have hu : upB ts ([], -1) q = (q, prsI ts q ts.length) := by simp only [upB]; rw [if_pos (.inl (by simp))]
    obtain ⟨o, h1, h2, h3, h4⟩ := up_fold (ts := ts) l q
    have e : (q :: l).foldl (upB ts) ([], -1) = (o, prsI ts o ts.length) := by rw [List.foldl_cons, hu, h1]
    generalize (q :: l).foldl (upB ts) ([], -1) = r at e ⊢
    subst e
    exact ⟨h2, rfl, h3, h4⟩
theorem prsS_le {ts : List TaskV} {o : List Int} {most : Int} (h0 : 0 ≤ most) (n : Nat) : prsS ts o n ≤ most ↔ ∀ k, k < n → (cntS ts (o.take (k + 1)) (k + 1) : Int) ≤ most := by
  induction n with
  | zero => simp [prsS, h0]
  | succ n ih =>
    simp only [prsS]
    constructor
    · intro h k hk
      by_cases e : k = n
      · subst e; omega
      · exact ih.1 (by omega) k (by omega)
    · intro h
      have h1 := ih.2 fun k hk => h k (by omega)
      have h2 := h n (by omega)
      omega
theorem wth_eq {ts : List TaskV} (hO : TOk ts) {most : Int} (h0 : 0 ≤ most) : wthD ts most ts.length [] = (ords ts).find? (fun q => decide (prsI ts q ts.length ≤ most)) := by
  rw [wth_find]
  refine find_congr fun o ho => ?_
  obtain ⟨h1, h2, _⟩ := ords_plc hO ho
  have hperm : ∀ k : Nat, k < ts.length → (k : Int) ∈ o := by
    have := h2; unfold plcB at this; simp only [Bool.and_eq_true] at this; exact ordB_iff.1 this.2
  rw [prs_eq hO h1 hperm (Nat.le_refl _)]
  unfold lowP
  rw [Bool.eq_iff_iff, decide_eq_true_eq, prsS_le h0, List.all_eq_true]
  simp [h1]
theorem lp_wth {ts : List TaskV} (hO : TOk ts) : 0 ≤ (lpI ts).2 ∧ (lpI ts).2 ≤ ts.length ∧ wthD ts (lpI ts).2 ts.length [] = some (lpI ts).1 ∧ ∀ m : Int, 0 ≤ m → m < (lpI ts).2 → wthD ts m ts.length [] = none := by
  obtain ⟨h1, h2, h3, h4⟩ := lpI_spec hO
  have hb := prsI_bnd ts (lpI ts).1 ts.length
  rw [← h2] at hb
  refine ⟨hb.1, hb.2, by rw [wth_eq hO hb.1]; exact h3, fun m hm0 hm => ?_⟩
  rw [wth_eq hO hm0, List.find?_eq_none]
  intro q hq
  have := h4 q hq
  simp; omega
def m_LeastPressure (ts : List TaskV) : List Int × Int × Bool := if tasksB ts then ((lpI ts).1, (lpI ts).2, true) else ([], 0, false)
theorem m_LeastPressure_len (ts : List TaskV) : (m_LeastPressure ts).1.length ≤ 1048576 := by
  unfold m_LeastPressure; split
  · rename_i h
    have hO := TOk.of h
    have := hO.few
    have h1 := (ords_plc hO (lpI_spec hO).1).1
    simp only; omega
  · simp
end Go.Proofs.Ytcknhjeefdbhbaa
set_option linter.unusedVariables false
set_option linter.unusedSimpArgs false
namespace Go.Proofs.Ytcknhjeefdbhbaa
open Go.RowKit

/-- What a call leaves that returns a list, a number and a bool. -/
def RetIZB (w : World) (r : List Int × Int × Bool) (en : Ending) (w' : World) : Prop := ∃ v, en = .returned (.tuple #[v, .int .i64 r.2.1, .bool r.2.2]) ∧ OI w' w.heap.size w'.heap.size v r.1 ∧ Below w.heap.size w w'
set_option maxRecDepth 100000 in
theorem i_LeastPressure (w : World) (A : Option Addr) (c : Nat) (ts : List TaskV) (hl : tsz ts ≤ 1048576) (hT : RdT w A ts) :
    Calls Try.prog 45 #[.slice A ts.length c] w (RetIZB w (m_LeastPressure ts)) := by
  have hb0 := ballocw w (.cells #[.slice A ts.length c] 62)
  have c0 := i_ValidTasks (w.alloc (.cells #[.slice A ts.length c] 62)) A c ts hl (hT.below hb0)
  have HE : Hid (m_LeastPressure ts = if tasksB ts then ((lpI ts).1, (lpI ts).2, true) else ([], 0, false)) := hid rfl
  have HB0 := hid hb0
  have HBX := hid (box_at w #[.slice A ts.length c] 62)
  have hz0 : (w.alloc (.cells #[.slice A ts.length c] 62)).heap.size = w.heap.size + 1 := by simp
  cases h0 : tasksB ts with
  | false =>
    rw [h0] at c0 HE
    have C0 := hid c0
    clear c0 h0 hT hl hb0 hz0
    generalize m_LeastPressure ts = r at HE ⊢
    go_enter Try.func45, Try.ntmps45
    go_wp2_with fail
    refine C0.out.mono ?_
    rintro e w1 ⟨rfl, hb1⟩
    go_wp2_with fail
    go_ret3
    exact ⟨_, by rw [HE.out]; rfl, by rw [HE.out]; exact Own.nil _ _ _ _ _, bthen HB0.out hb1⟩
  | true =>
    rw [h0] at c0 HE
    have C0 := hid c0
    have hO := TOk.of h0
    have HO := hid hO
    have HT := hid hT
    have HZ0 := hid hz0
    have HLP : Hid ((ordD ts ts.length []).foldl (upB ts) ([], -1) = lpI ts) := hid rfl
    clear c0 h0 hT hl hb0 hO hz0
    generalize m_LeastPressure ts = r at HE ⊢
    go_enter Try.func45, Try.ntmps45
    go_wp2_with fail
    refine C0.out.mono ?_
    rintro e w1 ⟨rfl, hb1⟩
    have hz1 := hb1.size
    have hbx1 := (hb1.block w.heap.size (by have := HZ0.out; omega)).trans HBX.out
    have hbw := bthen HB0.out hb1
    have k0 : w1.cell? ⟨w.heap.size, 0, none⟩ = some (.slice A ts.length c) := by rw [cell_of_row _ _ _ _ _ _ hbx1]; rfl
    have hb2 : Below w1.heap.size w1 ((w1.alloc (.cells #[.slice none 0 0] 25)).alloc (.cells #[.int .i64 (-1)] 2)) := balloc (ballocw w1 _) _
    have g1 : ((w1.alloc (.cells #[.slice none 0 0] 25)).alloc (.cells #[.int .i64 (-1)] 2)).heap[w1.heap.size]? = some (.cells #[.slice none 0 0] 25) := (heap_alloc_old _ _ (by simp)).trans (box_at _ _ _)
    have g2 : ((w1.alloc (.cells #[.slice none 0 0] 25)).alloc (.cells #[.int .i64 (-1)] 2)).heap[w1.heap.size + 1]? = some (.cells #[.int .i64 (-1)] 2) := by
      have h := box_at (w1.alloc (.cells #[.slice none 0 0] 25)) #[.int .i64 (-1)] 2
      rwa [show (w1.alloc (.cells #[.slice none 0 0] 25)).heap.size = w1.heap.size + 1 by simp] at h
    have hlt : w.heap.size < w1.heap.size := by have := HZ0.out; omega
    have hS : LPs w1 w.heap.size ts A c ([], -1) ((w1.alloc (.cells #[.slice none 0 0] 25)).alloc (.cells #[.int .i64 (-1)] 2)) :=
      ⟨hb2, hlt, (hb2.block _ hlt).trans hbx1, ⟨_, g1, Own.nil _ _ _ _ _⟩, g2, by simp⟩
    have hrec := i_orders w1 w.heap.size ts A c HO.out (HT.out.below hbw) ts.length [] _ ([], -1) none 0 (by simp) (Own.nil _ _ _ _ _) hS (fun o ho => (ords_plc HO.out ho).2.1)
    rw [HLP.out] at hrec
    have HREC := hid hrec
    have kb := bcell hb2 k0
    have HW := hid hbw
    have HB2 := hid hb2
    have HLT := hid hlt
    clear hrec hS g1 g2 hb2 hbx1 hb1 hbw C0 HT HO HBX hlt hz1
    go_wp2_with fail
    refine HREC.out.mono ?_
    rintro e w3 ⟨rfl, hc3, hs3⟩
    obtain ⟨v3, hb3, ho3⟩ := hs3.best
    have k1 : w3.cell? ⟨w1.heap.size, 0, none⟩ = some v3 := by rw [cell_of_row _ _ _ _ _ _ hb3]; rfl
    have k2 : w3.cell? ⟨w1.heap.size + 1, 0, none⟩ = some (.int .i64 (lpI ts).2) := by rw [cell_of_row _ _ _ _ _ _ hs3.least]; rfl
    have HBL := hid hs3.below
    have HO3 := hid ho3
    clear hb3 hs3 hc3 ho3 HREC k0 kb
    go_wp2_with fail
    have l1 := lcell k1
    have l2 := lcell k2
    refine wp_region_calm (by kernel_rfl) (by kernel_rfl) ?_
    repeat (go_big_quiet_step (fail))
    refine wpQuiet_nil ?_
    intro _ hw'
    obtain ⟨xq, hw''⟩ := hw'
    subst hw''
    have hxb := xq.below
    go_wp2
    go_ret3
    have hlt := HLT.out
    exact ⟨_, by rw [HE.out]; rfl, by rw [HE.out]; exact Own.wide (OI.eqv HO3.out (Eqv.of hxb (Nat.le_refl _))) (by omega) hxb.size, bthen (bthen HW.out HBL.out) hxb⟩
end Go.Proofs.Ytcknhjeefdbhbaa
set_option linter.unusedVariables false
set_option linter.unusedSimpArgs false
namespace Go.Proofs.Ytcknhjeefdbhbaa
open Go.RowKit

theorem l_r8Long (w : World) (A A' : Option Addr) (n c n' c' : Nat) (hn : n ≤ 9223372036854775807) (hn' : n' ≤ 9223372036854775807) :
    Calls Try.prog 28 #[.slice A n c, .slice A' n' c'] w fun e w' => e = .returned (.bool (decide (48 < n) || decide (48 < n'))) ∧ w = w' := by
  by_cases h1 : (48 : Int) < n
  · go_enter Try.func28, Try.ntmps28
    go_wp2
    go_ret
    exact ⟨ret_b (by simp; omega), rfl⟩
  · by_cases h2 : (48 : Int) < n'
    all_goals
      go_enter Try.func28, Try.ntmps28
      go_wp2
      go_ret
      exact ⟨ret_b (by rw [Bool.eq_iff_iff]; simp; omega), rfl⟩
end Go.Proofs.Ytcknhjeefdbhbaa
set_option linter.unusedVariables false
set_option linter.unusedSimpArgs false
namespace Go.Proofs.Ytcknhjeefdbhbaa
open Go.RowKit

theorem pressed {ts : List TaskV} (h : tasksB ts = true) : (lpI ts).1.length = ts.length ∧ tordB ts (lpI ts).1 = true ∧ m_PressureOf ts (lpI ts).1 = ((lpI ts).2, true) ∧ m_LeastPressure ts = ((lpI ts).1, (lpI ts).2, true) ∧
    ∀ ys, tordB ts ys = true → m_PressureOf ts ys = (prsI ts ys ys.length, true) ∧ (lpI ts).2 ≤ prsI ts ys ys.length ∧ prsI ts ys ys.length ≤ ts.length := by
  have hO := TOk.of h
  obtain ⟨h1, h2, h3, h4⟩ := lpI_spec hO
  obtain ⟨p1, p2, p3⟩ := ords_plc hO h1
  have ht : tordB ts (lpI ts).1 = true := by unfold tordB; rw [h, p2, p3]; rfl
  refine ⟨p1, ht, ?_, by unfold m_LeastPressure; rw [h]; rfl, fun ys hy => ⟨by unfold m_PressureOf; rw [hy]; rfl, ?_, ?_⟩⟩
  · unfold m_PressureOf; rw [ht, p1, ← h2]; rfl
  · have hq := hy
    unfold tordB at hq
    rw [h] at hq
    simp only [Bool.true_and, Bool.and_eq_true] at hq
    have hm := mem_ords hO hq.1 hq.2
    rw [(tordB_parts hy).2.2.1]
    exact h4 ys hm
  · rw [(tordB_parts hy).2.2.1]; exact (prsI_bnd ts ys ts.length).2
set_option maxRecDepth 100000 in
set_option maxHeartbeats 1000000 in
theorem law_Pressed (w : World) (A0 : Option Addr) (c0 : Nat) (xs0 : List Int) (A1 : Option Addr) (c1 : Nat) (xs1 : List Int) (hl0 : xs0.length ≤ 9223372036854775807) (hR0 : RdU w A0 xs0) (hl1 : xs1.length ≤ 9223372036854775807) (hR1 : RdU w A1 xs1) :
    Calls Try.prog 8 #[.slice A0 xs0.length c0, .slice A1 xs1.length c1] w fun e w' => e = .returned (.bool true) ∧ Below w.heap.size w w' := by
  have CL := hid (l_r8Long w A0 A1 xs0.length c0 xs1.length c1 hl0 hl1)
  cases hlong : (decide (48 < xs0.length) || decide (48 < xs1.length)) with
  | true =>
    rw [hlong] at CL
    clear hlong hR0 hR1
    go_enter Try.func8, Try.ntmps8
    go_wp2_with fail
    refine CL.out.mono ?_
    rintro e w1 ⟨rfl, rfl⟩
    go_wp2_with fail
    go_ret
    exact ⟨rfl, Below.refl _ _⟩
  | false =>
    rw [hlong] at CL
    have hs0 : xs0.length ≤ 48 := by simp at hlong; omega
    have hs1 : xs1.length ≤ 48 := by simp at hlong; omega
    have HU0 := hid hR0
    have HU1 := hid hR1
    clear hlong hR0 hR1 hl0 hl1
    go_enter Try.func8, Try.ntmps8
    go_wp2_with fail
    refine CL.out.mono ?_
    rintro e w0 ⟨rfl, rfl⟩
    clear CL
    have CC := hid (s_R8Tasks w A0 c0 xs0 (by omega) HU0.out)
    go_wp2_with fail
    refine CC.out.mono ?_
    rintro e w1 ⟨v5, ts, rfl, ⟨htb, hts⟩, ho5, hb1⟩
    obtain ⟨At, ct, rfl, _, _, hr5⟩ := OT.shp ho5
    have HT1 := hid hr5
    have HB1 := hid hb1
    obtain ⟨q1, q2, q3, q4, q5⟩ := pressed htb
    have htl := tsz_len hts
    have C2 := i_LeastPressure w1 At ct ts hts hr5
    rw [q4] at C2
    have CQ := hid (fun W A c (ys : List Int) (hb : Below w1.heap.size w1 W) (hl : ys.length ≤ 1048576) (hc : ys.length ≤ c) (hr : RdI W A ys) => i_PressureOf W At A ct c ts ys hts (hr5.below hb) hl hc hr)
    have CI := hid (fun W A c (ys : List Int) (hb : Below w1.heap.size w1 W) (hl : ys.length ≤ 1048576) (hr : RdI W A ys) => i_IsTaskOrder W At A ct c ts ys hts (hr5.below hb) hl hr)
    have CO := hid (fun W (hb : Below w1.heap.size w1 W) => s_R8TaskOrder W A1 c1 xs1 At ct ts htb hts (by omega) ((HU1.out.below HB1.out).below hb) (hr5.below hb))
    have C2' := hid C2
    have H3 := hid q3
    have H2 := hid q2
    have H5 := hid q5
    have HL := hid q1
    clear CC htb hts ho5 hb1 hr5 q1 q2 q3 q4 q5 C2 HT1
    generalize (lpI ts).1 = o at *
    generalize (lpI ts).2 = least at *
    unfold RetIZB at C2'
    go_wp2_with fail
    refine C2'.out.mono ?_
    rintro e w2 ⟨v6, rfl, ho6, hb2⟩
    obtain ⟨A6, c6, rfl, hc6, _, hr6⟩ := OI.shp ho6
    have HB2 := hid hb2
    have HR6 := hid hr6
    have hol : o.length ≤ 1048576 := by rw [HL.out]; exact htl
    have CP := CQ.out w2 A6 c6 o hb2 hol hc6 hr6
    rw [H3.out] at CP
    have CPH := hid CP
    clear C2' ho6 hb2 hr6 CP
    go_wp2_with fail
    refine CPH.out.mono ?_
    rintro e w3 ⟨rfl, hb3⟩
    have HB3 := hid (bthen HB2.out hb3)
    have HR7 := hid (HR6.out.below hb3)
    have CO3 := hid (CO.out w3 (bthen HB2.out hb3))
    clear CPH hb3 CO HB2 HR6
    go_wp2_with fail
    refine CO3.out.mono ?_
    rintro e w4 ⟨v11, ys, rfl, hy10, ho11, hb4⟩
    obtain ⟨A11, c11, rfl, hc11, _, hr11⟩ := OI.shp ho11
    have HB4 := hid (bthen HB3.out hb4)
    have HR8 := hid (HR7.out.below hb4)
    have HRY := hid hr11
    have CP := hid (CQ.out w4 A11 c11 ys (bthen HB3.out hb4) (by omega) hc11 hr11)
    clear CO3 ho11 hb4 hr11 HB3 HR7 CQ
    have H5Y := hid (H5.out ys)
    clear H5
    cases ht : tordB ts ys with
    | true =>
      obtain ⟨y1, y2, y3⟩ := H5Y.out ht
      have CP1 := CP.out
      rw [y1] at CP1
      have CPH := hid CP1
      clear CP CP1 H5Y y1
      generalize prsI ts ys ys.length = n at *
      have hge : least ≤ n := y2
      go_wp2_with fail
      refine CPH.out.mono ?_
      rintro e w5 ⟨rfl, hb5⟩
      have HB5 := hid (bthen HB4.out hb5)
      have C6 := CI.out w5 A6 c6 o (bthen HB4.out hb5) hol (HR8.out.below hb5)
      rw [H2.out] at C6
      have C6H := hid C6
      have HRY5 := hid (HRY.out.below hb5)
      clear CPH hb5 C6 HB4 HRY HR8
      go_wp2_with fail
      refine C6H.out.mono ?_
      rintro e w6 ⟨rfl, hb6⟩
      have C7 := CI.out w6 A11 c11 ys (bthen HB5.out hb6) (by omega) (HRY5.out.below hb6)
      rw [ht] at C7
      have C7H := hid C7
      have HB6 := hid (bthen HB5.out hb6)
      clear C6H hb6 C7 HB5 HRY5 CI
      go_wp2_with fail
      refine C7H.out.mono ?_
      rintro e w7 ⟨rfl, hb7⟩
      have HB7 := hid (bthen HB1.out (bthen HB6.out hb7))
      clear C7H hb7
      go_wp2_with fail
      go_ret
      exact ⟨rfl, HB7.out⟩
    | false =>
      have y1 : m_PressureOf ts ys = (0, false) := by unfold m_PressureOf; rw [ht]; rfl
      have CP1 := CP.out
      rw [y1] at CP1
      have CPH := hid CP1
      clear CP CP1 H5Y y1
      go_wp2_with fail
      refine CPH.out.mono ?_
      rintro e w5 ⟨rfl, hb5⟩
      have HB5 := hid (bthen HB4.out hb5)
      have C6 := CI.out w5 A6 c6 o (bthen HB4.out hb5) hol (HR8.out.below hb5)
      rw [H2.out] at C6
      have C6H := hid C6
      have HRY5 := hid (HRY.out.below hb5)
      clear CPH hb5 C6 HB4 HRY HR8
      go_wp2_with fail
      refine C6H.out.mono ?_
      rintro e w6 ⟨rfl, hb6⟩
      have C7 := CI.out w6 A11 c11 ys (bthen HB5.out hb6) (by omega) (HRY5.out.below hb6)
      rw [ht] at C7
      have C7H := hid C7
      have HB6 := hid (bthen HB5.out hb6)
      clear C6H hb6 C7 HB5 HRY5 CI
      go_wp2_with fail
      refine C7H.out.mono ?_
      rintro e w7 ⟨rfl, hb7⟩
      have HB7 := hid (bthen HB1.out (bthen HB6.out hb7))
      clear C7H hb7
      go_wp2_with fail
      go_ret
      exact ⟨rfl, HB7.out⟩
end Go.Proofs.Ytcknhjeefdbhbaa
set_option linter.unusedVariables false
set_option linter.unusedSimpArgs false
namespace Go.Proofs.Ytcknhjeefdbhbaa
open Go.ChangeShapes Go.WideShapes Go.ChangeAt Go.RowKit
theorem own : ownKnob Try.prog.godebug = none := by kernel_rfl
theorem laidOut : laidOutB Try.prog = true := by kernel_rfl
theorem cellsInt : Try.prog.cellsOf 2 = 1 := by kernel_rfl
set_option maxRecDepth 100000 in
theorem open_I {H : Type} {enc : TypeId × Value → H} {W : World} {base : Nat} {v : Value} {d : DataW H} {p : List MemPlace}
    (hv : Value.okWide Try.prog W .any base 25 v) (h : DataW.Trod enc Try.prog W 0 (fun _ => true) true 25 v d p) :
    ∃ (A : Option Addr) (c : Nat) (xs : List Int), v = .slice A xs.length c ∧ xs.length ≤ 9223372036854775807 ∧ RdI W A xs := by
  obtain ⟨a, len, cap, rfl⟩ := okWide_slice Try.underlying25 hv
  obtain ⟨fuel, hf⟩ := h
  rcases open_ints Try.underlying25 Try.underlying2 cellsInt hf with ⟨hcs, _⟩ | ⟨x, l, c, zs, hcs, _, hl, hm, hz, _, hcell, _⟩
  · simp [Value.cells] at hcs
    obtain ⟨rfl, rfl, rfl⟩ := hcs
    exact ⟨none, 0, [], rfl, by simp, fun k hk => absurd hk (Nat.not_lt_zero _)⟩
  · simp [Value.cells] at hcs
    obtain ⟨rfl, rfl, rfl⟩ := hcs
    simp only [if_true] at hz
    have hlen : (zs.take len).length = len := by rw [List.length_take]; omega
    refine ⟨some x, cap, zs.take len, by rw [hlen], by rw [hlen]; simp only [maxLen] at hm; omega, ?_⟩
    intro k hk
    rw [hlen] at hk
    have hc := hcell k (by omega)
    have he : el (zs.take len) k = zs.getD k 0 := by
      unfold el; rw [List.getD_eq_getElem?_getD, List.getD_eq_getElem?_getD, List.getElem?_take_of_lt hk]
    have hs : x.spot = none := by
      have hc0 := hcell 0 (by omega)
      cases hx : x.spot with
      | none => rfl
      | some s =>
        rw [show x.add 0 = x from rfl] at hc0
        simp only [World.cell?] at hc0
        split at hc0
        · rw [if_pos (by rw [hx]; rfl)] at hc0; cases hc0
        · cases hc0
    obtain ⟨b, off, s⟩ := x
    obtain rfl : s = none := hs
    refine ⟨b, off, rfl, ?_⟩
    show W.cell? _ = some (.int .i64 (el (List.take len zs) k))
    rw [he, ← hc]
    congr 1
    unfold Addr.add
    split
    · rename_i h; subst h; rfl
    · rfl
end Go.Proofs.Ytcknhjeefdbhbaa
set_option linter.unusedVariables false
set_option linter.unusedSimpArgs false
namespace Go.Proofs.Ytcknhjeefdbhbaa
open Go.ChangeShapes Go.WideShapes Go.ChangeAt Go.RowKit
theorem cellsU8 : Try.prog.cellsOf 5 = 1 := by kernel_rfl
set_option maxRecDepth 100000 in
theorem open_U {H : Type} {enc : TypeId × Value → H} {W : World} {base : Nat} {v : Value} {d : DataW H} {p : List MemPlace}
    (hv : Value.okWide Try.prog W .any base 43 v) (h : DataW.Trod enc Try.prog W 0 (fun _ => true) true 43 v d p) :
    ∃ (A : Option Addr) (c : Nat) (xs : List Int), v = .slice A xs.length c ∧ xs.length ≤ 9223372036854775807 ∧ RdU W A xs := by
  obtain ⟨a, len, cap, rfl⟩ := okWide_slice Try.underlying43 hv
  obtain ⟨fuel, hf⟩ := h
  rcases open_ints Try.underlying43 Try.underlying5 cellsU8 hf with ⟨hcs, _⟩ | ⟨x, l, c, zs, hcs, _, hl, hm, hz, _, hcell, hwf⟩
  · simp [Value.cells] at hcs
    obtain ⟨rfl, rfl, rfl⟩ := hcs
    exact ⟨none, 0, [], rfl, by simp, fun k hk => absurd hk (Nat.not_lt_zero _), fun k hk => absurd hk (Nat.not_lt_zero _)⟩
  · simp [Value.cells] at hcs
    obtain ⟨rfl, rfl, rfl⟩ := hcs
    simp only [if_true] at hz
    have hlen : (zs.take len).length = len := by rw [List.length_take]; omega
    have he : ∀ k, k < len → el (zs.take len) k = zs.getD k 0 := fun k hk => by
      unfold el; rw [List.getD_eq_getElem?_getD, List.getD_eq_getElem?_getD, List.getElem?_take_of_lt hk]
    refine ⟨some x, cap, zs.take len, by rw [hlen], by rw [hlen]; simp only [maxLen] at hm; omega, ?_, ?_⟩
    · intro k hk
      rw [hlen] at hk
      have hc := hcell k (by omega)
      have hs : x.spot = none := by
        have hc0 := hcell 0 (by omega)
        cases hx : x.spot with
        | none => rfl
        | some s =>
          rw [show x.add 0 = x from rfl] at hc0
          simp only [World.cell?] at hc0
          split at hc0
          · rw [if_pos (by rw [hx]; rfl)] at hc0; cases hc0
          · cases hc0
      obtain ⟨b, off, s⟩ := x
      obtain rfl : s = none := hs
      refine ⟨b, off, rfl, ?_⟩
      show W.cell? _ = some (.int .u8 (el (List.take len zs) k))
      rw [he k hk, ← hc]
      congr 1
      unfold Addr.add
      split
      · rename_i h; subst h; rfl
      · rfl
    · intro k hk
      rw [hlen] at hk
      rw [he k hk]
      have hm' : zs.getD k 0 ∈ zs := by
        rw [List.getD_eq_getElem?_getD, List.getElem?_eq_getElem (by omega)]; exact List.getElem_mem _
      have hw := hwf _ hm'
      simp only [Lit.wf, Bool.and_eq_true, decide_eq_true_eq] at hw
      exact hw
end Go.Proofs.Ytcknhjeefdbhbaa
/- For every input the law FnPressed holds: the call returns true; no condition. -/
set_option linter.unusedVariables false
set_option linter.unusedSimpArgs false
namespace Go.Proofs.Ytcknhjeefdbhbaa.fnPressed
open Go.ChangeShapes Go.WideShapes Go.ChangeAt Go.RowKit
open Go.ChangeMaps (open_string shut_string)
theorem own : ownKnob Try.prog.godebug = none := by kernel_rfl
theorem laidOut : laidOutB Try.prog = true := by kernel_rfl
set_option maxRecDepth 100000 in
theorem lifted (os : Os) (started : os.Started) (H : Type) (enc : TypeId × Value → H) :
    ReturnsInHanded {} Try.checked os 8 .any (Rows.fnPressedSpec.pre6 enc Try.prog Try.f8 Rows.fnPressedRow.domain false) (Rows.fnPressedSpec.post enc Try.prog Try.f8 false true false false) := by
  refine returnsInHanded_of_change (C := Try.checked) own started (by kernel_rfl) Try.func8
    (ChangeSpec.witness6 (enc := enc) (C := Try.checked) false ⟨#[], #[.slice none 0 0, .slice none 0 0], []⟩ 8 (by kernel_rfl) (by kernel_rfl) (by kernel_rfl) (by kernel_rfl)) ?_
  intro W base args ds gs before hval0 hW hcnd _
  have hval : ∀ (j : Nat) t v, Try.f8.params[j]? = some t → args[j]? = some v → Value.okWide Try.prog W .any base t v := hval0
  have hW' := hW
  obtain ⟨p, q, hA0, hV, rfl, hfz, hnd⟩ := hW
  have hA : DataW.TrodAll enc Try.prog W 0 (fun _ => true) true Try.f8.params.toList args.toList ds p := hA0
  rw [Try.params8] at hA hval
  obtain ⟨v0, vs0, d0, ds0, p0, q0, hargs, rfl, rfl, h0, r0⟩ := trodAll_cons hA
  obtain ⟨v1, vs1, d1, ds1, p1, q1, rfl, rfl, rfl, h1, r1⟩ := trodAll_cons r0
  obtain ⟨rfl, rfl, rfl⟩ := trodAll_nil r1
  obtain rfl : args = #[v0, v1] := by cases args; simp_all
  obtain ⟨rfl, rfl⟩ := trodVars_none hV
  have k0 := h0
  have lt0 : ∀ x ∈ p0, x.block < W.heap.size := by obtain ⟨m, hm⟩ := k0; exact DataW.trod_lt m _ _ _ hm
  obtain ⟨A0, c0, xs0, rfl, hl0, hR0⟩ := open_U (hval 0 43 v0 rfl rfl) h0
  have k1 := h1
  have lt1 : ∀ x ∈ p1, x.block < W.heap.size := by obtain ⟨m, hm⟩ := k1; exact DataW.trod_lt m _ _ _ hm
  obtain ⟨A1, c1, xs1, rfl, hl1, hR1⟩ := open_U (hval 1 43 v1 rfl rfl) h1
  clear hA0 hval0
  refine (law_Pressed W A0 c0 xs0 A1 c1 xs1 hl0 hR0 hl1 hR1).mono fun e W' ⟨he, bel⟩ => ?_
  subst he
  exact ⟨_, rfl, _, _, _, [], _, [], hW', trodAll_mk1 (shut_bool Try.underlying4 _), (trodAll_cons_mk (Below.trod laidOut (by kernel_rfl) (of_decide_eq_true (by kernel_rfl)) k0 bel lt0) (trodAll_cons_mk (Below.trod laidOut (by kernel_rfl) (of_decide_eq_true (by kernel_rfl)) k1 bel lt1) trodAll_mk0)), rfl, bel.frame _, fun h => by cases h⟩
theorem over : Rows.fnPressedRow.holds Try.pinned (OpenSpec.ofChange Rows.fnPressedSpec) :=
  OpenClaim.holds_of_wide 8 Try.f8 rfl rfl rfl rfl rfl rfl rfl ⟨rfl, rfl, rfl, rfl, rfl⟩ rfl rfl rfl rfl rfl (by kernel_rfl) Try.func8 (by kernel_rfl)
    (of_decide_eq_true (by kernel_rfl)) (by unfold Func.isWrapper; first | (rw [if_pos (by decide +kernel)]; kernel_rfl) | (rw [if_neg (by decide +kernel)]; exact ⟨rfl, rfl⟩))
    (fun os started H enc _ => lifted os started H enc)
theorem proved : Rows.FnPressedSaid := over
#print axioms proved
end Go.Proofs.Ytcknhjeefdbhbaa.fnPressed
