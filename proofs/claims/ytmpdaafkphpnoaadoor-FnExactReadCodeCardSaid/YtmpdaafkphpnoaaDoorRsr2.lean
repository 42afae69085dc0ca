import Derived.Test.YtmpdaafkphpnoaaDoorRsr
set_option linter.unusedVariables false
set_option linter.unusedSimpArgs false
namespace Go.Proofs.YtmpdaafkphpnoaaDoor
open Go.RowKit

/-! ### The result's block of a statement that is read -/
theorem results_row_tmp4 {P : Program} {fn : Func} {p u : Tmp} {ty : TypeId} (h : fn.results = #[.cell p ty, .tmp u]) (tmps : Array Value) (w : World) (g : Nat) (t : TypeId) (cs : Array Value) (fr : Nat × Nat) (d : TypeDesc)
    (hp : tmps.getD p undef = .pointer (some ⟨g, 0, none⟩)) (hg : w.heap[g]? = some (.cells cs t fr))
    (hu : P.underlying ty = some d) (hd : (match d with | .struct _ | .array _ _ => true | _ => false) = true) (hi : (P.info? ty).map (·.size) = some cs.size) :
    (results fn tmps).run P w = .ok (.tuple #[.agg cs, tmps.getD u undef]) w := by
  have hp' : tmps[p]?.getD undef = .pointer (some ⟨g, 0, none⟩) := by simpa using hp
  rw [results_cell_tmp h]
  simp [hp', asAddr, run_loadVar_row w g t ty cs fr d hg hu hd hi, Result.andThen]
def RB (W : World) (b : Nat) : Prop := W.heap[b]? = some (.cells #[.int .i64 0, .int .i64 0, .int .i64 0, .int .i64 0] 57)
theorem RB.made (w : World) : RB (w.alloc (.cells #[.int .i64 0, .int .i64 0, .int .i64 0, .int .i64 0] 57)) w.heap.size := heap_alloc_new _ _
theorem RB.below {W W' : World} {b : Nat} (h : RB W b) (hb : Below W.heap.size W W') : RB W' b := by
  unfold RB at *
  refine (hb.block _ ?_).trans h
  by_cases e : b < W.heap.size
  · exact e
  · rw [Array.getElem?_eq_none (by omega)] at h; cases h
theorem RB.at_ {W : World} {b : Nat} (h : RB W b) : W.cell? ⟨b, 0, none⟩ = some (.int .i64 0) ∧ W.cell? ⟨b, 1, none⟩ = some (.int .i64 0) ∧ W.cell? ⟨b, 2, none⟩ = some (.int .i64 0) ∧ W.cell? ⟨b, 3, none⟩ = some (.int .i64 0) ∧ ∀ j, W.frozen? ⟨b, j, none⟩ = false := by
  unfold RB at h
  refine ⟨?_, ?_, ?_, ?_, fun j => frozen_of_row _ _ _ _ _ h⟩ <;> (rw [cell_of_row _ _ _ _ _ _ h]; rfl)
theorem RB.fin {W : World} {b : Nat} (h : RB W b) (o d a s : Int) : ((((W.setCell ⟨b, 0, none⟩ (.int .i64 o)).setCell ⟨b, 1, none⟩ (.int .i64 d)).setCell ⟨b, 2, none⟩ (.int .i64 a)).setCell ⟨b, 3, none⟩ (.int .i64 s)).heap[b]? = some (.cells #[.int .i64 o, .int .i64 d, .int .i64 a, .int .i64 s] 57) := by
  unfold RB at h
  have h3 := heap_setCell_same _ _ 0 _ _ (.int .i64 o) h
  have h4 := heap_setCell_same _ _ 1 _ _ (.int .i64 d) h3
  have h5 := heap_setCell_same _ _ 2 _ _ (.int .i64 a) h4
  have h6 := heap_setCell_same _ _ 3 _ _ (.int .i64 s) h5
  exact h6
theorem RB.fin_below {w W : World} {b : Nat} (h : Below w.heap.size w W) (hb : w.heap.size ≤ b) (o d a s : Int) : Below w.heap.size w ((((W.setCell ⟨b, 0, none⟩ (.int .i64 o)).setCell ⟨b, 1, none⟩ (.int .i64 d)).setCell ⟨b, 2, none⟩ (.int .i64 a)).setCell ⟨b, 3, none⟩ (.int .i64 s)) :=
  bset (bset (bset (bset h hb _) hb _) hb _) hb _
/-- Three texts in a row. -/
structure C3 (W : World) (g : Nat) (t0 t1 t2 : ByteArray) : Prop where
  c0 : W.cell? ⟨g, 0, none⟩ = some (.string t0)
  c1 : W.cell? ⟨g, 1, none⟩ = some (.string t1)
  c2 : W.cell? ⟨g, 2, none⟩ = some (.string t2)
theorem C3.below {W W' : World} {g : Nat} {t0 t1 t2 : ByteArray} (h : C3 W g t0 t1 t2) (hb : Below W.heap.size W W') : C3 W' g t0 t1 t2 := ⟨bcell hb h.c0, bcell hb h.c1, bcell hb h.c2⟩
theorem own3 {w : World} {lo hi : Nat} {v : Value} {p0 p1 p2 : List UInt8} (h : Own w lo hi 9 1 v 3 (strs [p0, p1, p2])) : ∃ g c, v = .slice (some ⟨g, 0, none⟩) 3 c ∧ C3 w g (bstr p0) (bstr p1) (bstr p2) ∧ 3 ≤ c := by
  obtain ⟨A, c, rfl, h1, h2, h3⟩ := Own.shape h
  rcases h3 with ⟨_, h0⟩ | ⟨g, rfl, _, _, hc, _⟩
  · omega
  · exact ⟨g, c, rfl, ⟨by simpa using hc 0 (.string (bstr p0)) rfl, by simpa using hc 1 (.string (bstr p1)) rfl, by simpa using hc 2 (.string (bstr p2)) rfl⟩, h1⟩
set_option maxRecDepth 100000 in
theorem i_readStmt0 (w : World) (s tl tr : ByteArray) (cb : Bool) (n : Nat) (hn : ¬ n = 3) (hn2 : n ≤ 9223372036854775807)
    (C0 : Hid (∀ W, Below w.heap.size w W → Calls Tryd.prog 63 #[.string s, .string { data := #[61] }] W fun e w' => e = .returned (.tuple #[.string tl, .string tr, .bool cb]) ∧ Below W.heap.size W w'))
    (C1 : Hid (∀ W, Below w.heap.size w W → Calls Tryd.prog 36 #[.string tr, .string { data := #[32] }] W fun e w' => ∃ A c, e = .returned (.slice A n c) ∧ Below W.heap.size W w')) :
    Calls Tryd.prog 37 #[.string s] w fun e w' => e = .returned (.tuple #[sv ⟨0, 0, 0, 0⟩, .bool false]) ∧ Below w.heap.size w w' := by
  have HR0 := hid (RB.made w)
  have HB0 := hid (ballocw w (.cells #[.int .i64 0, .int .i64 0, .int .i64 0, .int .i64 0] 57))
  have hne : ((n : Int) != 3) = true := by simp; omega
  clear hn
  go_enter Tryd.func37, Tryd.ntmps37
  go_wp2_with (first
    | (go_at_call 63; go_loud (refine (C0.out _ HB0.out).mono ?_; rintro e w1 ⟨rfl, hb1⟩; have HR1 := hid (HR0.out.below hb1); have HB1 := hid (bthen HB0.out hb1); clear hb1))
    | (go_at_call 36; go_loud (refine (C1.out _ HB1.out).mono ?_; rintro e w2 ⟨A2, c2, rfl, hb2⟩; have HR2 := hid (HR1.out.below hb2); have HB2 := hid (bthen HB1.out hb2); clear hb2; obtain ⟨q0, q1, q2, q3, qf⟩ := HR2.out.at_; have f0 := qf 0; have f1 := qf 1; have f2 := qf 2; have f3 := qf 3; clear qf)))
  refine bodyPost_ret (results_row_tmp4 rfl _ _ w.heap.size 57 #[.int .i64 0, .int .i64 0, .int .i64 0, .int .i64 0] (0, 0) _ rfl (HR2.out.fin 0 0 0 0) Tryd.underlying57 rfl (by kernel_rfl)) rfl ?_
  exact ⟨rfl, RB.fin_below HB2.out (Nat.le_refl _) 0 0 0 0⟩
set_option maxRecDepth 100000 in
theorem i_readStmt3 (w : World) (s tl tr t0 t1 t2 : ByteArray) (cb b1 b2 b3 b4 : Bool) (o d a b : Int)
    (C0 : Hid (∀ W, Below w.heap.size w W → Calls Tryd.prog 63 #[.string s, .string { data := #[61] }] W fun e w' => e = .returned (.tuple #[.string tl, .string tr, .bool cb]) ∧ Below W.heap.size W w'))
    (C1 : Hid (∀ W, Below w.heap.size w W → Calls Tryd.prog 36 #[.string tr, .string { data := #[32] }] W fun e w' => ∃ g c, e = .returned (.slice (some ⟨g, 0, none⟩) 3 c) ∧ C3 w' g t0 t1 t2 ∧ Below W.heap.size W w'))
    (D0 : Hid (∀ W, Below w.heap.size w W → Calls Tryd.prog 64 #[.string tl] W fun e w' => e = .returned (.tuple #[.int .i64 d, .bool b1]) ∧ Below W.heap.size W w'))
    (D1 : Hid (∀ W, Below w.heap.size w W → Calls Tryd.prog 64 #[.string t0] W fun e w' => e = .returned (.tuple #[.int .i64 a, .bool b2]) ∧ Below W.heap.size W w'))
    (D2 : Hid (∀ W, Below w.heap.size w W → Calls Tryd.prog 65 #[.string t1] W fun e w' => e = .returned (.tuple #[.int .i64 o, .bool b3]) ∧ Below W.heap.size W w'))
    (D3 : Hid (∀ W, Below w.heap.size w W → Calls Tryd.prog 64 #[.string t2] W fun e w' => e = .returned (.tuple #[.int .i64 b, .bool b4]) ∧ Below W.heap.size W w')) :
    Calls Tryd.prog 37 #[.string s] w fun e w' => e = .returned (.tuple #[sv ⟨o, d, a, b⟩, .bool (b1 && (b2 && (b3 && b4)))]) ∧ Below w.heap.size w w' := by
  have HR0 := hid (RB.made w)
  have HB0 := hid (ballocw w (.cells #[.int .i64 0, .int .i64 0, .int .i64 0, .int .i64 0] 57))
  cases b1
  rotate_left
  cases b2
  rotate_left
  cases b3
  rotate_left
  cases b4
  all_goals
    go_enter Tryd.func37, Tryd.ntmps37
    go_wp2_with (first
      | (go_at_call 63; go_loud (refine (C0.out _ HB0.out).mono ?_; rintro e w1 ⟨rfl, hb1⟩; have HR1 := hid (HR0.out.below hb1); have HB1 := hid (bthen HB0.out hb1); clear hb1))
      | (go_at_call 36; go_loud (refine (C1.out _ HB1.out).mono ?_; rintro e w2 ⟨g2, c2, rfl, hg2, hb2⟩; have HR2 := hid (HR1.out.below hb2); have HB2 := hid (bthen HB1.out hb2); have HG2 := hid hg2; clear hb2 hg2))
      | (go_at_call 64; go_loud (with_reducible refine (D0.out _ HB2.out).mono ?_; rintro e w3 ⟨rfl, hb3⟩; have HR3 := hid (HR2.out.below hb3); have HB3 := hid (bthen HB2.out hb3); have HG3 := hid (HG2.out.below hb3); have k0 := HG3.out.c0; clear hb3))
      | (go_at_call 64; with_reducible refine (D1.out _ HB3.out).mono ?_; rintro e w4 ⟨rfl, hb4⟩; have HR4 := hid (HR3.out.below hb4); have HB4 := hid (bthen HB3.out hb4); have HG4 := hid (HG3.out.below hb4); have k1 := HG4.out.c1; clear hb4 k0)
      | (go_at_call 65; with_reducible refine (D2.out _ HB4.out).mono ?_; rintro e w5 ⟨rfl, hb5⟩; have HR5 := hid (HR4.out.below hb5); have HB5 := hid (bthen HB4.out hb5); have HG5 := hid (HG4.out.below hb5); have k2 := HG5.out.c2; clear hb5 k1)
      | (go_at_call 64; with_reducible refine (D3.out _ HB5.out).mono ?_; rintro e w6 ⟨rfl, hb6⟩; have HR6 := hid (HR5.out.below hb6); have HB6 := hid (bthen HB5.out hb6); obtain ⟨q0, q1, q2, q3, qf⟩ := HR6.out.at_; have f0 := qf 0; have f1 := qf 1; have f2 := qf 2; have f3 := qf 3; clear hb6 k2 qf))
    refine bodyPost_ret (results_row_tmp4 rfl _ _ w.heap.size 57 #[.int .i64 o, .int .i64 d, .int .i64 a, .int .i64 b] (0, 0) _ rfl (HR6.out.fin o d a b) Tryd.underlying57 rfl (by kernel_rfl)) rfl ?_
    exact ⟨rfl, RB.fin_below HB6.out (Nat.le_refl _) o d a b⟩
theorem valR_num (l : List UInt8) : valR l = .tuple #[.int .i64 (vNum l), .bool (valB l)] := by
  unfold valR vNum
  cases valB l <;> rfl
theorem opR_num (s : ByteArray) : opR s = .tuple #[.int .i64 (oNum s.data.toList), .bool (oB s.data.toList)] := by
  unfold opR oNum oB
  rw [bstr_data]
theorem stmRs_no {l : List UInt8} {ps : List (List UInt8)} (h : ¬ ps.length = 3) : stmRs l ps = (⟨0, 0, 0, 0⟩, false) := by unfold stmRs; rw [if_neg h]
/-- The world is fit for reading texts. -/
structure Fit3 (w : World) : Prop where
  p : Pow w
  a : Asc w
  e : Errs w
  s : w.ShapedOpen Tryd.prog
theorem Fit3.below {w W : World} (h : Fit3 w) (hb : Below w.heap.size w W) : Fit3 W := ⟨h.p.below hb, h.a.below hb, h.e.below hb, shaped_below h.s hb⟩
theorem i_readStmt (w : World) (s : ByteArray) (hs : s.size ≤ 1048576) (hf : Fit3 w) :
    Calls Tryd.prog 37 #[.string s] w fun e w' => e = .returned (.tuple #[sv (stmR s.data.toList).1, .bool (stmR s.data.toList).2]) ∧ Below w.heap.size w w' := by
  have hsz : s.data.toList.length = s.size := by rw [Array.length_toList]; rfl
  have hl1 := cut_len1 s.data.toList 61
  have hl2 := cut_len2 s.data.toList 61
  rw [hsz] at hl1 hl2
  have C0 := hid (fun W (hW : Below w.heap.size w W) => g_Cut W s 61 (shaped_below hf.s hW) hs)
  unfold stmR
  generalize Lib.cut s.data.toList [61] = q at *
  obtain ⟨l, r, c⟩ := q
  simp only at hl1 hl2 C0 ⊢
  have CS := fun W (hW : Below w.heap.size w W) => g_Split W (bstr r) 32 (shaped_below hf.s hW) (by rw [bstr_size]; omega)
  rw [bstr_toList] at CS
  have hml : ∀ p, p ∈ cutL 32 r → p.length ≤ 1048576 := fun p hp => Nat.le_trans (cutL_mem_len hp) (by omega)
  have hcl : (cutL 32 r).length ≤ 9223372036854775807 := by
    have := cutL_len 32 (bstr r)
    rw [bstr_toList, bstr_size] at this
    omega
  generalize cutL 32 r = ps at *
  by_cases h3 : ps.length = 3
  · match ps, h3, CS, hml with
    | [p0, p1, p2], _, CS, hml =>
      have C1 : Hid (∀ W, Below w.heap.size w W → Calls Tryd.prog 36 #[.string (bstr r), .string { data := #[32] }] W fun e w' => ∃ g c, e = .returned (.slice (some ⟨g, 0, none⟩) 3 c) ∧ C3 w' g (bstr p0) (bstr p1) (bstr p2) ∧ Below W.heap.size W w') := hid (fun W hW => (CS W hW).mono (fun e w' hq => by
        obtain ⟨v, rfl, ho, hb⟩ := hq
        obtain ⟨g, c, rfl, h1, _⟩ := own3 ho
        exact ⟨g, c, rfl, h1, hb⟩))
      have RD := fun (x : List UInt8) (hx : x.length ≤ 1048576) => hid (fun W (hW : Below w.heap.size w W) => by
        have := i_ReadDecimal W (bstr x) (by rw [bstr_size]; omega) (hf.p.below hW) (hf.e.below hW)
        rw [bstr_toList, valR_num] at this
        exact this)
      have RO := hid (fun W (hW : Below w.heap.size w W) => by
        have := i_ReadOp W (bstr p1) (hf.a.below hW)
        rw [opR_num, bstr_toList] at this
        exact this)
      exact i_readStmt3 w s (bstr l) (bstr r) (bstr p0) (bstr p1) (bstr p2) c (valB l) (valB p0) (oB p1) (valB p2) (oNum p1) (vNum l) (vNum p0) (vNum p2) C0 C1 (RD l (by omega)) (RD p0 (hml p0 (by simp))) RO (RD p2 (hml p2 (by simp)))
  · rw [stmRs_no h3]
    refine i_readStmt0 w s (bstr l) (bstr r) c ps.length h3 hcl C0 (hid (fun W hW => (CS W hW).mono fun e w' hq => ?_))
    obtain ⟨v, rfl, ho, hb⟩ := hq
    obtain ⟨A, c, rfl, _⟩ := Own.shape ho
    exact ⟨A, c, rfl, hb⟩
end Go.Proofs.YtmpdaafkphpnoaaDoor
