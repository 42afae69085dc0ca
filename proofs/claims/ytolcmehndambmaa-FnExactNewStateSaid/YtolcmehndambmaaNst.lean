import Derived.Test.YtolcmehndambmaaState2
import Derived.Test.YtolcmehndambmaaMemo
import Derived.Test.YtolcmehndambmaaRtn7
import Derived.Laws.ResultCell
set_option linter.unusedVariables false
set_option linter.unusedSimpArgs false
namespace Go.Proofs.Ytolcmehndambmaa
open Go.RowKit

/-! ### New states -/
theorem results_row_tmp {P : Program} {fn : Func} {p u : Tmp} {ty : TypeId} (h : fn.results = #[.cell p ty, .tmp u]) (tmps : Array Value) (w : World) (g : Nat) (t : TypeId) (cs : Array Value) (fr : Nat × Nat) (d : TypeDesc)
    (hp : tmps.getD p undef = .pointer (some ⟨g, 0, none⟩)) (hg : w.heap[g]? = some (.cells cs t fr))
    (hu : P.underlying ty = some d) (hd : (match d with | .struct _ | .array _ _ => true | _ => false) = true) (hi : (P.info? ty).map (·.size) = some cs.size) :
    (results fn tmps).run P w = .ok (.tuple #[.agg cs, tmps.getD u undef]) w := by
  have hp' : tmps[p]?.getD undef = .pointer (some ⟨g, 0, none⟩) := by simpa using hp
  rw [results_cell_tmp h]
  simp [hp', asAddr, run_loadVar_row w g t ty cs fr d hg hu hd hi, Result.andThen]
def zrs (m l : Nat) : List (List Int) := List.replicate m (List.replicate l 0)
theorem zrs_succ (m l : Nat) : zrs (m + 1) l = zrs m l ++ [List.replicate l 0] := List.replicate_succ'
theorem zrs_length (m l : Nat) : (zrs m l).length = m := by simp [zrs]
theorem zrs_row {m l k : Nat} (h : k < m) : rw_ (zrs m l) k = List.replicate l 0 := by
  unfold rw_ zrs; rw [List.getD_eq_getElem?_getD]; simp [h]
def nst (la : Int) (xs : List Int) : StV := ⟨zrs 8 la.toNat, zrs 4 la.toNat, xs⟩
def m_NewState (la bi : Int) (xs : List Int) : StV × Bool := if machB la bi && memB bi xs then (nst la xs, true) else (⟨[], [], []⟩, false)
theorem machB_la {la bi : Int} (h : machB la bi = true) : ∃ l : Nat, la = l ∧ 2 ≤ l ∧ l ≤ 16 := by
  simp only [machB, Bool.and_eq_true] at h
  have := lanesB_or h.1
  exact ⟨la.toNat, by omega, by omega, by omega⟩
theorem m_NewState_len (la bi : Int) (xs : List Int) : ssz (m_NewState la bi xs).1 ≤ 1048576 := by
  unfold m_NewState; split
  · rename_i h
    simp only [Bool.and_eq_true, memB, decide_eq_true_eq] at h
    obtain ⟨l, rfl, h2, h16⟩ := machB_la h.1
    have e1 := rsz_le (xss := zrs 8 l) (n := 8) (m := 16) (by rw [zrs_length]; omega) (fun k hk => by rw [zrs_length] at hk; rw [zrs_row hk]; simpa using h16)
    have e2 := rsz_le (xss := zrs 4 l) (n := 4) (m := 16) (by rw [zrs_length]; omega) (fun k hk => by rw [zrs_length] at hk; rw [zrs_row hk]; simpa using h16)
    unfold ssz nst
    simp only [Int.toNat_natCast]
    omega
  · simp [ssz, rsz, rtot]
def RetSB (w : World) (r : StV × Bool) (en : Ending) (w' : World) : Prop := ∃ v, en = .returned (.tuple #[v, .bool r.2]) ∧ OS w' w.heap.size w'.heap.size v r.1 ∧ Below w.heap.size w w'
theorem OS.nil (w : World) (lo hi : Nat) (h : lo ≤ hi) : OS w lo hi (.agg #[.slice none 0 0, .slice none 0 0, .slice none 0 0]) ⟨[], [], []⟩ :=
  ⟨_, _, _, lo, lo, lo, lo, lo, lo, rfl, OR.nil _ _ _, OR.nil _ _ _, Own.nil _ _ _ _ _, by omega, by omega, by omega, by omega⟩
set_option maxRecDepth 100000 in
theorem i_zeros (w : World) (m l : Nat) (hm : m ≤ 8) (hl : l ≤ 16) : Calls Try.prog 108 #[.int .i64 m, .int .i64 l] w (RetRO w (zrs m l)) := by
  have hmk := makeInt l (by omega)
  go_enter Try.func108, Try.ntmps108
  go_wp2
  go_loopg [5, 7] m (fun gg v s wr => ∃ k : Nat, k ≤ m ∧ m - k ≤ gg ∧ s = .int .i64 k ∧ Aside (Below w.heap.size w wr) ∧ Aside (OR wr w.heap.size wr.heap.size v (zrs k l)))
  case atStart => exact ⟨0, Nat.zero_le _, by omega, rfl, Below.refl _ _, OR.nil _ _ _⟩
  case round =>
    obtain ⟨k, hk, hg, rfl, BW, OW⟩ := hrel
    obtain ⟨wk, rfl⟩ : ∃ wk : World, wk = wr := ⟨_, rfl⟩
    by_cases hlt : k < m
    · have hlt' : (k : Int) < (m : Int) := by omega
      have hb := ballocw wk (.cells (madeCells #[.int .i64 0] l) 2)
      have HM := hid (ON.made wk l (by omega)).2
      have HO := hid (OW.out.eqv (Eqv.of hb (Nat.le_refl _)))
      have HB := hid (bthen BW.out hb)
      have hz := BW.out.size
      have hz2 := hb.size
      have hse : (wk.alloc (.cells (madeCells #[.int .i64 0] l) 2)).heap.size = wk.heap.size + 1 := by simp
      have HS := hid (zrs_succ k l)
      have HLN : Hid ((zrs k l).length + 1 ≤ 1048576) := hid (by rw [zrs_length]; omega)
      clear hb BW OW
      go_wp2_with (at_builtin; refine wp_appendRn w.heap.size wk.heap.size rfl _ _ rfl u5 (zrs k l) (some ⟨wk.heap.size, 0, none⟩) l l (List.replicate l 0) (by simp) rfl (by simp [Act.eval, Act.put]) HO.out (Own.wide HM.out (Nat.le_refl _) (Nat.le_of_eq hse.symm)) hz hz2 HLN.out ?_; intro v1 w3 hr3 hb3)
      go_roundg (m - (k + 1))
      case measure => omega
      case rel => exact ⟨k + 1, by omega, by omega, by go_num, HB.out.trans hb3, by unfold Aside; rw [HS.out]; exact hr3⟩
    · have : m = k := by omega
      subst this
      go_wp2
      go_ret
      exact ⟨_, rfl, OW.out, BW.out⟩
/-- The boxes of NewState: the machine, and the result. -/
structure NSb (W : World) (B : Nat) (la bi : Int) : Prop where
  m0 : W.cell? ⟨B, 0, none⟩ = some (.int .i64 la)
  m1 : W.cell? ⟨B, 1, none⟩ = some (.int .i64 bi)
  r : W.heap[B + 1]? = some (.cells #[.slice none 0 0, .slice none 0 0, .slice none 0 0] 62)
theorem NSb.below {W W' : World} {B : Nat} {la bi : Int} (h : NSb W B la bi) (hb : Below W.heap.size W W') : NSb W' B la bi := by
  refine ⟨bcell hb h.m0, bcell hb h.m1, (hb.block _ ?_).trans h.r⟩
  have := h.r
  by_cases e : B + 1 < W.heap.size
  · exact e
  · rw [Array.getElem?_eq_none (by omega)] at this; cases this
theorem NSb.made (w : World) (la bi : Int) : NSb ((w.alloc (.cells #[.int .i64 la, .int .i64 bi] 65)).alloc (.cells #[.slice none 0 0, .slice none 0 0, .slice none 0 0] 62)) w.heap.size la bi :=
  ⟨by simp, by simp, heap_alloc2_new _ _ _⟩
theorem NSb.at_ {W : World} {B : Nat} {la bi : Int} (h : NSb W B la bi) : W.cell? ⟨B + 1, 0, none⟩ = some (.slice none 0 0) ∧ W.cell? ⟨B + 1, 1, none⟩ = some (.slice none 0 0) ∧ W.cell? ⟨B + 1, 2, none⟩ = some (.slice none 0 0) ∧ ∀ j, W.frozen? ⟨B + 1, j, none⟩ = false := by
  refine ⟨?_, ?_, ?_, fun j => frozen_of_row _ _ _ _ _ h.r⟩
  · rw [cell_of_row _ _ _ _ _ _ h.r]; rfl
  · rw [cell_of_row _ _ _ _ _ _ h.r]; rfl
  · rw [cell_of_row _ _ _ _ _ _ h.r]; rfl
set_option maxRecDepth 100000 in
theorem i_NewState0 (w : World) (la bi : Int) (A : Option Addr) (n c : Nat) (hn : n ≤ 1048576)
    (C0 : Hid (∀ W, Calls Try.prog 106 #[mv la bi] W fun e w' => e = .returned (.bool false) ∧ Below W.heap.size W w')) :
    Calls Try.prog 46 #[mv la bi, .slice A n c] w (RetSB w (⟨[], [], []⟩, false)) := by
  have HN := hid (NSb.made w la bi)
  have HB := hid (balloc (ballocw w (.cells #[.int .i64 la, .int .i64 bi] 65)) (.cells #[.slice none 0 0, .slice none 0 0, .slice none 0 0] 62))
  go_enter Try.func46, Try.ntmps46
  go_wp2_with fail
  refine (C0.out _).mono ?_
  rintro e w1 ⟨rfl, hb1⟩
  have N1 := HN.out.below hb1
  have HB1 := hid (bthen HB.out hb1)
  obtain ⟨q0, q1, q2, q3⟩ := N1.at_
  have f0 := q3 0
  have f1 := q3 1
  have f2 := q3 2
  have h3 := heap_setCell_same _ _ 0 _ _ (.slice none 0 0) N1.r
  have h4 := heap_setCell_same _ _ 1 _ _ (.slice none 0 0) h3
  have h5 := heap_setCell_same _ _ 2 _ _ (.slice none 0 0) h4
  have H5 := hid h5
  clear HN HB hb1 C0 N1 h3 h4 h5 q3
  go_wp2_with fail
  refine bodyPost_ret (results_row_tmp rfl _ _ (w.heap.size + 1) 62 #[.slice none 0 0, .slice none 0 0, .slice none 0 0] (0, 0) _ rfl H5.out Try.underlying62 rfl (by kernel_rfl)) rfl ?_
  exact ⟨_, rfl, OS.nil _ _ _ (by have := HB1.out.size; simpa [World.setCell] using this), bset (bset (bset HB1.out (by show _ ≤ w.heap.size + 1; omega) _) (by show _ ≤ w.heap.size + 1; omega) _) (by show _ ≤ w.heap.size + 1; omega) _⟩
set_option maxRecDepth 100000 in
theorem i_NewState1 (w : World) (la bi : Int) (A : Option Addr) (n c : Nat) (hn : n ≤ 1048576)
    (C0 : Hid (∀ W, Calls Try.prog 106 #[mv la bi] W fun e w' => e = .returned (.bool true) ∧ Below W.heap.size W w'))
    (C1 : Hid (∀ W, Below w.heap.size w W → Calls Try.prog 107 #[mv la bi, .slice A n c] W fun e w' => e = .returned (.bool false) ∧ Below W.heap.size W w')) :
    Calls Try.prog 46 #[mv la bi, .slice A n c] w (RetSB w (⟨[], [], []⟩, false)) := by
  have HN := hid (NSb.made w la bi)
  have HB := hid (balloc (ballocw w (.cells #[.int .i64 la, .int .i64 bi] 65)) (.cells #[.slice none 0 0, .slice none 0 0, .slice none 0 0] 62))
  go_enter Try.func46, Try.ntmps46
  go_wp2_with fail
  refine (C0.out _).mono ?_
  rintro e w1 ⟨rfl, hb1⟩
  have HN1 := hid (HN.out.below hb1)
  have HBa := hid (bthen HB.out hb1)
  have m0 := HN1.out.m0
  have m1 := HN1.out.m1
  clear hb1 C0 HN HB
  go_wp2_with fail
  refine (C1.out _ HBa.out).mono ?_
  rintro e w2 ⟨rfl, hb2⟩
  have N1 := HN1.out.below hb2
  have HB1 := hid (bthen HBa.out hb2)
  clear m0 m1
  obtain ⟨q0, q1, q2, q3⟩ := N1.at_
  have f0 := q3 0
  have f1 := q3 1
  have f2 := q3 2
  have h3 := heap_setCell_same _ _ 0 _ _ (.slice none 0 0) N1.r
  have h4 := heap_setCell_same _ _ 1 _ _ (.slice none 0 0) h3
  have h5 := heap_setCell_same _ _ 2 _ _ (.slice none 0 0) h4
  have H5 := hid h5
  clear HBa HN1 hb2 C1 N1 h3 h4 h5 q3
  go_wp2_with fail
  refine bodyPost_ret (results_row_tmp rfl _ _ (w.heap.size + 1) 62 #[.slice none 0 0, .slice none 0 0, .slice none 0 0] (0, 0) _ rfl H5.out Try.underlying62 rfl (by kernel_rfl)) rfl ?_
  exact ⟨_, rfl, OS.nil _ _ _ (by have := HB1.out.size; simpa [World.setCell] using this), bset (bset (bset HB1.out (by show _ ≤ w.heap.size + 1; omega) _) (by show _ ≤ w.heap.size + 1; omega) _) (by show _ ≤ w.heap.size + 1; omega) _⟩
set_option maxRecDepth 100000 in
set_option maxHeartbeats 1000000 in
theorem i_NewState2 (w : World) (l : Nat) (bi : Int) (A : Option Addr) (n c : Nat) (xs : List Int) (hn : n ≤ 1048576) (hl : l ≤ 16) (hxl : xs.length = n) (hR : RdI w A xs)
    (C0 : Hid (∀ W, Calls Try.prog 106 #[mv l bi] W fun e w' => e = .returned (.bool true) ∧ Below W.heap.size W w'))
    (C1 : Hid (∀ W, Below w.heap.size w W → Calls Try.prog 107 #[mv l bi, .slice A n c] W fun e w' => e = .returned (.bool true) ∧ Below W.heap.size W w')) :
    Calls Try.prog 46 #[mv l bi, .slice A n c] w (RetSB w (⟨zrs 8 l, zrs 4 l, xs⟩, true)) := by
  have HN := hid (NSb.made w l bi)
  have HB := hid (balloc (ballocw w (.cells #[.int .i64 l, .int .i64 bi] 65)) (.cells #[.slice none 0 0, .slice none 0 0, .slice none 0 0] 62))
  have hsb : w.heap.size + 2 = ((w.alloc (.cells #[.int .i64 l, .int .i64 bi] 65)).alloc (.cells #[.slice none 0 0, .slice none 0 0, .slice none 0 0] 62)).heap.size := by simp
  have CZ : Hid (∀ (m : Nat) W, m ≤ 8 → Calls Try.prog 108 #[.int .i64 m, .int .i64 l] W fun e w' => ∃ A' c', e = .returned (.slice A' m c') ∧ OR w' W.heap.size w'.heap.size (.slice A' m c') (zrs m l) ∧ Below W.heap.size W w') := hid fun m W hm => (i_zeros W m l hm hl).mono fun e w' hq => by
    obtain ⟨v, rfl, ho, hb⟩ := hq
    obtain ⟨A', c', e8, _, _, _⟩ := OR.shp ho
    rw [zrs_length] at e8
    exact ⟨A', c', by rw [e8], by rw [← e8]; exact ho, hb⟩
  have C8 : Hid (∀ W, Calls Try.prog 108 #[.int .i64 8, .int .i64 l] W fun e w' => ∃ A' c', e = .returned (.slice A' 8 c') ∧ OR w' W.heap.size w'.heap.size (.slice A' 8 c') (zrs 8 l) ∧ Below W.heap.size W w') := hid (fun W => CZ.out 8 W (by omega))
  have C4 : Hid (∀ W, Calls Try.prog 108 #[.int .i64 4, .int .i64 l] W fun e w' => ∃ A' c', e = .returned (.slice A' 4 c') ∧ OR w' W.heap.size w'.heap.size (.slice A' 4 c') (zrs 4 l) ∧ Below W.heap.size W w') := hid (fun W => CZ.out 4 W (by omega))
  have CC : Hid (∀ W, Below w.heap.size w W → Calls Try.prog 75 #[.slice A n c] W fun e w' => ∃ A' c', e = .returned (.slice A' n c') ∧ OI w' W.heap.size w'.heap.size (.slice A' n c') xs ∧ Below W.heap.size W w') := hid fun W hW => by
    subst hxl
    refine (g_Clone W A c xs (by omega) (hR.below hW)).mono fun e w' hq => ?_
    obtain ⟨v, rfl, ho, hb⟩ := hq
    obtain ⟨A', c', rfl, _, _, _⟩ := Own.int ho
    exact ⟨A', c', rfl, ho, hb⟩
  clear CZ hR hxl
  go_enter Try.func46, Try.ntmps46
  go_wp2_with fail
  refine (C0.out _).mono ?_
  rintro e w1 ⟨rfl, hb1⟩
  have HN1 := hid (HN.out.below hb1)
  have HBa := hid (bthen HB.out hb1)
  have m0 := HN1.out.m0
  have m1 := HN1.out.m1
  have hz1 := hb1.size
  rw [← hsb] at hz1
  clear hb1 C0 HN HB hsb
  go_wp2_with fail
  refine (C1.out _ HBa.out).mono ?_
  rintro e w2 ⟨rfl, hb2⟩
  have HN2 := hid (HN1.out.below hb2)
  have HB2 := hid (bthen HBa.out (bthen hb2 (bdrewL w2)))
  have hz2 := hb2.size
  have hND := hid (HN2.out.below (bdrewL w2))
  have hzd : w2.drew.heap.size = w2.heap.size := rfl
  clear HBa HN1 HN2 hb2 C1 m0 m1
  go_wp2_with fail
  go_region_held3 (fun W => W.cell? ⟨w.heap.size, 0, none⟩ = some (.int .i64 l))
    (first | exact hND.out.m0 | exact HN3.out.m0 | exact HN4.out.m0 | exact HN5.out.m0 | exact HS5.out)
    (first
      | (go_at_call 108; with_reducible refine (C8.out _).mono ?_; rintro e w3 ⟨A3, c3, rfl, ho3, hb3⟩; have HO3 := hid ho3; have HN3 := hid (hND.out.below hb3); have HB3 := hid (bthen HB2.out hb3); have hz3 := hb3.size; clear ho3)
      | (go_at_call 108; with_reducible refine (C4.out _).mono ?_; rintro e w4 ⟨A4, c4, rfl, ho4, hb4⟩; have HO4 := hid ho4; have HN4 := hid (HN3.out.below hb4); have HB4 := hid (bthen HB3.out hb4); have hz4 := hb4.size; clear ho4)
      | (go_at_call 75; refine (CC.out _ HB4.out).mono ?_; rintro e w5 ⟨A5, c5, rfl, ho5, hb5⟩; have HO5 := hid ho5; have HN5 := hid (HN4.out.below hb5); have HB5 := hid (bthen HB4.out hb5); have hz5 := hb5.size; obtain ⟨q0, q1, q2, q3⟩ := HN5.out.at_; have f0 := q3 0; have f1 := q3 1; have f2 := q3 2; have HS5 := hid (show (((w5.setCell ⟨w.heap.size + 1, 0, none⟩ (.slice A3 8 c3)).setCell ⟨w.heap.size + 1, 1, none⟩ (.slice A4 4 c4)).setCell ⟨w.heap.size + 1, 2, none⟩ (.slice A5 n c5)).cell? ⟨w.heap.size, 0, none⟩ = some (.int .i64 l) from (World.cell?_setCell_far _ _ _ _ (by show w.heap.size + 1 ≠ w.heap.size; omega)).trans ((World.cell?_setCell_far _ _ _ _ (by show w.heap.size + 1 ≠ w.heap.size; omega)).trans ((World.cell?_setCell_far _ _ _ _ (by show w.heap.size + 1 ≠ w.heap.size; omega)).trans HN5.out.m0))); clear ho5 q3))
  have h3 := heap_setCell_same _ _ 0 _ _ (.slice A3 8 c3) HN5.out.r
  have h4 := heap_setCell_same _ _ 1 _ _ (.slice A4 4 c4) h3
  have h5 := heap_setCell_same _ _ 2 _ _ (.slice A5 n c5) h4
  have H5 := hid h5
  have HQ : Hid (Chg (w.heap.size + 1) (w.heap.size + 2) w5 (((w5.setCell ⟨w.heap.size + 1, 0, none⟩ (.slice A3 8 c3)).setCell ⟨w.heap.size + 1, 1, none⟩ (.slice A4 4 c4)).setCell ⟨w.heap.size + 1, 2, none⟩ (.slice A5 n c5))) := hid (((chg_set _ (Nat.le_refl _) (by omega) _ _).trans (chg_set _ (Nat.le_refl _) (by omega) _ _)).trans (chg_set _ (Nat.le_refl _) (by omega) _ _))
  have hz6 := HQ.out.size
  clear HS5 h3 h4 h5 f0 f1 f2 q0 q1 q2 HN3 HN4 HN5 hND C8 C4 CC
  go_wp2_with fail
  refine bodyPost_ret (results_row_tmp rfl _ _ (w.heap.size + 1) 62 #[.slice A3 8 c3, .slice A4 4 c4, .slice A5 n c5] (0, 0) _ rfl H5.out Try.underlying62 rfl (by kernel_rfl)) rfl ?_
  have O3 := (HO3.out.eqv (Eqv.of (bthen hb4 hb5) (Nat.le_refl _))).eqv (HQ.out.eqv (.inr (by omega)) (by omega))
  have O4 := (HO4.out.eqv (Eqv.of hb5 (Nat.le_refl _))).eqv (HQ.out.eqv (.inr (by omega)) (by omega))
  have O5 := HO5.out.eqv (HQ.out.eqv (.inr (by omega)) (by omega))
  exact ⟨_, rfl, ⟨_, _, _, _, _, _, _, _, _, rfl, O3, O4, O5, by omega, by omega, by omega, by omega⟩, HB5.out.trans (HQ.out.below (by omega) (by omega))⟩
theorem i_NewState (w : World) (la bi : Int) (A : Option Addr) (c : Nat) (xs : List Int) (hl : xs.length ≤ 1048576) (hR : RdI w A xs) :
    Calls Try.prog 46 #[mv la bi, .slice A xs.length c] w (RetSB w (m_NewState la bi xs)) := by
  have C0 := hid fun W => i_ValidMachine W la bi
  have C1 := hid fun W (hW : Below w.heap.size w W) => i_isMemory W la bi A c xs hl (hR.below hW)
  unfold m_NewState
  cases h0 : machB la bi with
  | false => rw [h0] at C0; exact i_NewState0 w la bi A _ c hl C0
  | true =>
    rw [h0] at C0
    cases h1 : memB bi xs with
    | false => rw [h1] at C1; exact i_NewState1 w la bi A _ c hl C0 C1
    | true =>
      rw [h1] at C1
      obtain ⟨l, rfl, _, h16⟩ := machB_la h0
      exact i_NewState2 w l bi A _ c xs hl h16 rfl hR C0 C1
end Go.Proofs.Ytolcmehndambmaa
