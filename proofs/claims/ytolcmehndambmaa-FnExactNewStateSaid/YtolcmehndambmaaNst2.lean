import Derived.Test.YtolcmehndambmaaNst
import Derived.Deep.RegionLaw
set_option linter.unusedVariables false
set_option linter.unusedSimpArgs false
namespace Go.Proofs.Ytolcmehndambmaa
open Go.RowKit

theorem Chg.then_below {lo hi : Nat} {a b c : World} (h : Chg lo hi a b) (k : Below a.heap.size b c) : Chg lo hi a c :=
  ⟨k.os.trans h.os, k.tape.trans h.tape, k.output.trans h.output, Nat.le_trans h.size k.size, fun i h1 h2 => (k.block i h1).trans (h.block i h1 h2)⟩
theorem step_appR {ops : Array Oper} {o : Oper} {a : Act} {K : Act → World → Prop} {Q : Exit → Act → World → Prop} {E : Prop} {W : World} (lo B : Nat) (hgd : o.guard = none) (s x : Operand)
    (ho : o.op = .call { callee := .builtin .append, args := #[s, x], argTypes := #[35, 35] })
    (v : Value) (yss : List (List Int)) (A : Option Addr) (c n : Nat) (row : List Int) (hs : a.eval s = v) (hx : a.eval x = .slice (some ⟨W.heap.size, 0, none⟩) 1 1)
    (HO : OR W lo B v yss) (HU : OI W B W.heap.size (.slice A n c) row) (hlo : lo ≤ B) (hB : B ≤ W.heap.size) (hl : yss.length + 1 ≤ 1048576)
    (h : ∀ v1 w1, OR w1 lo w1.heap.size v1 (yss ++ [row]) → Below lo W w1 → K (a.put o.dst v1) w1) :
    if Region.wanted o (yielded ops a.tmps) = true then Oper.wp Try.prog o a (W.alloc (.cells #[.slice A n c] 29)) K Q else E := by
  obtain ⟨f, hf⟩ := HO
  obtain ⟨i0, hi, hzz⟩ := Option.map_eq_some_iff.1 infoRow
  simp only [Prod.mk.injEq] at hzz
  obtain ⟨hz0, hz1, hz2⟩ := hzz
  have hae : (W.alloc (.cells #[.slice A n c] 29)).heap.size = W.heap.size + 1 := by simp
  refine step_append_lies (W.alloc (.cells #[.slice A n c] 29)) hgd s x 35 ho lo 29 i0 (.slice none 0 0) 1 24 Try.underlying35 hi hz0 hz1 hz2 rfl (by omega) v yss.length _ hs (hf.1.1.alloc _) ⟨W.heap.size, 0, none⟩ 1 1 [.slice A n c] hx rfl
    (cell_new_add W _ _) (by intro u hu; simp at hu; subst hu; rfl) (by omega) (by simp only [maxLen]; omega) (by omega) (by omega) (W.heap.size + 1) hae ?_
  intro g cap w1 hown hg hat hlt
  have hc := appR_core (hf.wide (Nat.le_refl _) hB) (Own.wide HU hlo (Nat.le_refl _)) (fun j hj => by
    have h1 := (own_at HU hj).1
    exact ⟨fun q => by have := (own_at hf.1 q).2.1; omega, fun k hk q => by have := (own_at (hf.2.1 k hk) q).2.1; omega⟩) hown hg (by
      rcases hat with q | q
      · exact .inl (by rw [q]; rfl)
      · exact .inr (by rw [q]; rfl)) (by omega)
  exact h _ w1 ⟨_, hc.1⟩ hc.2
theorem step_appRd {ops : Array Oper} {o : Oper} {a : Act} {K : Act → World → Prop} {Q : Exit → Act → World → Prop} {E : Prop} {W : World} (lo B : Nat) (hgd : o.guard = none) (s x : Operand)
    (ho : o.op = .call { callee := .builtin .append, args := #[s, x], argTypes := #[35, 35] })
    (v : Value) (yss : List (List Int)) (A : Option Addr) (c n : Nat) (row : List Int) (hs : a.eval s = v) (hx : a.eval x = .slice (some ⟨W.heap.size, 0, none⟩) 1 1)
    (HO : OR W.drew lo B v yss) (HU : OI W.drew B W.heap.size (.slice A n c) row) (hlo : lo ≤ B) (hB : B ≤ W.heap.size) (hl : yss.length + 1 ≤ 1048576)
    (h : ∀ v1 w1, OR w1 lo w1.heap.size v1 (yss ++ [row]) → Below lo W.drew w1 → K (a.put o.dst v1) w1) :
    if Region.wanted o (yielded ops a.tmps) = true then Oper.wp Try.prog o a (W.alloc (.cells #[.slice A n c] 29)).drew K Q else E :=
  step_appR (W := W.drew) lo B hgd s x ho v yss A c n row hs hx HO HU hlo hB hl h
set_option maxRecDepth 100000 in
set_option maxHeartbeats 2000000 in
theorem s_l05New (w : World) (B l : Nat) (bi : Int) (A : Option Addr) (n c : Nat) (xs : List Int) (hn : n ≤ 1048576) (hl : l ≤ 16) (hxl : xs.length = n) (hm : w.cell? ⟨B, 0, none⟩ = some (.int .i64 l)) (hR : RdI w A xs) :
    Calls Try.prog 105 #[.pointer (some ⟨B, 0, none⟩), .slice A n c] w fun e w' => ∃ v, e = .returned v ∧ OS w' w.heap.size w'.heap.size v ⟨zrs 8 l, zrs 4 l, xs⟩ ∧ Below w.heap.size w w' := by
  have hb0 := ballocw w (.cells #[.slice none 0 0, .slice none 0 0, .slice none 0 0] 62)
  have HR0 : Hid ((w.alloc (.cells #[.slice none 0 0, .slice none 0 0, .slice none 0 0] 62)).heap[w.heap.size]? = some (.cells #[.slice none 0 0, .slice none 0 0, .slice none 0 0] 62)) := hid (heap_alloc_new _ _)
  have hz0 : (w.alloc (.cells #[.slice none 0 0, .slice none 0 0, .slice none 0 0] 62)).heap.size = w.heap.size + 1 := by simp
  have C0 : Hid (Calls Try.prog 128 #[.slice A n c] (w.alloc (.cells #[.slice none 0 0, .slice none 0 0, .slice none 0 0] 62)) fun e w' => ∃ A' c', e = .returned (.slice A' n c') ∧ OI w' (w.heap.size + 1) w'.heap.size (.slice A' n c') xs ∧ Below (w.heap.size + 1) (w.alloc (.cells #[.slice none 0 0, .slice none 0 0, .slice none 0 0] 62)) w') := hid (by
    subst hxl
    rw [← hz0]
    refine (s_l00Own _ A c xs hn (hR.below hb0)).mono fun e w' hq => ?_
    obtain ⟨v, rfl, ho, hb⟩ := hq
    obtain ⟨A', c', rfl, _, _, _⟩ := Own.int ho
    exact ⟨A', c', rfl, ho, hb⟩)
  have HB0 := hid hb0
  have HM := hid hm
  have hmk := makeInt l (by omega)
  clear hb0 hR hxl hm
  go_enter Try.func105, Try.ntmps105
  go_wp2_with fail
  refine C0.out.mono ?_
  rintro e w1 ⟨A1, c1, rfl, ho1, hb1⟩
  rw [← hz0] at hb1
  have HR1 := hid ((hb1.block _ (by rw [hz0]; omega)).trans HR0.out)
  have HB1 := hid (bthen HB0.out hb1)
  have HO1 := hid ho1
  have hz1 := hb1.size
  rw [hz0] at hz1
  clear C0 ho1 hb1 HB0 HR0
  go_wp2
  have hb5 := ballocw w1 (.cells #[.slice none 0 0, .slice none 0 0, .slice A1 n c1] 62)
  have HX5 : Hid ((w1.alloc (.cells #[.slice none 0 0, .slice none 0 0, .slice A1 n c1] 62)).heap[w1.heap.size]? = some (.cells #[.slice none 0 0, .slice none 0 0, .slice A1 n c1] 62)) := hid (heap_alloc_new _ _)
  have hz5 : (w1.alloc (.cells #[.slice none 0 0, .slice none 0 0, .slice A1 n c1] 62)).heap.size = w1.heap.size + 1 := by simp
  have HB5 := hid (bthen HB1.out hb5)
  have HO5 := hid (HO1.out.eqv (Eqv.of hb5 (Nat.le_refl _)))
  have HR5 := hid ((hb5.block _ (by omega)).trans HR1.out)
  clear hb5 HB1 HO1 HR1
  generalize w1.alloc (.cells #[.slice none 0 0, .slice none 0 0, .slice A1 n c1] 62) = W5 at *
  generalize w1.heap.size = b5 at *
  go_loopg [6] 8 (fun gg s wr => ∃ k : Nat, k ≤ 8 ∧ 8 - k ≤ gg ∧ s = .int .i64 k ∧ ∃ A0 c0, Aside (Chg b5 (b5 + 1) W5 wr) ∧ Aside (wr.heap[b5]? = some (.cells #[.slice A0 k c0, .slice none 0 0, .slice A1 n c1] 62)) ∧ Aside (OR wr W5.heap.size wr.heap.size (.slice A0 k c0) (zrs k l)))
  case atStart => exact ⟨0, Nat.zero_le _, by omega, rfl, none, 0, Chg.refl _ _ _, HX5.out, OR.nil _ _ _⟩
  case round =>
    obtain ⟨k, hk, hg, rfl, A0, c0, CW, XW, OW⟩ := hrel
    obtain ⟨wk, rfl⟩ : ∃ wk : World, wk = wr := ⟨_, rfl⟩
    have hzc := CW.out.size
    by_cases hlt : k < 8
    · have hlt' : (k : Int) < 8 := by omega
      have q1 : wk.drew.cell? ⟨b5, 0, none⟩ = some (.slice A0 k c0) := by rw [cell_of_row _ _ _ _ _ _ (show wk.drew.heap[b5]? = _ from XW.out)]; rfl
      have hbm := bdrewL wk
      have q2 : wk.drew.cell? ⟨B, 0, none⟩ = some (.int .i64 l) := bcell (bthen (HB5.out.trans (CW.out.below (B := w.heap.size) (by omega) (by omega))) hbm) HM.out
      have hb := ballocw wk.drew (.cells (madeCells #[.int .i64 0] l) 2)
      have q1b : (wk.alloc (.cells (madeCells #[.int .i64 0] l) 2)).cell? ⟨b5, 0, none⟩ = some (.slice A0 k c0) := bcell (ballocw wk _) q1
      have q1c := bcell (ballocw (wk.alloc (.cells (madeCells #[.int .i64 0] l) 2)) (.cells #[.slice (some ⟨wk.heap.size, 0, none⟩) l l] 29)) q1b
      have HU := hid (ON.made wk.drew l (by omega)).2
      have HO := hid (OW.out.eqv (Eqv.of (bthen hbm hb) (Nat.le_refl _)))
      have HBb := hid (bthen hbm hb)
      have hz2 := hb.size
      have hse : (wk.drew.alloc (.cells (madeCells #[.int .i64 0] l) 2)).heap.size = wk.heap.size + 1 := by show (World.alloc _ _).heap.size = _; simp
      have HS := hid (zrs_succ k l)
      have hBz : wk.heap.size ≤ (wk.alloc (.cells (madeCells #[.int .i64 0] l) 2)).heap.size := by simp
      have HLN : Hid ((zrs k l).length + 1 ≤ 1048576) := hid (by rw [zrs_length]; omega)
      have HX := hid XW.out
      have HC := hid CW.out
      clear hb hbm XW CW OW
      go_wp2_with fail
      go_region_law (refine step_appRd W5.heap.size wk.heap.size rfl _ _ rfl (.slice A0 k c0) (zrs k l) (some ⟨wk.heap.size, 0, none⟩) l l (List.replicate l 0) rfl (by simp [Act.eval, Act.put]) HO.out (Own.wide HU.out (Nat.le_refl _) (Nat.le_of_eq hse.symm)) (by omega) hBz HLN.out ?_; intro v1 w3 ho3 hb3; obtain ⟨A4, c4, e4, _⟩ := OR.shp ho3; rw [List.length_append, zrs_length, List.length_singleton] at e4; subst e4; have HR3 := hid ho3; have x3 := (hb3.block b5 (by omega)).trans ((HBb.out.block b5 (by omega)).trans HX.out); have y3 : w3.cell? ⟨b5, 0, none⟩ = some (.slice A0 k c0) := (by rw [cell_of_row _ _ _ _ _ _ x3]; rfl); have f3 : w3.frozen? ⟨b5, 0, none⟩ = false := frozen_of_row _ _ _ _ _ x3; have HX3 := hid x3; have HB3 := hid (Below.trans (HBb.out.mono (show W5.heap.size ≤ wk.heap.size by omega)) hb3); clear ho3 hb3 x3)
      all_goals
        have hz3 := HB3.out.size
        have c3 : Hid (Chg b5 (b5 + 1) W5 (w3.setCell ⟨b5, 0, none⟩ (.slice A4 (k + 1) c4))) := hid ((HC.out.then_below (HB3.out.mono (by omega))).trans (chg_set _ (Nat.le_refl _) (by omega) _ _))
        have x4 := heap_setCell_same _ _ 0 _ _ (.slice A4 (k + 1) c4) HX3.out
        have HR4 := hid ((HR3.out.eqv (Chg.eqv (chg_set w3 (lo := b5) (hi := b5 + 1) (Nat.le_refl _) (by omega) 0 (.slice A4 (k + 1) c4)) (.inr (by omega)) (Nat.le_refl _))).wide (Nat.le_refl _) (show w3.heap.size ≤ (w3.setCell ⟨b5, 0, none⟩ (.slice A4 (k + 1) c4)).heap.size by simp [World.setCell]))
        rw [← HS.out] at HR4
        have HX4 := hid x4
        clear HC HR3 HX3 HX HO HU HB3 HBb x4 q1 q2 q1b q1c y3 f3
        go_wp2
        go_roundg (8 - (k + 1))
        case measure => omega
        case rel => exact ⟨k + 1, by omega, by omega, by go_num, A4, c4, c3.out, HX4.out, HR4.out⟩
    · have : (8 : Nat) = k := by omega
      subst this
      obtain ⟨W6, rfl⟩ : ∃ W6 : World, W6 = wk := ⟨_, rfl⟩
      have HX6 := hid XW.out
      have HV6 := hid OW.out
      have HB6 := hid (HB5.out.trans (CW.out.below (B := w.heap.size) (by omega) (by omega)))
      have HO6 := hid (HO5.out.eqv (CW.out.eqv (.inl (Nat.le_refl _)) (by omega)))
      have HR6 := hid ((CW.out.block _ (by omega) (.inl (by omega))).trans HR5.out)
      have hz6 := hzc
      clear CW XW OW hzc HX5 HB5 HO5 HR5
      go_wp2_with fail
      go_loopg [7] 4 (fun gg s wr => ∃ k : Nat, k ≤ 4 ∧ 4 - k ≤ gg ∧ s = .int .i64 k ∧ ∃ A9 c9, Aside (Chg b5 (b5 + 1) W6 wr) ∧ Aside (wr.heap[b5]? = some (.cells #[.slice A0 8 c0, .slice A9 k c9, .slice A1 n c1] 62)) ∧ Aside (OR wr W6.heap.size wr.heap.size (.slice A9 k c9) (zrs k l)))
      case atStart => exact ⟨0, Nat.zero_le _, by omega, rfl, none, 0, Chg.refl _ _ _, HX6.out, OR.nil _ _ _⟩
      case round =>
        obtain ⟨k, hk, hg, rfl, A9, c9, CW, XW, OW⟩ := hrel
        obtain ⟨wk, rfl⟩ : ∃ wk : World, wk = wr := ⟨_, rfl⟩
        have hzc := CW.out.size
        by_cases hlt : k < 4
        · have hlt' : (k : Int) < 4 := by omega
          have q1 : wk.drew.cell? ⟨b5, 1, none⟩ = some (.slice A9 k c9) := by rw [cell_of_row _ _ _ _ _ _ (show wk.drew.heap[b5]? = _ from XW.out)]; rfl
          have hbm := bdrewL wk
          have q2 : wk.drew.cell? ⟨B, 0, none⟩ = some (.int .i64 l) := bcell (bthen (HB6.out.trans (CW.out.below (B := w.heap.size) (by omega) (by omega))) hbm) HM.out
          have hb := ballocw wk.drew (.cells (madeCells #[.int .i64 0] l) 2)
          have q1b : (wk.alloc (.cells (madeCells #[.int .i64 0] l) 2)).cell? ⟨b5, 1, none⟩ = some (.slice A9 k c9) := bcell (ballocw wk _) q1
          have q1c := bcell (ballocw (wk.alloc (.cells (madeCells #[.int .i64 0] l) 2)) (.cells #[.slice (some ⟨wk.heap.size, 0, none⟩) l l] 29)) q1b
          have HU := hid (ON.made wk.drew l (by omega)).2
          have HO := hid (OW.out.eqv (Eqv.of (bthen hbm hb) (Nat.le_refl _)))
          have HBb := hid (bthen hbm hb)
          have hz2 := hb.size
          have hse : (wk.drew.alloc (.cells (madeCells #[.int .i64 0] l) 2)).heap.size = wk.heap.size + 1 := by show (World.alloc _ _).heap.size = _; simp
          have HS := hid (zrs_succ k l)
          have hBz : wk.heap.size ≤ (wk.alloc (.cells (madeCells #[.int .i64 0] l) 2)).heap.size := by simp
          have HLN : Hid ((zrs k l).length + 1 ≤ 1048576) := hid (by rw [zrs_length]; omega)
          have HX := hid XW.out
          have HC := hid CW.out
          clear hb hbm XW CW OW
          go_wp2_with fail
          go_region_law (refine step_appRd W6.heap.size wk.heap.size rfl _ _ rfl (.slice A9 k c9) (zrs k l) (some ⟨wk.heap.size, 0, none⟩) l l (List.replicate l 0) rfl (by simp [Act.eval, Act.put]) HO.out (Own.wide HU.out (Nat.le_refl _) (Nat.le_of_eq hse.symm)) (by omega) hBz HLN.out ?_; intro v1 w3 ho3 hb3; obtain ⟨A4, c4, e4, _⟩ := OR.shp ho3; rw [List.length_append, zrs_length, List.length_singleton] at e4; subst e4; have HR3 := hid ho3; have x3 := (hb3.block b5 (by omega)).trans ((HBb.out.block b5 (by omega)).trans HX.out); have y3 : w3.cell? ⟨b5, 1, none⟩ = some (.slice A9 k c9) := (by rw [cell_of_row _ _ _ _ _ _ x3]; rfl); have f3 : w3.frozen? ⟨b5, 1, none⟩ = false := frozen_of_row _ _ _ _ _ x3; have HX3 := hid x3; have HB3 := hid (Below.trans (HBb.out.mono (show W6.heap.size ≤ wk.heap.size by omega)) hb3); clear ho3 hb3 x3)
          all_goals
            have hz3 := HB3.out.size
            have c3 : Hid (Chg b5 (b5 + 1) W6 (w3.setCell ⟨b5, 1, none⟩ (.slice A4 (k + 1) c4))) := hid ((HC.out.then_below (HB3.out.mono (by omega))).trans (chg_set _ (Nat.le_refl _) (by omega) _ _))
            have x4 := heap_setCell_same _ _ 1 _ _ (.slice A4 (k + 1) c4) HX3.out
            have HR4 := hid ((HR3.out.eqv (Chg.eqv (chg_set w3 (lo := b5) (hi := b5 + 1) (Nat.le_refl _) (by omega) 1 (.slice A4 (k + 1) c4)) (.inr (by omega)) (Nat.le_refl _))).wide (Nat.le_refl _) (show w3.heap.size ≤ (w3.setCell ⟨b5, 1, none⟩ (.slice A4 (k + 1) c4)).heap.size by simp [World.setCell]))
            rw [← HS.out] at HR4
            have HX4 := hid x4
            clear HC HR3 HX3 HX HO HU HB3 HBb x4 q1 q2 q1b q1c y3 f3
            go_wp2
            go_roundg (4 - (k + 1))
            case measure => omega
            case rel => exact ⟨k + 1, by omega, by omega, by go_num, A4, c4, c3.out, HX4.out, HR4.out⟩
        · have : (4 : Nat) = k := by omega
          subst this
          obtain ⟨W7, rfl⟩ : ∃ W7 : World, W7 = wk := ⟨_, rfl⟩
          have HX7 := XW.out
          have p0 : W7.cell? ⟨b5, 0, none⟩ = some (.slice A0 8 c0) := by rw [cell_of_row _ _ _ _ _ _ HX7]; rfl
          have p1 : W7.cell? ⟨b5, 1, none⟩ = some (.slice A9 4 c9) := by rw [cell_of_row _ _ _ _ _ _ HX7]; rfl
          have p2 : W7.cell? ⟨b5, 2, none⟩ = some (.slice A1 n c1) := by rw [cell_of_row _ _ _ _ _ _ HX7]; rfl
          have hr7 := (CW.out.block _ (by omega) (.inl (by omega))).trans HR6.out
          have s0 : W7.cell? ⟨w.heap.size, 0, none⟩ = some (.slice none 0 0) := by rw [cell_of_row _ _ _ _ _ _ hr7]; rfl
          have s1 : W7.cell? ⟨w.heap.size, 1, none⟩ = some (.slice none 0 0) := by rw [cell_of_row _ _ _ _ _ _ hr7]; rfl
          have s2 : W7.cell? ⟨w.heap.size, 2, none⟩ = some (.slice none 0 0) := by rw [cell_of_row _ _ _ _ _ _ hr7]; rfl
          have f0 : W7.frozen? ⟨w.heap.size, 0, none⟩ = false := frozen_of_row _ _ _ _ _ hr7
          have f1 : W7.frozen? ⟨w.heap.size, 1, none⟩ = false := frozen_of_row _ _ _ _ _ hr7
          have f2 : W7.frozen? ⟨w.heap.size, 2, none⟩ = false := frozen_of_row _ _ _ _ _ hr7
          have h3 := heap_setCell_same _ _ 0 _ _ (.slice A0 8 c0) hr7
          have h4 := heap_setCell_same _ _ 1 _ _ (.slice A9 4 c9) h3
          have h5 := heap_setCell_same _ _ 2 _ _ (.slice A1 n c1) h4
          have H5 := hid h5
          have HQ : Hid (Chg w.heap.size (w.heap.size + 1) W7 (((W7.setCell ⟨w.heap.size, 0, none⟩ (.slice A0 8 c0)).setCell ⟨w.heap.size, 1, none⟩ (.slice A9 4 c9)).setCell ⟨w.heap.size, 2, none⟩ (.slice A1 n c1))) := hid (((chg_set _ (Nat.le_refl _) (by omega) _ _).trans (chg_set _ (Nat.le_refl _) (by omega) _ _)).trans (chg_set _ (Nat.le_refl _) (by omega) _ _))
          have hz7 := HQ.out.size
          have HO7 := hid ((HO6.out.eqv (CW.out.eqv (.inl (Nat.le_refl _)) (by omega))).eqv (HQ.out.eqv (.inr (Nat.le_refl _)) (by omega)))
          have HV7 := hid ((HV6.out.eqv (CW.out.eqv (.inr (by omega)) (Nat.le_refl _))).eqv (HQ.out.eqv (.inr (by omega)) (by omega)))
          have HM7 := hid (OW.out.eqv (HQ.out.eqv (.inr (by omega)) (Nat.le_refl _)))
          have HB7 := hid ((HB6.out.trans (CW.out.below (B := w.heap.size) (by omega) (by omega))).trans (HQ.out.below (B := w.heap.size) (Nat.le_refl _) (by omega)))
          clear h3 h4 h5 hr7 HX7 XW OW CW HR6 HX6 HV6 HB6 HO6 HM
          go_wp2_with fail
          refine bodyPost_ret (results_cell_row rfl _ _ w.heap.size 62 #[.slice A0 8 c0, .slice A9 4 c9, .slice A1 n c1] (0, 0) _ rfl H5.out Try.underlying62 rfl (by kernel_rfl)) rfl ?_
          exact ⟨_, rfl, ⟨_, _, _, _, _, _, _, _, _, rfl, HV7.out, HM7.out, HO7.out, by omega, by omega, by omega, by omega⟩, HB7.out⟩
set_option maxRecDepth 100000 in
theorem s_NewState0 (w : World) (la bi : Int) (A : Option Addr) (n c : Nat) (hn : n ≤ 1048576)
    (C0 : Hid (∀ W B, W.cell? ⟨B, 0, none⟩ = some (.int .i64 la) → W.cell? ⟨B, 1, none⟩ = some (.int .i64 bi) → Calls Try.prog 103 #[.pointer (some ⟨B, 0, none⟩)] W fun e w' => e = .returned (.bool false) ∧ W = w')) :
    Calls Try.prog 44 #[mv la bi, .slice A n c] w (RetSB w (⟨[], [], []⟩, false)) := by
  have HN := NSb.made w la bi
  have HB := hid (balloc (ballocw w (.cells #[.int .i64 la, .int .i64 bi] 65)) (.cells #[.slice none 0 0, .slice none 0 0, .slice none 0 0] 62))
  have CC := hid (C0.out _ _ HN.m0 HN.m1)
  have HNN := hid HN
  clear C0 HN
  go_enter Try.func44, Try.ntmps44
  go_wp2_with fail
  refine CC.out.mono ?_
  generalize (w.alloc (.cells #[.int .i64 la, .int .i64 bi] 65)).alloc (.cells #[.slice none 0 0, .slice none 0 0, .slice none 0 0] 62) = w1 at *
  rintro e w1' ⟨rfl, rfl⟩
  obtain ⟨q0, q1, q2, q3⟩ := HNN.out.at_
  have f0 := q3 0
  have f1 := q3 1
  have f2 := q3 2
  have h3 := heap_setCell_same _ _ 0 _ _ (.slice none 0 0) HNN.out.r
  have h4 := heap_setCell_same _ _ 1 _ _ (.slice none 0 0) h3
  have h5 := heap_setCell_same _ _ 2 _ _ (.slice none 0 0) h4
  have H5 := hid h5
  clear HNN h3 h4 h5 q3 CC
  go_wp2_with fail
  refine bodyPost_ret (results_row_tmp rfl _ _ (w.heap.size + 1) 62 #[.slice none 0 0, .slice none 0 0, .slice none 0 0] (0, 0) _ rfl H5.out Try.underlying62 rfl (by kernel_rfl)) rfl ?_
  exact ⟨_, rfl, OS.nil _ _ _ (by have := HB.out.size; simpa [World.setCell] using this), bset (bset (bset HB.out (by show _ ≤ w.heap.size + 1; omega) _) (by show _ ≤ w.heap.size + 1; omega) _) (by show _ ≤ w.heap.size + 1; omega) _⟩
set_option maxRecDepth 100000 in
theorem s_NewState1 (w : World) (la bi : Int) (A : Option Addr) (n c : Nat) (hn : n ≤ 1048576) (h64 : ¬ n = 64)
    (C0 : Hid (∀ W B, W.cell? ⟨B, 0, none⟩ = some (.int .i64 la) → W.cell? ⟨B, 1, none⟩ = some (.int .i64 bi) → Calls Try.prog 103 #[.pointer (some ⟨B, 0, none⟩)] W fun e w' => e = .returned (.bool true) ∧ W = w')) :
    Calls Try.prog 44 #[mv la bi, .slice A n c] w (RetSB w (⟨[], [], []⟩, false)) := by
  have HN := NSb.made w la bi
  have HB := hid (balloc (ballocw w (.cells #[.int .i64 la, .int .i64 bi] 65)) (.cells #[.slice none 0 0, .slice none 0 0, .slice none 0 0] 62))
  have CC := hid (C0.out _ _ HN.m0 HN.m1)
  have HNN := hid HN
  have hne : ((n : Int) != 64) = true := by simp; omega
  clear C0 HN h64
  go_enter Try.func44, Try.ntmps44
  go_wp2_with fail
  refine CC.out.mono ?_
  generalize (w.alloc (.cells #[.int .i64 la, .int .i64 bi] 65)).alloc (.cells #[.slice none 0 0, .slice none 0 0, .slice none 0 0] 62) = w1 at *
  rintro e w1' ⟨rfl, rfl⟩
  obtain ⟨q0, q1, q2, q3⟩ := HNN.out.at_
  have f0 := q3 0
  have f1 := q3 1
  have f2 := q3 2
  have h3 := heap_setCell_same _ _ 0 _ _ (.slice none 0 0) HNN.out.r
  have h4 := heap_setCell_same _ _ 1 _ _ (.slice none 0 0) h3
  have h5 := heap_setCell_same _ _ 2 _ _ (.slice none 0 0) h4
  have H5 := hid h5
  clear HNN h3 h4 h5 q3 CC
  go_wp2_with fail
  refine bodyPost_ret (results_row_tmp rfl _ _ (w.heap.size + 1) 62 #[.slice none 0 0, .slice none 0 0, .slice none 0 0] (0, 0) _ rfl H5.out Try.underlying62 rfl (by kernel_rfl)) rfl ?_
  exact ⟨_, rfl, OS.nil _ _ _ (by have := HB.out.size; simpa [World.setCell] using this), bset (bset (bset HB.out (by show _ ≤ w.heap.size + 1; omega) _) (by show _ ≤ w.heap.size + 1; omega) _) (by show _ ≤ w.heap.size + 1; omega) _⟩
set_option maxRecDepth 100000 in
theorem s_NewState2 (w : World) (la bi : Int) (A : Option Addr) (n c : Nat) (hn : n ≤ 1048576) (h64 : n = 64)
    (C0 : Hid (∀ W B, W.cell? ⟨B, 0, none⟩ = some (.int .i64 la) → W.cell? ⟨B, 1, none⟩ = some (.int .i64 bi) → Calls Try.prog 103 #[.pointer (some ⟨B, 0, none⟩)] W fun e w' => e = .returned (.bool true) ∧ W = w'))
    (C1 : Hid (∀ W, Below w.heap.size w W → Calls Try.prog 104 #[.int .i64 bi, .slice A n c] W fun e w' => e = .returned (.bool false) ∧ Below W.heap.size W w')) :
    Calls Try.prog 44 #[mv la bi, .slice A n c] w (RetSB w (⟨[], [], []⟩, false)) := by
  have HN := NSb.made w la bi
  have HBa := hid (balloc (ballocw w (.cells #[.int .i64 la, .int .i64 bi] 65)) (.cells #[.slice none 0 0, .slice none 0 0, .slice none 0 0] 62))
  have CC := hid (C0.out _ _ HN.m0 HN.m1)
  have HNN := hid HN
  have hne : ((n : Int) != 64) = false := by simp; omega
  clear C0 HN h64
  go_enter Try.func44, Try.ntmps44
  go_wp2_with fail
  refine CC.out.mono ?_
  generalize (w.alloc (.cells #[.int .i64 la, .int .i64 bi] 65)).alloc (.cells #[.slice none 0 0, .slice none 0 0, .slice none 0 0] 62) = w1 at *
  rintro e w1' ⟨rfl, rfl⟩
  have m1 := HNN.out.m1
  clear CC
  go_wp2_with fail
  refine (C1.out _ HBa.out).mono ?_
  rintro e w2 ⟨rfl, hb2⟩
  have N1 := HNN.out.below hb2
  have HB := hid (bthen HBa.out hb2)
  clear m1 HBa C1 hb2 HNN
  obtain ⟨q0, q1, q2, q3⟩ := N1.at_
  have f0 := q3 0
  have f1 := q3 1
  have f2 := q3 2
  have h3 := heap_setCell_same _ _ 0 _ _ (.slice none 0 0) N1.r
  have h4 := heap_setCell_same _ _ 1 _ _ (.slice none 0 0) h3
  have h5 := heap_setCell_same _ _ 2 _ _ (.slice none 0 0) h4
  have H5 := hid h5
  clear N1 h3 h4 h5 q3
  go_wp2_with fail
  refine bodyPost_ret (results_row_tmp rfl _ _ (w.heap.size + 1) 62 #[.slice none 0 0, .slice none 0 0, .slice none 0 0] (0, 0) _ rfl H5.out Try.underlying62 rfl (by kernel_rfl)) rfl ?_
  exact ⟨_, rfl, OS.nil _ _ _ (by have := HB.out.size; simpa [World.setCell] using this), bset (bset (bset HB.out (by show _ ≤ w.heap.size + 1; omega) _) (by show _ ≤ w.heap.size + 1; omega) _) (by show _ ≤ w.heap.size + 1; omega) _⟩
set_option maxRecDepth 100000 in
theorem s_NewState3 (w : World) (l : Nat) (bi : Int) (A : Option Addr) (n c : Nat) (xs : List Int) (hn : n ≤ 1048576) (h64 : n = 64) (hl : l ≤ 16) (hxl : xs.length = n) (hR : RdI w A xs)
    (C0 : Hid (∀ W B, W.cell? ⟨B, 0, none⟩ = some (.int .i64 l) → W.cell? ⟨B, 1, none⟩ = some (.int .i64 bi) → Calls Try.prog 103 #[.pointer (some ⟨B, 0, none⟩)] W fun e w' => e = .returned (.bool true) ∧ W = w'))
    (C1 : Hid (∀ W, Below w.heap.size w W → Calls Try.prog 104 #[.int .i64 bi, .slice A n c] W fun e w' => e = .returned (.bool true) ∧ Below W.heap.size W w')) :
    Calls Try.prog 44 #[mv l bi, .slice A n c] w (RetSB w (⟨zrs 8 l, zrs 4 l, xs⟩, true)) := by
  have HN := NSb.made w l bi
  have HBa := hid (balloc (ballocw w (.cells #[.int .i64 l, .int .i64 bi] 65)) (.cells #[.slice none 0 0, .slice none 0 0, .slice none 0 0] 62))
  have hsb : w.heap.size + 2 = ((w.alloc (.cells #[.int .i64 l, .int .i64 bi] 65)).alloc (.cells #[.slice none 0 0, .slice none 0 0, .slice none 0 0] 62)).heap.size := by simp
  have CC := hid (C0.out _ _ HN.m0 HN.m1)
  have HNN := hid HN
  have hne : ((n : Int) != 64) = false := by simp; omega
  have C2 := hid (fun W (hW : Below w.heap.size w W) (hm : W.cell? ⟨w.heap.size, 0, none⟩ = some (.int .i64 l)) => s_l05New W w.heap.size l bi A n c xs hn hl hxl hm (hR.below hW))
  clear C0 HN h64 hR hxl
  go_enter Try.func44, Try.ntmps44
  go_wp2_with fail
  refine CC.out.mono ?_
  generalize (w.alloc (.cells #[.int .i64 l, .int .i64 bi] 65)).alloc (.cells #[.slice none 0 0, .slice none 0 0, .slice none 0 0] 62) = w1 at *
  rintro e w1' ⟨rfl, rfl⟩
  have m1 := HNN.out.m1
  clear CC
  go_wp2_with fail
  refine (C1.out _ HBa.out).mono ?_
  rintro e w2 ⟨rfl, hb2⟩
  have N1 := hid (HNN.out.below hb2)
  have HBb := hid (bthen HBa.out hb2)
  have hz2 := hb2.size
  rw [← hsb] at hz2
  clear m1 HBa C1 hb2 HNN hsb
  go_wp2_with fail
  refine (C2.out _ HBb.out N1.out.m0).mono ?_
  rintro e w3 ⟨v3, rfl, ho3, hb3⟩
  have N3 := N1.out.below hb3
  have HB := hid (bthen HBb.out hb3)
  have hz3 := hb3.size
  obtain ⟨A1, c1, A2, c2, A3, c3, rfl, _⟩ := ho3.shp
  have HO3 := hid ho3
  obtain ⟨q0, q1, q2, q3⟩ := N3.at_
  have f0 := q3 0
  have f1 := q3 1
  have f2 := q3 2
  have h3 := heap_setCell_same _ _ 0 _ _ (.slice A1 (zrs 8 l).length c1) N3.r
  have h4 := heap_setCell_same _ _ 1 _ _ (.slice A2 (zrs 4 l).length c2) h3
  have h5 := heap_setCell_same _ _ 2 _ _ (.slice A3 xs.length c3) h4
  have HQ : Hid (Chg (w.heap.size + 1) (w.heap.size + 2) w3 (((w3.setCell ⟨w.heap.size + 1, 0, none⟩ (.slice A1 (zrs 8 l).length c1)).setCell ⟨w.heap.size + 1, 1, none⟩ (.slice A2 (zrs 4 l).length c2)).setCell ⟨w.heap.size + 1, 2, none⟩ (.slice A3 xs.length c3))) := hid (((chg_set _ (Nat.le_refl _) (by omega) _ _).trans (chg_set _ (Nat.le_refl _) (by omega) _ _)).trans (chg_set _ (Nat.le_refl _) (by omega) _ _))
  have hz4 := HQ.out.size
  have H5 := hid h5
  have HO4 := hid (OS.wide (HO3.out.eqv (HQ.out.eqv (.inr (by omega)) (Nat.le_refl _))) (show w.heap.size ≤ w2.heap.size by omega) hz4)
  have HB4 := hid (HB.out.trans (HQ.out.below (B := w.heap.size) (by omega) (by omega)))
  clear N1 N3 h3 h4 h5 q3 ho3 hb3 HBb C2 HO3 HQ
  generalize (zrs 8 l).length = n8 at *
  generalize (zrs 4 l).length = n4 at *
  generalize xs.length = nx at *
  go_wp2_with fail
  refine bodyPost_ret (results_row_tmp rfl _ _ (w.heap.size + 1) 62 #[.slice A1 n8 c1, .slice A2 n4 c2, .slice A3 nx c3] (0, 0) _ rfl H5.out Try.underlying62 rfl (by kernel_rfl)) rfl ?_
  exact ⟨_, rfl, HO4.out, HB4.out⟩
theorem s_NewState (w : World) (la bi : Int) (A : Option Addr) (c : Nat) (xs : List Int) (hl : xs.length ≤ 1048576) (hR : RdI w A xs) :
    Calls Try.prog 44 #[mv la bi, .slice A xs.length c] w (RetSB w (m_NewState la bi xs)) := by
  have C0 := hid fun W B h0 h1 => s_l05Machine W B la bi h0 h1
  have C1 := hid fun W (hW : Below w.heap.size w W) => s_l01Words W bi A c xs (by omega) (hR.below hW)
  unfold m_NewState
  cases h0 : machB la bi with
  | false => rw [h0] at C0; exact s_NewState0 w la bi A _ c hl C0
  | true =>
    rw [h0] at C0
    have hbi : bitsB bi = true := by simp only [machB, Bool.and_eq_true] at h0; exact h0.2
    rw [hbi, Bool.true_and] at C1
    by_cases h64 : xs.length = 64
    · have e : memB bi xs = xs.all (wordB bi) := by simp [memB, h64]
      rw [e]
      cases h1 : xs.all (wordB bi) with
      | false => rw [h1] at C1; exact s_NewState2 w la bi A _ c hl h64 C0 C1
      | true =>
        rw [h1] at C1
        obtain ⟨l, rfl, _, h16⟩ := machB_la h0
        exact s_NewState3 w l bi A _ c xs hl h64 h16 rfl hR C0 C1
    · have e : memB bi xs = false := by simp [memB, h64]
      rw [e]
      exact s_NewState1 w la bi A _ c hl h64 C0
end Go.Proofs.Ytolcmehndambmaa
