import Derived.Test.YtmpdaafkphpnoaaGreatUnt3
import Derived.Test.YtmpdaafkphpnoaaGreatGrp4
set_option linter.unusedVariables false
set_option linter.unusedSimpArgs false
namespace Go.Proofs.YtmpdaafkphpnoaaGreat
open Go.RowKit

theorem unI_nil (cs : List SmV) (R : List (List Int)) (D : List Int) (O : List Nat) : unI cs R ([] : List Nat).length [] D O = (O, true) := rfl
theorem unI_fail {cs : List SmV} {R : List (List Int)} {L : List Nat} {D : List Int} {O : List Nat} (hL : 0 < L.length) (h : nxI cs R D L < 0) : unI cs R L.length L D O = ([], false) := by
  obtain ⟨m, hm⟩ : ∃ m, L.length = m + 1 := ⟨L.length - 1, by omega⟩
  rw [hm]; simp only [unI]; rw [if_pos h]
theorem unI_step {cs : List SmV} {R : List (List Int)} {L : List Nat} {D : List Int} {O : List Nat} {k : Nat} (hk : k < L.length) (h : nxI cs R D L = k) :
    unI cs R L.length L D O = unI cs R (L.eraseIdx k).length (L.eraseIdx k) (D ++ rw_ R (L.getD k 0)) (O ++ [L.getD k 0]) := by
  obtain ⟨m, hm⟩ : ∃ m, L.length = m + 1 := ⟨L.length - 1, by omega⟩
  have e : (L.eraseIdx k).length = m := by rw [List.length_eraseIdx, if_pos hk]; omega
  rw [hm, e]; simp only [unI]; rw [h, if_neg (by omega), Int.toNat_natCast]
theorem nxI_cases (cs : List SmV) (R : List (List Int)) (D : List Int) (L : List Nat) : nxI cs R D L = -1 ∨ ∃ k : Nat, k < L.length ∧ nxI cs R D L = k := by
  rcases idxN_spec (fun k => rdyB cs D (rw_ R (L.getD k 0))) L.length with ⟨h, _⟩ | ⟨k, hk, h, _⟩
  · exact .inl h
  · exact .inr ⟨k, hk, h⟩
theorem nodup_move {O L : List Nat} {k : Nat} (hk : k < L.length) (h : (O ++ L).Nodup) : ((O ++ [L.getD k 0]) ++ L.eraseIdx k).Nodup := by
  have hp : (O ++ L).Perm ((O ++ [L.getD k 0]) ++ L.eraseIdx k) := by
    rw [List.append_assoc]
    exact (perm_erase hk).append_left O
  exact hp.nodup_iff.1 h
/-- The done set's box. -/
structure DB (w : World) (bd m : Nat) : Prop where
  cell : w.cell? ⟨bd, 0, none⟩ = some (.int .i64 (m : Nat))
  fr : w.frozen? ⟨bd, 0, none⟩ = false
theorem DB.keep {w w' : World} {bd m : Nat} (h : DB w bd m) (hq : w'.heap[bd]? = w.heap[bd]?) : DB w' bd m :=
  ⟨(World.cell?_of_block (a := ⟨bd, 0, none⟩) hq).trans h.cell, (World.frozen?_of_block (a := ⟨bd, 0, none⟩) hq).trans h.fr⟩
theorem DB.lt {w : World} {bd m : Nat} (h : DB w bd m) : bd < w.heap.size := World.block_lt_of_cell? w _ h.cell
theorem DB.below {w w' : World} {bd m : Nat} (h : DB w bd m) (hb : Below w.heap.size w w') : DB w' bd m := h.keep (hb.block bd h.lt)
theorem DB.put {w : World} {bd m : Nat} (h : DB w bd m) {x : Int} {m' : Nat} (hx : x = (m' : Int)) : DB (w.setCell ⟨bd, 0, none⟩ (.int .i64 x)).drew bd m' :=
  ⟨by rw [hx]; exact World.cell?_setCell_same w _ _ h.cell, (World.frozen?_setCell _ _ _ _).trans h.fr⟩
theorem TB.wide {w : World} {lo hi lo' hi' : Nat} {R : List (List Int)} {f : Nat → Value} (h : TB w lo hi R f) (h1 : lo' ≤ lo) (h2 : hi ≤ hi') : TB w lo' hi' R f := ⟨fun k hk => (h.row k hk).wide h1 h2, h.apart⟩
theorem LS.snoc {w : World} {lo hi : Nat} {f : Nat → Value} {v : Value} {O : List Nat} {x : Nat} (h : Own w lo hi 28 1 v (O.length + 1) (O.map f ++ [f x])) : LS w lo hi f v (O ++ [x]) := by
  unfold LS; rw [List.length_append, List.map_append]; exact h
theorem mskL_snoc {D u : List Int} {j x : Nat} (hj : j < u.length) (hx : el u j = x) : mskL (D ++ u.take (j + 1)) = mskL (D ++ u.take j) ||| 2 ^ x := by
  rw [el_take hj, ← List.append_assoc, mskL_app, hx]; simp [mskL]
theorem small_app {D u : List Int} (h1 : ∀ x ∈ D, 0 ≤ x ∧ x < 16) (h2 : ∀ x ∈ u, 0 ≤ x ∧ x < 16) : ∀ x ∈ D ++ u, 0 ≤ x ∧ x < 16 := fun x hx => by
  rcases List.mem_append.1 hx with q | q
  · exact h1 x q
  · exact h2 x q
theorem own_lit1 (w : World) (x : Int) : OI (w.alloc (.cells #[.int .i64 x] 2)) w.heap.size (w.alloc (.cells #[.int .i64 x] 2)).heap.size (.slice (some ⟨w.heap.size, 0, none⟩) 1 1) [x] := Own.of (World.ownsRow_lit (base := w.heap.size) (e := 2) (size := 1) w #[.int .i64 x] 1 (Nat.le_refl _) (by simp [maxLen]) rfl)
def RetRU (w : World) (xss : List (List Int)) (b : Bool) (e : Ending) (w' : World) : Prop := ∃ v, e = .returned (.tuple #[v, .bool b]) ∧ OR w' w.heap.size w'.heap.size v xss ∧ Below w.heap.size w w'
theorem UE.made {w4 w5 : World} {lo hi : Nat} {R : List (List Int)} {f : Nat → Value} {v vN : Value} {L : List Nat} {cs : List SmV} (hT : TB w4 lo hi R f) (hA : Apt R f v) (hL : LS w4 lo hi f v L) (hhi : hi ≤ w4.heap.size)
    (hN : Own w5 w4.heap.size w5.heap.size 3 1 vN cs.length (ints (ndL cs))) (hb5 : Below w4.heap.size w4 w5) :
    UE ((w5.alloc (.cells #[vN] 145)).alloc (.cells #[.int .i64 0] 3)) lo w4.heap.size w5.heap.size v.ownBlock R f vN cs ∧ LS ((w5.alloc (.cells #[vN] 145)).alloc (.cells #[.int .i64 0] 3)) lo w4.heap.size f v L ∧
      DB ((w5.alloc (.cells #[vN] 145)).alloc (.cells #[.int .i64 0] 3)) (w5.heap.size + 1) 0 ∧ Below w5.heap.size w5 ((w5.alloc (.cells #[vN] 145)).alloc (.cells #[.int .i64 0] 3)) := by
  have b1 := ballocw w5 (.cells #[vN] 145)
  have b2 := ballocw (w5.alloc (.cells #[vN] 145)) (.cells #[.int .i64 0] 3)
  have b12 := bthen b1 b2
  have z1 : (w5.alloc (.cells #[vN] 145)).heap.size = w5.heap.size + 1 := by simp
  have c1 : (w5.alloc (.cells #[vN] 145)).cell? ⟨w5.heap.size, 0, none⟩ = some vN := cell_of_row _ _ _ _ _ _ (heap_alloc_new _ _)
  have h2 : ((w5.alloc (.cells #[vN] 145)).alloc (.cells #[.int .i64 0] 3)).heap[w5.heap.size + 1]? = some (.cells #[.int .i64 0] 3) := by rw [← z1]; exact heap_alloc_new _ _
  have b46 := bthen hb5 b12
  have e46 : ∀ lo', Eqv lo' hi w4 ((w5.alloc (.cells #[vN] 145)).alloc (.cells #[.int .i64 0] 3)) := fun lo' => Eqv.of b46 hhi
  refine ⟨⟨⟨fun k hk => ((hT.row k hk).eqv (e46 _)).wide (Nat.le_refl _) hhi, hT.apart⟩, fun k a b hk h1 h2 => hA k a b hk h1 h2, fun a ha => ?_, ?_, hb5.size, bcell b2 c1, by simp⟩, (Own.eqv hL (e46 _)).wide (Nat.le_refl _) hhi, ⟨cell_of_row _ _ _ _ _ _ h2, frozen_of_row _ _ _ _ _ h2⟩, b12⟩
  · have := own_at hL ha; omega
  · unfold OwnI
    rw [ndL_length]
    exact Own.eqv hN (Eqv.of b12 (Nat.le_refl _))
theorem FrU.bel {H : Nat} {b6 : Option Nat} {bd B : Nat} {W6 w : World} (h : FrU H b6 bd W6 w) (h1 : ∀ a, b6 = some a → B ≤ a) (h2 : B ≤ bd) (h3 : B ≤ H) : Below B W6 w :=
  ⟨h.os, h.tape, h.output, h.size, fun a ha => h.block a (by omega) (fun q => by have := h1 a q; omega) (by omega)⟩
theorem UE.rowAt {W6 w : World} {lo lb bn : Nat} {b6 : Option Nat} {R : List (List Int)} {f : Nat → Value} {vN : Value} {cs : List SmV} (h : UE W6 lo lb bn b6 R f vN cs) (hF : FrU (bn + 2) b6 (bn + 1) W6 w) {x n c : Nat} {A : Option Addr} (hx : x < R.length) (e : f x = .slice A n c) : RdI w A (rw_ R x) := by
  obtain ⟨A', c', e', _, hr⟩ := (h.at_ hF).1.shp hx
  rw [e] at e'; cases e'; exact hr
theorem chg_drew (lo hi : Nat) (w : World) : Chg lo hi w w.drew := ⟨rfl, rfl, rfl, Nat.le_refl _, fun _ _ _ => rfl⟩
theorem below_grown {w w' : World} {row : Option Nat} {B : Nat} (h : w.grownBy w' row) (hB : B ≤ w.heap.size) (hr : ∀ k, row = some k → B ≤ k) : Below B w w' := (Below.refl B w).grown h hB hr
set_option maxRecDepth 100000 in
set_option maxHeartbeats 4000000 in
theorem i_unitsW (w : World) (A G : Option Addr) (c c' : Nat) (cs : List SmV) (gs : List (List Int)) (h16 : cs.length ≤ 16)
    (HRL : Hid ((tabG gs cs.length).length ≤ 1048576)) (hU : Hid (∀ k, k < (tabG gs cs.length).length → InU cs (rw_ (tabG gs cs.length) k) ∧ (rw_ (tabG gs cs.length) k).length ≤ 1048576)) (hgl : gs.length ≤ 1000000)
    (C1 : Hid (∀ W, Below w.heap.size w W → Calls Tryz.prog 47 #[.slice G gs.length c'] W fun e w' => ∃ v, e = .returned v ∧ OR w' W.heap.size w'.heap.size v gs ∧ Below W.heap.size W w'))
    (CF : Hid (∀ W b i, Below w.heap.size w W → W.cell? ⟨b, 0, none⟩ = some (.int .i64 i) → Calls Tryz.prog 100 #[.slice G gs.length c', .func (.func 133) #[] #[.pointer (some ⟨b, 0, none⟩)]] W fun e w' => e = .returned (.bool (inG gs i)) ∧ Below W.heap.size W w'))
    (CS : Hid (∀ W lo hi v, OR W lo hi v (tabG gs cs.length) → Calls Tryz.prog 135 #[v, .func (.func 136) #[] #[]] W fun e w' => e = .returned (.tuple #[]) ∧ ∃ f L, L.Perm (List.range (tabG gs cs.length).length) ∧ L.Pairwise (fun x y => Lib.minOf (rw_ (tabG gs cs.length) x) < Lib.minOf (rw_ (tabG gs cs.length) y)) ∧ LS w' lo hi f v L ∧ TB w' lo hi (tabG gs cs.length) f ∧ Apt (tabG gs cs.length) f v ∧ W.grownBy w' v.ownBlock))
    (CB : Hid (∀ W, Below w.heap.size w W → Calls Tryz.prog 137 #[.slice A cs.length c] W fun e w' => ∃ v, e = .returned v ∧ Own w' W.heap.size w'.heap.size 3 1 v cs.length (ints (ndL cs)) ∧ Below W.heap.size W w')) :
    Calls Tryz.prog 85 #[.slice A cs.length c, .agg #[.slice G gs.length c']] w (RetRU w ((m_units cs (tabG gs cs.length)).1.map (rw_ (tabG gs cs.length))) (m_units cs (tabG gs cs.length)).2) := by
  have H16 := hid h16
  have hB0 := ballocw w (.cells #[.slice G gs.length c'] 58)
  have kp0 : (w.alloc (.cells #[.slice G gs.length c'] 58)).cell? ⟨w.heap.size, 0, none⟩ = some (.slice G gs.length c') := cell_of_row _ _ _ _ _ _ (heap_alloc_new _ _)
  have hz0 : (w.alloc (.cells #[.slice G gs.length c'] 58)).heap.size = w.heap.size + 1 := by simp
  have HB0 := hid hB0
  have HKP := hid kp0
  have HZ0 := hid hz0
  clear hB0 hz0 h16
  go_enter Tryz.func85, Tryz.ntmps85
  go_wp2_with (first
    | (go_at_call 47; go_loud (refine (C1.out _ HB0.out).mono ?_; rintro e w2 ⟨v2, rfl, ho2, hb2⟩; rw [HZ0.out] at ho2 hb2; have HO2 := hid ho2; have HB2 := hid hb2; clear ho2 hb2))
    | (go_at_call 132; go_loud (refine (i_lengthC A cs.length c _).mono ?_; rintro e w3 ⟨rfl, rfl⟩)))
  clear C1 kp0
  go_loopg [6, 19] cs.length (fun gg s6 s19 wr => ∃ k : Nat, k ≤ cs.length ∧ cs.length - k ≤ gg ∧ s19 = .int .i64 k ∧ Aside (OR wr (w.heap.size + 1) wr.heap.size s6 (gs ++ snG gs k)) ∧ Aside (Below (w.heap.size + 1) (w.alloc (.cells #[.slice G gs.length c'] 58)) wr))
  case atStart => exact ⟨0, Nat.zero_le _, by omega, rfl, by rw [show gs ++ snG gs 0 = gs from List.append_nil gs]; exact HO2.out, HB2.out⟩
  case round =>
    obtain ⟨k, hk, hg, rfl, OW, BW⟩ := hrel
    obtain ⟨wk, rfl⟩ : ∃ wk : World, wk = wr := ⟨_, rfl⟩
    clear HO2 HB2
    have HBw := hid (HB0.out.trans (BW.out.mono (Nat.le_succ _)))
    have HSW : Hid (w.heap.size + 1 ≤ wk.heap.size) := hid (by have := BW.out.size; rw [HZ0.out] at this; exact this)
    by_cases hlt : k < cs.length
    · have hltz : (k : Int) < (cs.length : Int) := by omega
      have hk16 : (k : Int) < 16 := by have := H16.out; omega
      have hb1 := ballocw wk (.cells #[.int .i64 (k : Int)] 2)
      have kb1 : (wk.alloc (.cells #[.int .i64 (k : Int)] 2)).cell? ⟨wk.heap.size, 0, none⟩ = some (.int .i64 (k : Int)) := cell_of_row _ _ _ _ _ _ (heap_alloc_new _ _)
      have kp1 : (wk.alloc (.cells #[.int .i64 (k : Int)] 2)).cell? ⟨w.heap.size, 0, none⟩ = some (.slice G gs.length c') := bcell hb1 ((BW.out.cell (p := ⟨w.heap.size, 0, none⟩) (by show w.heap.size < w.heap.size + 1; omega)).trans HKP.out)
      have CK := hid (CF.out _ wk.heap.size (k : Int) (bthen HBw.out hb1) kb1)
      have HB1 := hid hb1
      have HKB := hid kb1
      have HKL := hid hlt
      have HKG := hid hg
      have HSN : Hid (snG gs (k + 1) = if inG gs (k : Int) then snG gs k else snG gs k ++ [[(k : Int)]]) := hid rfl
      have HLN : Hid ((gs ++ snG gs k).length + 1 ≤ 1048576) := hid (by have := snG_len gs k; have := H16.out; simp; omega)
      clear hb1 kb1 hlt hg hk CF CS CB
      generalize snG gs k = S at *
      cases hin : inG gs (k : Int) with
      | true =>
        rw [hin] at CK HSN
        have HS2 : Hid (snG gs (k + 1) = S) := hid HSN.out
        clear hin HSN
        go_wp2_with (go_at_call 100; go_loud (refine CK.out.mono ?_; rintro e w3 ⟨rfl, hb3⟩; have HB3 := hid (bthen HB1.out hb3); clear hb3))
        go_roundg (cs.length - (k + 1))
        case measure => have := HKL.out; have := HKG.out; go_light; omega
        case rel => exact ⟨k + 1, HKL.out, Nat.le_refl _, by have := HKL.out; have := H16.out; go_num, by rw [HS2.out]; exact (OW.out.eqv (Eqv.of HB3.out (Nat.le_refl _))).wide (Nat.le_refl _) HB3.out.size, BW.out.trans (HB3.out.mono HSW.out)⟩
      | false =>
        rw [hin] at CK HSN
        have HS2 : Hid (snG gs (k + 1) = S ++ [[(k : Int)]]) := hid HSN.out
        clear hin HSN
        go_wp2_with (first
          | (go_at_call 100; go_loud (refine CK.out.mono ?_; rintro e w3 ⟨rfl, hb3⟩; have HB3 := hid (bthen HB1.out hb3); have kb3 := bcell hb3 HKB.out; clear hb3))
          | (at_builtin; go_loud (refine wp_appendRq (w.heap.size + 1) w3.heap.size rfl _ _ rfl u6 (gs ++ S) (some ⟨w3.heap.size, 0, none⟩) 1 1 (w3.heap.size + 1) [(k : Int)] rfl (by simp) rfl rfl ((OW.out.eqv (Eqv.of (bthen HB3.out (ballocw w3 (.cells #[.int .i64 (k : Int)] 2))) (Nat.le_refl _))).wide (Nat.le_refl _) HB3.out.size) (own_lit1 w3 (k : Int)) (Nat.le_trans HSW.out HB3.out.size) (by simp) HLN.out ?_; intro v4 w4 ho4 hb4; have HO4 := hid ho4; have HB4 := hid ((BW.out.trans ((bthen HB3.out (ballocw w3 (.cells #[.int .i64 (k : Int)] 2))).mono HSW.out)).trans hb4); clear ho4 hb4)))
        go_roundg (cs.length - (k + 1))
        case measure => have := HKL.out; have := HKG.out; go_light; omega
        case rel => exact ⟨k + 1, HKL.out, Nat.le_refl _, by have := HKL.out; have := H16.out; go_num, by rw [HS2.out, ← List.append_assoc]; exact HO4.out, HB4.out⟩
    · obtain rfl : k = cs.length := by omega
      have hltz : ¬ (cs.length : Int) < (cs.length : Int) := by omega
      have OWR := hid (show OR wk (w.heap.size + 1) wk.heap.size u6 (tabG gs cs.length) from OW.out)
      have CSk := hid (CS.out wk _ _ u6 OWR.out)
      clear CS CF OW OWR hlt hk hg HKP
      generalize tabG gs cs.length = R at *
      go_wp2_with (first
        | (go_at_call 135; go_loud (refine CSk.out.mono ?_; rintro e w4 ⟨rfl, f, L0, hp, hs, hL, hT, hA, hgr⟩; have HP := hid hp; have HSd := hid hs; have HL4 := hid hL; have HT4 := hid hT; have HA := hid hA; have HZ4 := hid hgr.size; have HB4 := hid (HB0.out.trans ((BW.out.trans (below_grown hgr HSW.out (fun k hk => (own_at hL hk).1))).mono (Nat.le_succ _))); clear hp hs hL hT hA hgr))
        | (go_at_call 137; go_loud (refine (CB.out w4 HB4.out).mono ?_; rintro e w5 ⟨vN, rfl, hN, hb5⟩; obtain ⟨AN, cN, rfl, _, _, _⟩ := Own.shape hN; have HN5 := hid hN; have HB5 := hid hb5; clear hN hb5)))
      have hue := UE.made HT4.out HA.out HL4.out HZ4.out HN5.out HB5.out
      have HB6 := hid (bthen HB4.out (bthen HB5.out hue.2.2.2))
      have HUE := hid hue.1
      have HL6 := hid hue.2.1
      have HD6 := hid hue.2.2.1
      have hlo : w.heap.size + 1 ≤ w4.heap.size := Nat.le_trans HSW.out HZ4.out
      have HLO := hid hlo
      have HBN := hid HB5.out.size
      obtain ⟨b6, hb6⟩ : ∃ b6, b6 = Value.ownBlock u6 := ⟨_, rfl⟩
      have HB6E := hid hb6.symm
      rw [← hb6] at HUE
      clear hue hlo hb6 CSk CB HT4 HA HL4 HZ4 HN5 HB4 BW HSW HBw HB0 HZ0
      generalize ((w5.alloc (.cells #[.slice AN cs.length cN] 145)).alloc (.cells #[.int .i64 0] 3)) = W6 at *
      generalize w5.heap.size = bn at *
      generalize w4.heap.size = lb at *
      have HUN : Hid (m_units cs R = unI cs R L0.length L0 [] []) := hid (by
        unfold m_units
        rw [show L0.length = R.length by rw [HP.out.length_eq, List.length_range]]
        exact (un_eq cs R R.length L0 (List.range R.length) [] [] (by rw [HP.out.length_eq, List.length_range]) HP.out HSd.out).symm)
      have HL0 : Hid (L0.length ≤ R.length ∧ (∀ x ∈ L0, x < R.length) ∧ L0.Nodup) := hid ⟨by rw [HP.out.length_eq, List.length_range]; exact Nat.le_refl _, fun x hx => List.mem_range.1 (HP.out.mem_iff.1 hx), HP.out.nodup_iff.2 List.nodup_range⟩
      clear HP HSd
      go_loopg [6, 10] R.length (fun gg s6 s10 wr => ∃ (L O : List Nat) (D : List Int), L.length ≤ gg ∧ Aside (LS wr (w.heap.size + 1) lb f s6 L) ∧ Aside (Value.ownBlock s6 = b6) ∧ Aside (LS wr (bn + 2) wr.heap.size f s10 O) ∧ Aside (∀ x ∈ D, 0 ≤ x ∧ x < 16) ∧ Aside (DB wr (bn + 1) (mskL D)) ∧ Aside (FrU (bn + 2) b6 (bn + 1) W6 wr) ∧ Aside ((∀ x ∈ L, x < R.length) ∧ (∀ x ∈ O, x < R.length) ∧ (O ++ L).Nodup ∧ L.length ≤ 1048576 ∧ O.length + L.length ≤ 1048576) ∧ Aside (m_units cs R = unI cs R L.length L D O))
      case atStart => exact ⟨L0, [], [], HL0.out.1, HL6.out, HB6E.out, Own.nil _ _ _ _ _, fun x hx => absurd hx (by simp), HD6.out, FrU.refl _ _ _ _ HUE.out.hH, ⟨HL0.out.2.1, fun x hx => absurd hx (by simp), HL0.out.2.2, Nat.le_trans HL0.out.1 HRL.out, by have := HL0.out.1; have := HRL.out; simp; omega⟩, HUN.out⟩
      case round =>
        obtain ⟨L, O, D, hg, LW, LB, OW, HDs, DW, FQ, MW, IX⟩ := hrel
        obtain ⟨wm, rfl⟩ : ∃ wm : World, wm = wr := ⟨_, rfl⟩
        clear HL6 HD6 HUN HL0
        have HBm : Hid (Below w.heap.size w wm) := hid (HB6.out.trans (FQ.out.bel (fun a ha => by have := HUE.out.b6lt a ha; omega) (by have := HLO.out; have := HBN.out; omega) (by have := HLO.out; have := HBN.out; omega)))
        by_cases hLn : L = []
        · subst hLn
          obtain ⟨A6, c6, rfl, _, _, _⟩ := LW.out.rd
          have IX' : Hid (m_units cs R = (O, true)) := hid IX.out
          have HOR : Hid (OR wm w.heap.size wm.heap.size u10 (O.map (rw_ R))) := hid (by
            have hT := (HUE.out.at_ FQ.out).1
            have h1 := HLO.out
            have h2 := HBN.out
            have h3 := FQ.out.size
            have h4 := FQ.out.hH
            refine (hT.wide (lo' := w.heap.size) (hi' := wm.heap.size) (by omega) (by omega)).rows (Own.wide OW.out (by omega) (Nat.le_refl _)) (fun k a b hk ha hb e => ?_) MW.out.2.1 (by have := MW.out.2.2.1; rwa [List.append_nil] at this)
            have := own_at OW.out ha
            have := hT.lt hk hb
            omega)
          clear IX LW OW HUE hU
          go_wp2
          go_ret2
          exact ⟨_, by rw [IX'.out]; rfl, by rw [IX'.out]; exact HOR.out, HBm.out⟩
        · have hlp : 0 < L.length := List.length_pos_iff.2 hLn
          have hlz : (0 : Int) < (L.length : Int) := by omega
          have C1 := hid (g_Next HUE.out FQ.out hU.out LW.out MW.out.1 D HDs.out DW.out.cell)
          obtain ⟨A6, c6, rfl, hc1, hc2, hrd⟩ := LW.out.rd
          rcases nxI_cases cs R D L with hn | ⟨k, hk, hn⟩
          · have HX : Hid (m_units cs R = ([], false)) := hid (IX.out.trans (unI_fail hlp (by rw [hn]; decide)))
            rw [hn] at C1
            clear IX hn hrd LW OW HUE hU
            go_wp2_with (go_at_call 138; go_loud (refine C1.out.mono ?_; rintro e w7 ⟨rfl, hb7⟩; have HB7 := hid hb7; clear hb7))
            go_ret2
            exact ⟨_, by rw [HX.out]; rfl, by rw [HX.out]; exact OR.nil _ _ _, bthen HBm.out HB7.out⟩
          · have HST := hid (IX.out.trans (unI_step hk hn))
            rw [hn] at C1
            have hx := MW.out.1 _ (getD_mem' hk)
            have HND := hid (nodup_move hk MW.out.2.2.1)
            obtain ⟨b, off, rfl, hck0⟩ := hrd k hk
            have hck : wm.cell? ⟨b, off + k, none⟩ = some (f (L.getD k 0)) := hck0
            clear hck0
            generalize L.getD k 0 = x at *
            obtain ⟨Au, cu, eu, hcl, _⟩ := (HUE.out.at_ FQ.out).1.shp hx
            rw [eu] at hck
            have HUx := hid (hU.out x hx)
            have HEU := hid eu
            have HX := hid hx
            have HKL := hid hk
            have HLG := hid hg
            have hkz : (k : Int) < (L.length : Int) := by omega
            have hk0 : ¬ ((k : Int) < 0) := by omega
            have hb6 : b6 = some b := LB.out.symm
            have HBB := hid (HUE.out.b6lt b hb6)
            clear hn IX hU hrd eu hx hk hg hb6 hLn
            have HULN := hid HUx.out.2
            generalize hu : rw_ R x = u at *
            have HUU := hid hu
            clear hu
            go_wp2_with (go_at_call 138; go_loud (refine C1.out.mono ?_; rintro e w7 ⟨rfl, hb7⟩; have HB7 := hid hb7; have kc7 := bcell hb7 hck; clear hb7))
            have HD7 := hid (DW.out.below HB7.out)
            have HF7 := hid (FQ.out.below HB7.out)
            have HZ7 := hid HB7.out.size
            clear C1 hck
            go_loopg [50] u.length (fun gg s50 wr => ∃ j : Nat, j ≤ u.length ∧ u.length - j ≤ gg ∧ s50 = .int .i64 j ∧ Aside (DB wr (bn + 1) (mskL (D ++ u.take j))) ∧ Aside (Chg (bn + 1) (bn + 2) w7 wr))
            case atStart => exact ⟨0, Nat.zero_le _, by omega, rfl, by rw [List.take_zero, List.append_nil]; exact HD7.out, Chg.refl _ _ _⟩
            case round =>
              obtain ⟨j, hj, hgj, rfl, DJ, CJ⟩ := hrel
              obtain ⟨wj, rfl⟩ : ∃ wj : World, wj = wr := ⟨_, rfl⟩
              clear HD7
              have HFJ := hid (HF7.out.chg CJ.out)
              by_cases hjl : j < u.length
              · obtain ⟨y, hy16, hyc, he⟩ := HUx.out.1.at_ hjl
                have hri := HUE.out.rowAt HFJ.out HX.out HEU.out
                rw [HUU.out] at hri
                obtain ⟨b', off', rfl, hcj⟩ := hri.get hjl
                rw [he] at hcj
                have hdc := DJ.out.cell
                have hdf := DJ.out.fr
                have hdd : wj.drew.cell? ⟨bn + 1, 0, none⟩ = some (.int .i64 (mskL (D ++ u.take j) : Nat)) := hdc
                have hdf2 : wj.drew.frozen? ⟨bn + 1, 0, none⟩ = false := hdf
                have HY : Hid (bits .or .i64 ((mskL (D ++ u.take j) : Nat) : Int) (wrap64 ((2 : Int) ^ y)) = ((mskL (D ++ u.take (j + 1)) : Nat) : Int)) := hid (by rw [mskL_snoc hjl he, pow_wrap hy16, msk_or _ _ (mskL_small (small_app HDs.out (take_small HUx.out.1.small j))) (pow_small16 hy16)])
                have HDJ := hid (DJ.out.put HY.out)
                have HCJ := hid ((CJ.out.trans (chg_set wj (lo := bn + 1) (hi := bn + 2) (g := bn + 1) (Nat.le_refl _) (by omega) 0 (.int .i64 (bits .or .i64 ((mskL (D ++ u.take j) : Nat) : Int) (wrap64 ((2 : Int) ^ y)))))).trans (chg_drew _ _ _))
                have hjz : (j : Int) < (u.length : Int) := by omega
                have HJL := hid hjl
                have HJG := hid hgj
                have hub : u.length ≤ 1048576 := HULN.out
                clear hjl hgj hj hri he HY
                generalize mskL (D ++ u.take j) = m1 at *
                go_wp2
                go_still_tail 4, (by kernel_rfl)
                change wpList _ _ _ _ _ wj.drew
                go_wp2
                go_roundg (u.length - (j + 1))
                case measure => have := HJL.out; have := HJG.out; go_light; omega
                case rel => exact ⟨j + 1, HJL.out, Nat.le_refl _, by have := HJL.out; go_num, HDJ.out, HCJ.out⟩
              · obtain rfl : j = u.length := by omega
                have hjz : ¬ (u.length : Int) < (u.length : Int) := by omega
                have HLJ := hid (show LS wj (w.heap.size + 1) lb f (.slice (some ⟨b, off, none⟩) L.length c6) L from own_blk (Own.eqv LW.out (Eqv.of HB7.out (by have := FQ.out.size; have := FQ.out.hH; have := HBN.out; omega))) (fun a ha => CJ.out.block a (by have := own_at LW.out ha; have := HZ7.out; omega) (.inl (by have := own_at LW.out ha; have := HBN.out; omega))))
                have kcj : wj.cell? ⟨b, off + k, none⟩ = some (.slice Au u.length cu) := (World.cell?_of_block (a := ⟨b, off + k, none⟩) (CJ.out.block b (World.block_lt_of_cell? w7 _ kc7) (.inl (by have := HBB.out; have := HBN.out; omega)))).trans kc7
                have HOJ := hid (show LS wj (bn + 2) wj.heap.size f u10 O from own_blk ((Own.eqv OW.out (Eqv.of HB7.out (Nat.le_refl _))).wide (Nat.le_refl _) (Nat.le_trans HZ7.out CJ.out.size)) (fun a ha => CJ.out.block a (by have := own_at OW.out ha; have := HZ7.out; omega) (.inr (by have := own_at OW.out ha; omega))))
                have HDJ := hid DJ.out
                rw [List.take_length] at HDJ
                have HHJ : Hid (bn + 2 ≤ wj.heap.size) := hid (by have := HFJ.out.size; have := HFJ.out.hH; omega)
                have HO1 := hid (show O.length + 1 ≤ 9223372036854775807 by have := MW.out.2.2.2.2; omega)
                have HO2 := hid (show (O.length + 1) * 24 ≤ 140737488355328 by have := MW.out.2.2.2.2; omega)
                have hkb : (k : Int) < 1048576 := by have := MW.out.2.2.2.1; have := HKL.out; omega
                have hk1 : (k : Int) + 1 ≤ (L.length : Int) := by have := HKL.out; omega
                clear DJ CJ kc7 hjl hgj hj
                go_wp2_with (first
                  | (at_builtin; go_loud (refine wp_append1k (bn + 2) wj.heap.size rfl rfl _ _ 27 28 (.slice none 0 0) 24 rfl Tryz.underlying27 infoRow rfl u10 O.length _ (.slice Au u.length cu) rfl rfl rfl HOJ.out HHJ.out HO1.out HO2.out ?_; intro v8 w8 hown8 hbel8; rw [← HEU.out] at hown8; have HO8 := hid (LS.snoc hown8); have HF8 := hid (HFJ.out.belowH hbel8); have HD8 := hid (HDJ.out.keep (hbel8.block (bn + 1) (by omega))); have HL8 := hid (show LS w8 (w.heap.size + 1) lb f (.slice (some ⟨b, off, none⟩) L.length c6) L from own_blk HLJ.out (fun a ha => hbel8.block a (by have := own_at HLJ.out ha; have := HBN.out; omega))); clear hown8 hbel8))
                  | (go_at_call 140; go_loud (refine (g_DeleteU w8 _ _ _ R f L k HKL.out MW.out.2.2.2.1 MW.out.1 HL8.out (HUE.out.at_ HF8.out).1).mono ?_; rintro e w9 ⟨v9, rfl, hl9, hb9, hg9⟩; have HL9 := hid hl9; have HB9 := hid (hb9.trans LB.out); rw [LB.out] at hg9; have HF9 := hid (HF8.out.grown hg9); have HD9 := hid (HD8.out.keep (hg9.block (bn + 1) HD8.out.lt (fun q => by have := HUE.out.b6lt (bn + 1) q.symm; have := HBN.out; omega))); have HO9 := hid (show LS w9 (bn + 2) w9.heap.size f v8 (O ++ [x]) from (own_blk HO8.out (fun a ha => hg9.block a (own_at HO8.out ha).2.2 (fun q => by have := HUE.out.b6lt a q.symm; have := HBN.out; have := own_at HO8.out ha; omega))).wide (Nat.le_refl _) hg9.size); clear hl9 hb9 hg9)))
                have HLE : Hid ((L.eraseIdx k).length + 1 = L.length) := hid (by rw [List.length_eraseIdx, if_pos HKL.out]; have := HKL.out; omega)
                go_roundg (L.eraseIdx k).length
                case measure => have := HLG.out; have := HLE.out; go_light; omega
                case rel =>
                  refine ⟨L.eraseIdx k, O ++ [x], D ++ u, Nat.le_refl _, HL9.out, HB9.out, HO9.out, small_app HDs.out HUx.out.1.small, HD9.out, HF9.out, ⟨fun y hy => MW.out.1 y (List.mem_of_mem_eraseIdx hy), fun y hy => ?_, HND.out, by have := HLE.out; have := MW.out.2.2.2.1; omega, by have := HLE.out; have := MW.out.2.2.2.2; simp; omega⟩, HST.out⟩
                  rcases List.mem_append.1 hy with q | q
                  · exact MW.out.2.1 y q
                  · rw [List.mem_singleton.1 q]; exact HX.out
end Go.Proofs.YtmpdaafkphpnoaaGreat
