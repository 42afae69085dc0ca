import Derived.Test.YtcknhjeefdbhbaaLp
import Derived.Test.YtcknhjeefdbhbaaPrs2
import Derived.Test.YtcknhjeefdbhbaaLst3
import Derived.Test.YtcknhjeefdbhbaaClone
import Derived.Test.YtcknhjeefdbhbaaState
set_option linter.unusedVariables false
set_option linter.unusedSimpArgs false
namespace Go.Proofs.Ytcknhjeefdbhbaa
open Go.RowKit

/-- The boxes of LeastPressure: the tasks at B, the best order at w.heap.size, the least pressure behind it. -/
structure LPs (w : World) (B : Nat) (ts : List TaskV) (A' : Option Addr) (c' : Nat) (acc : List Int × Int) (W : World) : Prop where
  below : Below w.heap.size w W
  lt : B < w.heap.size
  tasks : W.heap[B]? = some (.cells #[.slice A' ts.length c'] 62)
  best : ∃ v, W.heap[w.heap.size]? = some (.cells #[v] 25) ∧ OI W (w.heap.size + 2) W.heap.size v acc.1
  least : W.heap[w.heap.size + 1]? = some (.cells #[.int .i64 acc.2] 2)
  size : w.heap.size + 2 ≤ W.heap.size
theorem LPs.later {w W W' : World} {B : Nat} {ts : List TaskV} {A' : Option Addr} {c' : Nat} {acc : List Int × Int} (h : LPs w B ts A' c' acc W) (hb : Below W.heap.size W W') : LPs w B ts A' c' acc W' := by
  have hs := h.size
  have hB := h.lt
  have hz := hb.size
  obtain ⟨v, h1, h2⟩ := h.best
  exact ⟨bthen h.below hb, h.lt, (hb.block _ (by omega)).trans h.tasks, ⟨v, (hb.block _ (by omega)).trans h1, Own.wide (OI.eqv h2 (Eqv.of hb (Nat.le_refl _))) (Nat.le_refl _) hz⟩, (hb.block _ (by omega)).trans h.least, by omega⟩
theorem LPs.put {w W : World} {B : Nat} {ts : List TaskV} {A' : Option Addr} {c' : Nat} {acc : List Int × Int} (h : LPs w B ts A' c' acc W) {v : Value} {xs : List Int} (hv : OI W (w.heap.size + 2) W.heap.size v xs) (p : Int) :
    LPs w B ts A' c' (xs, p) ((W.setCell ⟨w.heap.size, 0, none⟩ v).setCell ⟨w.heap.size + 1, 0, none⟩ (.int .i64 p)) ∧ Chg (w.heap.size) (w.heap.size + 2) W ((W.setCell ⟨w.heap.size, 0, none⟩ v).setCell ⟨w.heap.size + 1, 0, none⟩ (.int .i64 p)) := by
  have hs := h.size
  have hB := h.lt
  have hc : Chg (w.heap.size) (w.heap.size + 2) W ((W.setCell ⟨w.heap.size, 0, none⟩ v).setCell ⟨w.heap.size + 1, 0, none⟩ (.int .i64 p)) :=
    (chg_set W (g := w.heap.size) (by omega) (by omega) 0 v).trans (chg_set _ (g := w.heap.size + 1) (by omega) (by omega) 0 _)
  obtain ⟨v0, h1, _⟩ := h.best
  have e1 := heap_setCell_same W (w.heap.size) 0 _ _ v h1
  have e1' : ((W.setCell ⟨w.heap.size, 0, none⟩ v).setCell ⟨w.heap.size + 1, 0, none⟩ (.int .i64 p)).heap[w.heap.size]? = some (.cells #[v] 25) := (heap_setCell_other _ _ _ _ (by show w.heap.size ≠ w.heap.size + 1; omega)).trans e1
  have e2 : (W.setCell ⟨w.heap.size, 0, none⟩ v).heap[w.heap.size + 1]? = some (.cells #[.int .i64 acc.2] 2) := (heap_setCell_other _ _ _ _ (by show w.heap.size + 1 ≠ w.heap.size; omega)).trans h.least
  have e2' := heap_setCell_same _ (w.heap.size + 1) 0 _ _ (.int .i64 p) e2
  have hz : ((W.setCell ⟨w.heap.size, 0, none⟩ v).setCell ⟨w.heap.size + 1, 0, none⟩ (.int .i64 p)).heap.size = W.heap.size := by simp [World.setCell]
  refine ⟨⟨h.below.trans (hc.below (by omega) (by omega)), h.lt, (hc.block _ (by omega) (.inl (by omega))).trans h.tasks, ⟨v, e1', ?_⟩, e2', by omega⟩, hc⟩
  rw [hz]
  exact OI.eqv hv (hc.eqv (.inr (Nat.le_refl _)) (Nat.le_refl _))
set_option maxRecDepth 100000 in
set_option maxHeartbeats 1000000 in
theorem i_LP1 (w : World) (B : Nat) (ts : List TaskV) (A' : Option Addr) (c' : Nat) (hO : TOk ts) (hT : RdT w A' ts) (W : World) (acc : List Int × Int) (hS : LPs w B ts A' c' acc W) (A : Option Addr) (c : Nat) (xs : List Int) (hp : plcB ts xs = true)
    (hv : OI W (w.heap.size + 2) W.heap.size (.slice A xs.length c) xs) :
    Calls Try.prog 120 #[.slice A xs.length c, .pointer (some ⟨B, 0, none⟩), .pointer (some ⟨w.heap.size + 1, 0, none⟩), .pointer (some ⟨w.heap.size, 0, none⟩)] W fun e W' =>
      e = .returned (.tuple #[]) ∧ Chg (w.heap.size) (w.heap.size + 2) W W' ∧ LPs w B ts A' c' (upB ts acc xs) W' := by
  obtain ⟨_, hlen⟩ := m_places_yes hp
  have hfew := hO.few
  have c0 := i_pressure W A' A c' c ts xs hO hp (by omega) (hT.below hS.below) (OwnI.rd hv)
  have hU : upB ts acc xs = if acc.2 < 0 ∨ prsI ts xs xs.length < acc.2 then (xs, prsI ts xs xs.length) else acc := by rw [hlen]; rfl
  have d0 : W.cell? ⟨B, 0, none⟩ = some (.slice A' ts.length c') := by rw [cell_of_row _ _ _ _ _ _ hS.tasks]; rfl
  have C0 := hid c0
  have HS := hid hS
  have HV := hid hv
  have HU := hid hU
  have HL := hid hlen
  clear c0 hS hv hU hlen hp hO hT
  generalize prsI ts xs xs.length = p at *
  generalize upB ts acc xs = acc2 at *
  generalize hq : xs.length = q at *
  by_cases h1 : acc.2 < 0 ∨ p < acc.2
  · have HU2 : Hid ((xs, p) = acc2) := hid (by rw [HU.out, if_pos h1])
    clear HU
    by_cases h2 : acc.2 < 0
    · clear h1
      go_enter Try.func120, Try.ntmps120
      go_wp2_with fail
      refine C0.out.mono ?_
      rintro e W1 ⟨rfl, hb1⟩
      have S1 := HS.out.later hb1
      obtain ⟨v0, hb, _⟩ := S1.best
      have k1 : W1.frozen? ⟨w.heap.size, 0, none⟩ = false := frozen_of_row _ _ _ _ _ hb
      have k1c : W1.cell? ⟨w.heap.size, 0, none⟩ = some v0 := by rw [cell_of_row _ _ _ _ _ _ hb]; rfl
      have k2 : W1.frozen? ⟨w.heap.size + 1, 0, none⟩ = false := frozen_of_row _ _ _ _ _ S1.least
      have k2c : W1.cell? ⟨w.heap.size + 1, 0, none⟩ = some (.int .i64 acc.2) := by rw [cell_of_row _ _ _ _ _ _ S1.least]; rfl
      have hput := S1.put (Own.wide (OI.eqv HV.out (Eqv.of hb1 (Nat.le_refl _))) (Nat.le_refl _) hb1.size) p
      have HR : Hid (Chg (w.heap.size) (w.heap.size + 2) W ((W1.setCell ⟨w.heap.size, 0, none⟩ (.slice A q c)).setCell ⟨w.heap.size + 1, 0, none⟩ (.int .i64 p)) ∧ LPs w B ts A' c' acc2 ((W1.setCell ⟨w.heap.size, 0, none⟩ (.slice A q c)).setCell ⟨w.heap.size + 1, 0, none⟩ (.int .i64 p))) :=
        hid ⟨(Chg.of hb1 (Nat.le_refl _)).trans hput.2, HU2.out ▸ hput.1⟩
      clear S1 hb hput hb1 HS HV HU2 d0 C0
      go_wp2
      go_end0
      exact ⟨rfl, HR.out⟩
    · have h2' : decide (acc.2 < 0) = false := by simpa using h2
      have h3 : p < acc.2 := by omega
      clear h1 h2
      go_enter Try.func120, Try.ntmps120
      go_wp2_with fail
      refine C0.out.mono ?_
      rintro e W1 ⟨rfl, hb1⟩
      have S1 := HS.out.later hb1
      obtain ⟨v0, hb, _⟩ := S1.best
      have k1 : W1.frozen? ⟨w.heap.size, 0, none⟩ = false := frozen_of_row _ _ _ _ _ hb
      have k1c : W1.cell? ⟨w.heap.size, 0, none⟩ = some v0 := by rw [cell_of_row _ _ _ _ _ _ hb]; rfl
      have k2 : W1.frozen? ⟨w.heap.size + 1, 0, none⟩ = false := frozen_of_row _ _ _ _ _ S1.least
      have k2c : W1.cell? ⟨w.heap.size + 1, 0, none⟩ = some (.int .i64 acc.2) := by rw [cell_of_row _ _ _ _ _ _ S1.least]; rfl
      have hput := S1.put (Own.wide (OI.eqv HV.out (Eqv.of hb1 (Nat.le_refl _))) (Nat.le_refl _) hb1.size) p
      have HR : Hid (Chg (w.heap.size) (w.heap.size + 2) W ((W1.setCell ⟨w.heap.size, 0, none⟩ (.slice A q c)).setCell ⟨w.heap.size + 1, 0, none⟩ (.int .i64 p)) ∧ LPs w B ts A' c' acc2 ((W1.setCell ⟨w.heap.size, 0, none⟩ (.slice A q c)).setCell ⟨w.heap.size + 1, 0, none⟩ (.int .i64 p))) :=
        hid ⟨(Chg.of hb1 (Nat.le_refl _)).trans hput.2, HU2.out ▸ hput.1⟩
      clear S1 hb hput hb1 HS HV HU2 d0 C0
      go_wp2
      go_end0
      exact ⟨rfl, HR.out⟩
  · have h2' : decide (acc.2 < 0) = false := by simp; omega
    have h3 : ¬ p < acc.2 := by omega
    have HU2 : Hid (acc = acc2) := hid (by rw [HU.out, if_neg h1])
    clear HU h1
    go_enter Try.func120, Try.ntmps120
    go_wp2_with fail
    refine C0.out.mono ?_
    rintro e W1 ⟨rfl, hb1⟩
    have S1 := HS.out.later hb1
    have k2c : W1.cell? ⟨w.heap.size + 1, 0, none⟩ = some (.int .i64 acc.2) := by rw [cell_of_row _ _ _ _ _ _ S1.least]; rfl
    have HR : Hid (Chg (w.heap.size) (w.heap.size + 2) W W1 ∧ LPs w B ts A' c' acc2 W1) := hid ⟨Chg.of hb1 (Nat.le_refl _), HU2.out ▸ S1⟩
    clear S1 hb1 HS HV HU2 d0 C0
    go_wp2
    go_end0
    exact ⟨rfl, HR.out⟩
theorem has_fst (xs : List Int) (v : Int) : decide (0 ≤ fst xs v) = hasB xs v := by
  rw [Bool.eq_iff_iff, decide_eq_true_eq, hasB_iff]
  have := @fst_neg xs v
  constructor
  · intro h; apply Classical.byContradiction; intro h2; have := this.2 h2; omega
  · intro h; apply Classical.byContradiction; intro h2; exact this.1 (by omega) h
theorem ordI_step {ts : List TaskV} (nx : List Int → List (List Int)) (p : List Int) {i : Nat} (hi : i < ts.length) : ordI ts nx p (ts.length - i) = (if rdyO ts p i then nx (p ++ [(i : Int)]) else []) ++ ordI ts nx p (ts.length - (i + 1)) := by
  rw [show ts.length - i = ts.length - (i + 1) + 1 from by omega]
  simp only [ordI]
  rw [show ts.length - (ts.length - (i + 1) + 1) = i from by omega]
theorem g_ContainsB (w : World) (A : Option Addr) (c : Nat) (xs : List Int) (v : Int) (hl : xs.length ≤ 9223372036854775807) (hR : RdI w A xs) :
    Calls Try.prog 191 #[.slice A xs.length c, .int .i64 v] w fun e w' => e = .returned (.bool (hasB xs v)) ∧ w = w' := by
  rw [← has_fst]; exact g_Contains w A c xs v hl hR
theorem i_orders1 (W : World) (D : Nat) (A : Option Addr) (c : Nat) (xs : List Int) (k : Int) (hl : xs.length ≤ 1048576) (h0 : W.cell? ⟨D, 0, none⟩ = some (.slice A xs.length c)) (hR : RdI W A xs) :
    Calls Try.prog 192 #[.int .i64 k, .pointer (some ⟨D, 0, none⟩)] W fun e w' => e = .returned (.bool (hasB xs k)) ∧ Below W.heap.size W w' := by
  have hc := g_ContainsB W A c xs k (by omega) hR
  clear hR
  generalize hasB xs k = r at *
  go_enter Try.func192, Try.ntmps192
  go_wp2_with fail
  refine hc.mono ?_
  rintro e w' ⟨rfl, rfl⟩
  go_wp2_with fail
  go_ret
  exact ⟨rfl, Below.refl _ _⟩
abbrev lpF (B E : Nat) : Value := .func (.func 120) #[] #[.pointer (some ⟨B, 0, none⟩), .pointer (some ⟨E + 1, 0, none⟩), .pointer (some ⟨E, 0, none⟩)]
set_option maxRecDepth 100000 in
set_option maxHeartbeats 1000000 in
theorem i_orders (w : World) (B : Nat) (ts : List TaskV) (A' : Option Addr) (c' : Nat) (hO : TOk ts) (hT : RdT w A' ts) : ∀ (d : Nat) (p : List Int) (W : World) (acc : List Int × Int) (A : Option Addr) (c : Nat), p.length + d = ts.length →
    OI W (w.heap.size + 2) W.heap.size (.slice A p.length c) p → LPs w B ts A' c' acc W → (∀ o ∈ ordD ts d p, plcB ts o = true) →
    Calls Try.prog 119 #[.slice A' ts.length c', .slice A p.length c, lpF B w.heap.size] W fun e W' =>
      e = .returned (.tuple #[]) ∧ Chg (w.heap.size) (w.heap.size + 2) W W' ∧ LPs w B ts A' c' ((ordD ts d p).foldl (upB ts) acc) W' := by
  have hfew := hO.few
  have eg : Ent Try.prog 120 := enters_of Try.func120 (by kernel_rfl) rfl
  intro d
  induction d with
  | zero =>
    intro p W acc A c hpd hv hS hall
    have hpl : p.length = ts.length := by omega
    have hb0 := ballocw W (.cells #[.slice A p.length c] 25)
    have hz := hb0.size
    have hcall := i_LP1 w B ts A' c' hO hT (W.alloc (.cells #[.slice A p.length c] 25)) acc (hS.later hb0) A c p (hall p (by simp [ordD])) (Own.wide (OI.eqv hv (Eqv.of hb0 (Nat.le_refl _))) (Nat.le_refl _) hz)
    have HC := hid hcall
    have HF : Hid ((ordD ts 0 p).foldl (upB ts) acc = upB ts acc p) := hid rfl
    have HB0 := hid hb0
    have he : ((p.length : Int) == (ts.length : Int)) = true := by simp [hpl]
    clear hcall hv hS hall hpl hb0 hT hO hpd hz
    rw [HF.out]
    generalize p.length = q at *
    go_enter Try.func119, Try.ntmps119
    go_wp2_with fail
    refine HC.out.mono ?_
    rintro e W1 ⟨rfl, hc1, hs1⟩
    go_wp2_with fail
    refine bodyPost_ret (results_none rfl _ _ _) rfl ?_
    exact ⟨rfl, (Chg.of HB0.out (Nat.le_refl _)).trans hc1, hs1⟩
  | succ d ih =>
    intro p W acc A c hpd hv hS hall
    have hb0 := ballocw W (.cells #[.slice A p.length c] 25)
    have hz0 : (W.alloc (.cells #[.slice A p.length c] 25)).heap.size = W.heap.size + 1 := by simp
    have HS0 := hid (hS.later hb0)
    have HV0 := hid (OI.eqv hv (Eqv.of hb0 (Nat.le_refl _)))
    have HBX := hid (box_at W #[.slice A p.length c] 25)
    have hS3 := hS.size
    have HB0 := hid hb0
    have HO := hid hO
    have HT := hid hT
    have IH := hid ih
    have HPD := hid hpd
    have HALL : Hid (∀ i, i < ts.length → rdyO ts p i = true → ∀ o ∈ ordD ts d (p ++ [(i : Int)]), plcB ts o = true) := hid fun i hi hr o ho => hall o (by
      simp only [ordD]; exact (ordI_spec (Nat.le_refl _)).2 ⟨i, by omega, hi, hr, ho⟩)
    have HF : Hid ((ordD ts (d + 1) p).foldl (upB ts) acc = (ordI ts (ordD ts d) p (ts.length - 0)).foldl (upB ts) acc) := hid rfl
    have hpl : p.length ≤ 7 := by omega
    have he : ((p.length : Int) == (ts.length : Int)) = false := by simp; omega
    clear hb0 hv hS hall hT hO ih hpd
    generalize (ordD ts (d + 1) p).foldl (upB ts) acc = F at *
    have HW0 := hid hz0
    clear hz0
    generalize hV : W.alloc (.cells #[.slice A p.length c] 25) = V at *
    have HVV := hid hV
    clear hV
    go_enter Try.func119, Try.ntmps119
    go_wp2_with fail
    rw [HVV.out]
    clear HVV
    go_loopg [18] ts.length (fun gg s wr => ∃ i : Nat, i ≤ ts.length ∧ ts.length - i ≤ gg ∧ s = .int .i64 i ∧ Aside (Chg (w.heap.size) (w.heap.size + 2) V wr) ∧ Aside (∃ a, LPs w B ts A' c' a wr ∧ (ordI ts (ordD ts d) p (ts.length - i)).foldl (upB ts) a = F))
    case atStart => exact ⟨0, Nat.zero_le _, by omega, rfl, Chg.refl _ _ _, acc, HS0.out, HF.out.symm⟩
    case round =>
      obtain ⟨i, hi, hg, rfl, BW, AL⟩ := hrel
      obtain ⟨a, hLS, hfold⟩ := AL.out
      by_cases hlt : i < ts.length
      · have hlt' : (i : Int) < (ts.length : Int) := by omega
        have hstep := ordI_step (ts := ts) (ordD ts d) p hlt
        obtain ⟨bt, offt, An, cn, rfl, p0, p1, p2, _, hrn⟩ := (HT.out.below hLS.below).get hlt
        have hwz := BW.out.size
        have hW0 := HW0.out
        have hbx : wr.heap[W.heap.size]? = some (.cells #[.slice A p.length c] 25) := (BW.out.block _ (by omega) (.inr (by omega))).trans HBX.out
        have hov : OI wr (w.heap.size + 2) W.heap.size (.slice A p.length c) p := OI.eqv HV0.out (BW.out.eqv (.inr (Nat.le_refl _)) (by omega))
        have hbt : Below wr.heap.size wr (wr.alloc (.cells #[.int .i64 (tel ts i).port, .int .i64 (tel ts i).lat, .slice An (tel ts i).needs.length cn] 132)) := ballocw wr _
        have k2 : (wr.alloc (.cells #[.int .i64 (tel ts i).port, .int .i64 (tel ts i).lat, .slice An (tel ts i).needs.length cn] 132)).cell? ⟨wr.heap.size, 2, none⟩ = some (.slice An (tel ts i).needs.length cn) := by simp
        have kb0 : wr.cell? ⟨W.heap.size, 0, none⟩ = some (.slice A p.length c) := by rw [cell_of_row _ _ _ _ _ _ hbx]; rfl
        have kb := bcell hbt kb0
        have CC := hid (fun W5 (hW : Below wr.heap.size wr W5) => g_ContainsB W5 A c p (i : Int) (by omega) ((OwnI.rd hov).below hW))
        have CA := hid (fun W5 (hW : Below wr.heap.size wr W5) => areAllI W5 An (tel ts i).needs.length cn (fun j => .int .i64 (el (tel ts i).needs j)) 192 #[.pointer (some ⟨W.heap.size, 0, none⟩)] (fun j => hasB p (el (tel ts i).needs j)) (by have := HO.out.len i hlt; omega) (hrn.below hW)
          (enters_of Try.func192 (by kernel_rfl) rfl) (fun W6 hW6 j hj => i_orders1 W6 W.heap.size A c p (el (tel ts i).needs j) (by omega) (bcell hW6 (bcell hW kb0)) (((OwnI.rd hov).below hW).below hW6)))
        rw [allN_ints (tel ts i).needs (fun k => hasB p k)] at CA
        have CCl := hid (fun W5 (hW : Below wr.heap.size wr W5) => g_Clone W5 A c p (by omega) ((OwnI.rd hov).below hW))
        have HRY : Hid (rdyO ts p i = (!hasB p (i : Int) && (tel ts i).needs.all (fun k => hasB p k))) := hid rfl
        have HALLi := hid (HALL.out i hlt)
        have HST := hid hstep
        have HFO := hid hfold
        have HLS := hid hLS
        have HBT := hid hbt
        have HKB := hid kb0
        have hLz := hLS.size
        clear hstep hfold hLS hbt hrn hov hbx kb0 HT HO HALL HF HS0 HV0 HBX AL
        generalize (tel ts i).port = pp at *
        generalize (tel ts i).lat = ll at *
        generalize (tel ts i).needs.length = nn at *
        generalize (tel ts i).needs.all (fun k => hasB p k) = na at *
        cases hh : hasB p (i : Int) with
        | true =>
          rw [hh] at CC HRY
          have HG : Hid (∃ a, LPs w B ts (some ⟨bt, offt, none⟩) c' a (wr.alloc (.cells #[.int .i64 pp, .int .i64 ll, .slice An nn cn] 132)) ∧ (ordI ts (ordD ts d) p (ts.length - (i + 1))).foldl (upB ts) a = F) := hid ⟨a, HLS.out.later HBT.out, by rw [← HFO.out, HST.out, if_neg (by rw [HRY.out]; simp)]; rfl⟩
          have BW2 : Aside (Chg (w.heap.size) (w.heap.size + 2) V (wr.alloc (.cells #[.int .i64 pp, .int .i64 ll, .slice An nn cn] 132))) := BW.out.trans (Chg.of HBT.out (Nat.le_refl _))
          clear HRY hh HST HFO HLS HALLi IH CA CCl BW
          generalize p.length = q at *
          go_wp2_with fail
          refine (CC.out _ HBT.out).mono ?_
          rintro e w5 ⟨rfl, rfl⟩
          go_wp2_with fail
          go_roundg (ts.length - (i + 1))
          case measure => omega
          case rel => exact ⟨i + 1, by omega, by omega, by go_num, BW2, HG.out⟩
        | false =>
          rw [hh] at CC HRY
          cases na with
          | false =>
            have HR0 : Hid (rdyO ts p i = false) := hid (by rw [HRY.out]; rfl)
            clear HRY hh HALLi IH CCl
            generalize hq : p.length = q at *
            go_wp2_with fail
            refine (CC.out _ HBT.out).mono ?_
            rintro e w5 ⟨rfl, rfl⟩
            go_wp2_with fail
            refine (CA.out _ HBT.out).mono ?_
            rintro e w6 ⟨rfl, hb6⟩
            have hb6' := bthen HBT.out hb6
            have HG : Hid (∃ a, LPs w B ts (some ⟨bt, offt, none⟩) c' a w6 ∧ (ordI ts (ordD ts d) p (ts.length - (i + 1))).foldl (upB ts) a = F) := hid ⟨a, HLS.out.later hb6', by rw [← HFO.out, HST.out, if_neg (by rw [HR0.out]; simp)]; rfl⟩
            have BW2 : Aside (Chg (w.heap.size) (w.heap.size + 2) V w6) := BW.out.trans (Chg.of hb6' (Nat.le_refl _))
            clear HST HFO HLS CA CC BW hb6 hb6' HR0
            go_wp2_with fail
            go_roundg (ts.length - (i + 1))
            case measure => omega
            case rel => exact ⟨i + 1, by omega, by omega, by go_num, BW2, HG.out⟩
          | true =>
            have HR0 : Hid (rdyO ts p i = true) := hid (by rw [HRY.out]; rfl)
            have HAi := hid (HALLi.out HR0.out)
            clear HRY hh HALLi
            have HPL : Hid (p.length = p.length) := hid rfl
            go_wp2_with fail
            refine (CC.out _ HBT.out).mono ?_
            rintro e w5 ⟨rfl, rfl⟩
            go_wp2_with fail
            refine (CA.out _ HBT.out).mono ?_
            rintro e w6 ⟨rfl, hb6⟩
            have hb6' := bthen HBT.out hb6
            have kb6 := bcell hb6' HKB.out
            have HB6 := hid hb6'
            clear hb6 hb6' CA CC k2 kb
            go_wp2_with fail
            refine (CCl.out _ HB6.out).mono ?_
            rintro e w7 ⟨v7, rfl, ho7, hb7⟩
            obtain ⟨A7, c7, rfl, _, _, _⟩ := Own.int ho7
            have hsz7 := hb7.size
            have hsz6 := HB6.out.size
            clear CCl kb6
            go_wp2_with ((at_builtin; refine wp_append1 w6.heap.size rfl _ _ 25 2 (.int .i64 0) 8 rfl Try.underlying25 infoInt rfl (.slice A7 p.length c7) p.length _ (.int .i64 (i : Nat)) rfl rfl rfl ho7 hsz7 (by omega) (by omega) ?_; intro v8 w8 hown8 hbel8))
            have hown8' : OwnI w8 w6.heap.size w8.heap.size 2 v8 (p ++ [(i : Int)]) := by
              unfold OwnI; rw [List.length_append, List.length_singleton, ints_append]; exact hown8
            obtain ⟨A8, c8, rfl, _, _, _⟩ := Own.int hown8'
            have hb8 : Below wr.heap.size wr w8 := (bthen HB6.out hb7).trans (hbel8.mono (by omega))
            have hrec := IH.out (p ++ [(i : Int)]) w8 a A8 c8 (by rw [List.length_append, List.length_singleton]; have := HPD.out; omega) (Own.wide hown8' (by omega) (Nat.le_refl _)) (HLS.out.later hb8) HAi.out
            have HREC := hid hrec
            have HQ : Hid (∀ w9, LPs w B ts (some ⟨bt, offt, none⟩) c' ((ordD ts d (p ++ [(i : Int)])).foldl (upB ts) a) w9 → ∃ a, LPs w B ts (some ⟨bt, offt, none⟩) c' a w9 ∧ (ordI ts (ordD ts d) p (ts.length - (i + 1))).foldl (upB ts) a = F) := hid fun w9 h9 => ⟨_, h9, by rw [← HFO.out, HST.out, if_pos HR0.out, List.foldl_append]⟩
            have BW8 := hid (BW.out.trans (Chg.of hb8 (Nat.le_refl _)))
            clear hrec hown8 hown8' hbel8 hb8 ho7 hb7 HFO HST HR0 HLS HAi IH BW HBT HB6
            generalize (p ++ [(i : Int)]).length = q8 at *
            go_wp2_with fail
            refine HREC.out.mono ?_
            rintro e w9 ⟨rfl, hc9, hl9⟩
            have BW9 : Aside (Chg (w.heap.size) (w.heap.size + 2) V w9) := BW8.out.trans hc9
            have HG := hid (HQ.out w9 hl9)
            clear hl9 hc9 HQ BW8 HREC
            go_wp2_with fail
            go_roundg (ts.length - (i + 1))
            case measure => omega
            case rel => exact ⟨i + 1, by omega, by omega, by go_num, BW9, HG.out⟩
      · have : i = ts.length := by omega
        subst this
        have hfin : a.1 = a.1 := rfl
        rw [Nat.sub_self] at hfold
        have HR : Hid (Chg (w.heap.size) (w.heap.size + 2) W wr ∧ LPs w B ts A' c' F wr) := hid ⟨(Chg.of HB0.out (Nat.le_refl _)).trans BW.out, by rw [← hfold]; exact hLS⟩
        clear hfold hLS AL BW HALL HF HS0 HV0 HBX IH
        go_wp2
        go_end0
        exact ⟨rfl, HR.out⟩
end Go.Proofs.Ytcknhjeefdbhbaa
