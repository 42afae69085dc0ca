import Derived.Test.YtjcpjmijhloimaaHts5
set_option linter.unusedVariables false
set_option linter.unusedSimpArgs false
namespace Go.Proofs.Ytjcpjmijhloimaa
open Go.RowKit

/-! ### The bound of the ports: the plain functions -/
def pcnt (ts : List TaskV) (p : Int) : Nat → Int
  | 0 => 0
  | k + 1 => if (tel ts k).port = p then pcnt ts p k + 1 else pcnt ts p k
def plst (ts : List TaskV) (p : Int) : Nat → Int
  | 0 => 6
  | k + 1 => if (tel ts k).port = p then min (plst ts p k) (tel ts k).lat else plst ts p k
def plea (ts : List TaskV) (p : Int) (k : Nat) : Int := if pcnt ts p k = 0 then 0 else plst ts p k
def pbN (ts : List TaskV) : Nat → Int
  | 0 => 0
  | p + 1 => if 0 < pcnt ts p ts.length then max (pbN ts p) (pcnt ts p ts.length + plst ts p ts.length - 1) else pbN ts p
def m_PortBound (ts : List TaskV) : Int × Bool := if tasksB ts then (pbN ts 3, true) else (0, false)
theorem pcnt_bnd (ts : List TaskV) (p : Int) (k : Nat) : 0 ≤ pcnt ts p k ∧ pcnt ts p k ≤ k := by
  induction k with
  | zero => simp [pcnt]
  | succ k ih => simp only [pcnt]; split <;> omega
theorem plst_bnd {ts : List TaskV} (hO : TOk ts) (p : Int) (k : Nat) (hk : k ≤ ts.length) : 1 ≤ plst ts p k ∧ plst ts p k ≤ 6 := by
  induction k with
  | zero => simp [plst]
  | succ k ih => have := hO.lat k (by omega); have := ih (by omega); simp only [plst]; split <;> omega
theorem plst_none {ts : List TaskV} (p : Int) (k : Nat) (h : pcnt ts p k = 0) : plst ts p k = 6 := by
  induction k with
  | zero => rfl
  | succ k ih =>
    have := pcnt_bnd ts p k
    simp only [pcnt, plst] at h ⊢
    split at h
    · omega
    · rename_i e; rw [if_neg e]; exact ih h
def v3 (f : Int → Int) : List Int := [f 0, f 1, f 2]
theorem v3_el (f : Int → Int) {q : Nat} (h : q < 3) : el (v3 f) q = f q := by
  rcases (show q = 0 ∨ q = 1 ∨ q = 2 by omega) with rfl | rfl | rfl <;> rfl
theorem v3_set (f g : Int → Int) {q : Nat} (h : q < 3) (x : Int) (hx : g q = x) (ho : ∀ p : Nat, p < 3 → p ≠ q → g p = f p) : (v3 f).set q x = v3 g := by
  rcases (show q = 0 ∨ q = 1 ∨ q = 2 by omega) with rfl | rfl | rfl <;> subst hx
  · have h1 := ho 1 (by omega) (by omega); have h2 := ho 2 (by omega) (by omega); simp [v3] at *; simp [h1, h2]
  · have h1 := ho 0 (by omega) (by omega); have h2 := ho 2 (by omega) (by omega); simp [v3] at *; simp [h1, h2]
  · have h1 := ho 0 (by omega) (by omega); have h2 := ho 1 (by omega) (by omega); simp [v3] at *; simp [h1, h2]
theorem pcnt_in {ts : List TaskV} {k : Nat} {p : Int} (h : (tel ts k).port = p) : pcnt ts p (k + 1) = pcnt ts p k + 1 := by simp only [pcnt]; rw [if_pos h]
theorem pcnt_out {ts : List TaskV} {k : Nat} {p : Int} (h : (tel ts k).port ≠ p) : pcnt ts p (k + 1) = pcnt ts p k := by simp only [pcnt]; rw [if_neg h]
theorem plst_in {ts : List TaskV} {k : Nat} {p : Int} (h : (tel ts k).port = p) : plst ts p (k + 1) = min (plst ts p k) (tel ts k).lat := by simp only [plst]; rw [if_pos h]
theorem plst_out {ts : List TaskV} {k : Nat} {p : Int} (h : (tel ts k).port ≠ p) : plst ts p (k + 1) = plst ts p k := by simp only [plst]; rw [if_neg h]
theorem plea_in {ts : List TaskV} {k : Nat} {p : Int} (h : (tel ts k).port = p) : plea ts p (k + 1) = min (plst ts p k) (tel ts k).lat := by
  have := pcnt_bnd ts p k
  unfold plea; rw [pcnt_in h, plst_in h, if_neg (by omega)]
theorem plea_out {ts : List TaskV} {k : Nat} {p : Int} (h : (tel ts k).port ≠ p) : plea ts p (k + 1) = plea ts p k := by unfold plea; rw [pcnt_out h, plst_out h]
theorem pcnt_set {ts : List TaskV} {k q : Nat} (h : q < 3) (hp : (tel ts k).port = q) : (v3 fun p => pcnt ts p k).set q (pcnt ts q k + 1) = v3 fun p => pcnt ts p (k + 1) :=
  v3_set _ _ h _ (pcnt_in hp) fun p _ hn => pcnt_out (by rw [hp]; omega)
theorem plea_set {ts : List TaskV} (hO : TOk ts) {k q : Nat} (hk : k < ts.length) (h : q < 3) (hp : (tel ts k).port = q) (hc : pcnt ts q k = 0 ∨ (tel ts k).lat < plea ts q k) : (v3 fun p => plea ts p k).set q (tel ts k).lat = v3 fun p => plea ts p (k + 1) :=
  v3_set _ _ h _ (by
    have := hO.lat k hk
    rw [plea_in hp]
    unfold plea at hc
    by_cases e : pcnt ts q k = 0
    · rw [plst_none _ _ e]; omega
    · rw [if_neg e] at hc; omega) fun p _ hn => plea_out (by rw [hp]; omega)
theorem plea_keep {ts : List TaskV} {k q : Nat} (h : q < 3) (hp : (tel ts k).port = q) (hc : ¬ (pcnt ts q k = 0 ∨ (tel ts k).lat < plea ts q k)) : (v3 fun p => plea ts p k) = v3 fun p => plea ts p (k + 1) := by
  rw [← v3_set (fun p => plea ts p k) (fun p => plea ts p (k + 1)) h (plea ts q k) ?_ ?_]
  · rcases (show q = 0 ∨ q = 1 ∨ q = 2 by omega) with rfl | rfl | rfl <;> rfl
  · show plea ts q (k + 1) = plea ts q k
    rw [plea_in hp]
    unfold plea at hc ⊢
    have e : ¬ pcnt ts q k = 0 := fun e => hc (.inl e)
    rw [if_neg e] at hc ⊢; omega
  · exact fun p _ hn => plea_out (by rw [hp]; omega)
/-- The array in block g. -/
def Arr (w : World) (g : Nat) (t : TypeId) (xs : List Int) : Prop := w.heap[g]? = some (.cells (ints xs).toArray t (0, 0))
theorem Arr.cell {w : World} {g : Nat} {t : TypeId} {xs : List Int} (h : Arr w g t xs) {k : Nat} (hk : k < xs.length) : w.cell? ⟨g, k, none⟩ = some (.int .i64 (el xs k)) := by
  rw [cell_of_row _ _ _ _ _ _ h, List.getElem?_toArray, ints_get hk]
theorem Arr.froz {w : World} {g : Nat} {t : TypeId} {xs : List Int} (h : Arr w g t xs) (k : Nat) : w.frozen? ⟨g, k, none⟩ = false := frozen_of_row _ _ _ _ _ h
theorem Arr.set {w : World} {g : Nat} {t : TypeId} {xs : List Int} (h : Arr w g t xs) (k : Nat) (x : Int) : Arr (w.setCell ⟨g, k, none⟩ (.int .i64 x)) g t (xs.set k x) := by
  unfold Arr
  rw [heap_setCell_same _ _ _ _ _ _ h]
  simp [← ints_set]
theorem Arr.other {w : World} {g g' : Nat} {t : TypeId} {xs : List Int} (h : Arr w g t xs) (hn : g ≠ g') (k : Nat) (u : Value) : Arr (w.setCell ⟨g', k, none⟩ u) g t xs := (heap_setCell_other _ _ _ _ hn).trans h
theorem Arr.below {B : Nat} {w W : World} {g : Nat} {t : TypeId} {xs : List Int} (h : Arr w g t xs) (hb : Below B w W) (hg : g < B) : Arr W g t xs := (hb.block g hg).trans h
theorem Arr.lt {w : World} {g : Nat} {t : TypeId} {xs : List Int} (h : Arr w g t xs) : g < w.heap.size := by
  by_cases e : g < w.heap.size
  · exact e
  · unfold Arr at h; rw [Array.getElem?_eq_none (by omega)] at h; cases h
/-- The world of a round: both arrays, and the task's cells in block b. -/
structure PortW (g : Nat) (w : World) (b : Nat) (V : World) (q : Nat) (l : Int) (ms ls : List Int) : Prop where
  bw : Below g w V
  am : Arr V g 171 ms
  al : Arr V (g + 1) 171 ls
  t0 : V.cell? ⟨b, 0, none⟩ = some (.int .i64 (q : Nat))
  t1 : V.cell? ⟨b, 1, none⟩ = some (.int .i64 l)
theorem PortW.store {g h b : Nat} {w V : World} {q : Nat} {l : Int} {ms ls : List Int} (hv : PortW g w b V q l ms ls) (hq : q < 3) (hh : h = g + 1) (hb : h < b) (hg : g < b) (x : Int) :
    PortW g w b (V.setCell ⟨h, q, none⟩ (.int .i64 x)) q l ms (ls.set q x) := by
  subst hh
  refine ⟨hv.bw.setCell (by show g ≤ g + 1; omega) _, hv.am.other (by omega) _ _, hv.al.set q x, ?_, ?_⟩
  · rw [← hv.t0]; refine World.cell?_setCell_other _ _ _ _ ?_; intro e; cases e; omega
  · rw [← hv.t1]; refine World.cell?_setCell_other _ _ _ _ ?_; intro e; cases e; omega
set_option maxRecDepth 100000 in
set_option maxHeartbeats 1000000 in
theorem i_portBound (w : World) (A : Option Addr) (c : Nat) (ts : List TaskV) (hO : TOk ts) (hT : RdT w A ts) :
    Calls Try.prog 118 #[.slice A ts.length c] w fun e w' => e = .returned (.int .i64 (pbN ts 3)) ∧ Below w.heap.size w w' := by
  have hfew := hO.few
  have HO := hid hO
  have HT := hid hT
  clear hO hT
  go_enter Try.func118, Try.ntmps118
  go_wp2
  go_loopg [12] ts.length (fun gg s wr => ∃ k : Nat, k ≤ ts.length ∧ ts.length - k ≤ gg ∧ s = .int .i64 k ∧ Aside (Below w.heap.size w wr) ∧
    Aside (Arr wr w.heap.size 171 (v3 fun p => pcnt ts p k)) ∧ Aside (Arr wr (w.heap.size + 1) 171 (v3 fun p => plea ts p k)))
  case atStart =>
    refine ⟨0, Nat.zero_le _, by omega, rfl, balloc (ballocw w _) _, ?_, ?_⟩
    · exact (heap_alloc_old _ _ (by simp)).trans (heap_alloc_new w _)
    · have h := heap_alloc_new (w.alloc (.cells #[.int .i64 0, .int .i64 0, .int .i64 0] 171)) (.cells #[.int .i64 0, .int .i64 0, .int .i64 0] 171)
      rw [show (w.alloc (.cells #[.int .i64 0, .int .i64 0, .int .i64 0] 171)).heap.size = w.heap.size + 1 by simp] at h
      exact h
  case round =>
    obtain ⟨k, hk, hg, rfl, BW, AM, AL⟩ := hrel
    by_cases hlt : k < ts.length
    · obtain ⟨bt, offt, A1, c1, rfl, p0, p1, p2, _, _⟩ := (HT.out.below BW.out).get (k := k) hlt
      have hp := HO.out.port k hlt
      obtain ⟨q, hq⟩ : ∃ q : Nat, (tel ts k).port = q := ⟨(tel ts k).port.toNat, by omega⟩
      have hq3 : q < 3 := by omega
      have hq3' : (q : Int) < 3 := by omega
      rw [hq] at p0
      have hszr := BW.out.size
      have hLl := AL.out.lt
      have hst : Below wr.heap.size wr (wr.alloc (.cells #[.int .i64 (q : Nat), .int .i64 (tel ts k).lat, .slice A1 (tel ts k).needs.length c1] 74)) := ballocw wr _
      have BT := bthen BW.out hst
      have AM1 := AM.out.below hst (by omega)
      have AL1 := AL.out.below hst hLl
      have k0 : (wr.alloc (.cells #[.int .i64 (q : Nat), .int .i64 (tel ts k).lat, .slice A1 (tel ts k).needs.length c1] 74)).cell? ⟨wr.heap.size, 0, none⟩ = some (.int .i64 (q : Nat)) := by simp
      have k1 : (wr.alloc (.cells #[.int .i64 (q : Nat), .int .i64 (tel ts k).lat, .slice A1 (tel ts k).needs.length c1] 74)).cell? ⟨wr.heap.size, 1, none⟩ = some (.int .i64 (tel ts k).lat) := by simp
      have hcb := pcnt_bnd ts q k
      obtain ⟨hcb0, hcb1⟩ := hcb
      have HST := hid (fun hc => plea_set HO.out (k := k) (q := q) hlt hq3 hq hc)
      have HKP := hid (fun hc => plea_keep (ts := ts) (k := k) (q := q) hq3 hq hc)
      have HPC := hid (pcnt_set (ts := ts) (k := k) (q := q) hq3 hq)
      have m0 := AM1.cell (k := q) hq3
      have l0 := AL1.cell (k := q) hq3
      rw [v3_el _ hq3] at m0 l0
      have PV : Hid (∀ V, (∃ n, V = (wr.alloc (.cells #[.int .i64 (q : Nat), .int .i64 (tel ts k).lat, .slice A1 (tel ts k).needs.length c1] 74)).drewN n) → PortW w.heap.size w wr.heap.size V q (tel ts k).lat (v3 fun p => pcnt ts p k) (v3 fun p => plea ts p k)) :=
        hid fun V ⟨n, e⟩ => by subst e; exact ⟨bdrewN BT n, AM1, AL1, k0, k1⟩
      have K0 := hid k0
      have K1 := hid k1
      have M0 := hid m0
      have L0 := hid l0
      clear AM AL BW hst hq BT AM1 AL1 hp
      generalize hT : wr.alloc (.cells #[.int .i64 (q : Nat), .int .i64 (tel ts k).lat, .slice A1 (tel ts k).needs.length c1] 74) = wt at *
      have HTW := hid hT
      clear hT k0 k1 m0 l0
      generalize (tel ts k).lat = l at *
      go_wp2_with fail
      rw [HTW.out]
      have k0 := K0.out
      have k1 := K1.out
      have m0 := M0.out
      have l0 := L0.out
      clear HT HO HTW K0 K1 M0 L0
      cases hz : (pcnt ts q k == 0) with
      | true =>
        have HST' := hid (HST.out (.inl (by simpa using hz)))
        clear HST HKP
        generalize hcn : pcnt ts q k = cn at *
        generalize plea ts q k = le at *
        go_wp2
        go_quiet (fail)
        generalize hV : wt.drewN _ = V
        have hv := PV.out V ⟨_, hV.symm⟩
        have hs := (hv.store (g := w.heap.size) (h := w.heap.size + 1) hq3 (by omega) (by omega) (by omega) l)
        have e1 := hv.t0
        have e2 := hv.t1
        have e3 := hv.al.cell (k := q) hq3
        have e4 := hv.al.froz q
        have e5 := hs.t0
        have e6 := hs.am.cell (k := q) hq3
        rw [v3_el _ hq3] at e3 e6
        rw [hcn] at e6
        have e7 := hs.am.froz q
        have AL2 := hid (hs.al.other (g' := w.heap.size) (by omega) q (.int .i64 (cn + 1)))
        rw [HST'.out] at AL2
        have AM2 := hid (hs.am.set q (cn + 1))
        rw [HPC.out] at AM2
        have BT2 := hid (bset hs.bw (p := ⟨w.heap.size, q, none⟩) (Nat.le_refl _) (.int .i64 (cn + 1)))
        clear hv hs PV HPC HST' k0 k1 m0 l0 hV
        go_wp2_with fail
        go_roundg (ts.length - (k + 1))
        case measure => omega
        case rel => exact ⟨k + 1, by omega, by omega, by go_num, BT2.out, AM2.out, AL2.out⟩
      | false =>
        by_cases hle : l < plea ts q k
        · skip
          have HST' := hid (HST.out (.inr hle))
          clear HST HKP
          generalize hcn : pcnt ts q k = cn at *
          generalize plea ts q k = le at *
          go_wp2
          go_quiet (fail)
          generalize hV : wt.drewN _ = V
          have hv := PV.out V ⟨_, hV.symm⟩
          have hs := (hv.store (g := w.heap.size) (h := w.heap.size + 1) hq3 (by omega) (by omega) (by omega) l)
          have e1 := hv.t0
          have e2 := hv.t1
          have e3 := hv.al.cell (k := q) hq3
          have e4 := hv.al.froz q
          have e5 := hs.t0
          have e6 := hs.am.cell (k := q) hq3
          rw [v3_el _ hq3] at e3 e6
          rw [hcn] at e6
          have e7 := hs.am.froz q
          have AL2 := hid (hs.al.other (g' := w.heap.size) (by omega) q (.int .i64 (cn + 1)))
          rw [HST'.out] at AL2
          have AM2 := hid (hs.am.set q (cn + 1))
          rw [HPC.out] at AM2
          have BT2 := hid (bset hs.bw (p := ⟨w.heap.size, q, none⟩) (Nat.le_refl _) (.int .i64 (cn + 1)))
          clear hv hs PV HPC HST' k0 k1 m0 l0 hV
          go_wp2_with fail
          go_roundg (ts.length - (k + 1))
          case measure => omega
          case rel => exact ⟨k + 1, by omega, by omega, by go_num, BT2.out, AM2.out, AL2.out⟩
        · skip
          have hcc : ¬ (pcnt ts q k = 0 ∨ l < plea ts q k) := by simp at hz; omega
          have HKP' := hid (HKP.out hcc)
          clear HST HKP hcc
          generalize hcn : pcnt ts q k = cn at *
          generalize plea ts q k = le at *
          go_wp2
          go_quiet (fail)
          generalize hV : wt.drewN _ = V
          have hv := PV.out V ⟨_, hV.symm⟩
          have e1 := hv.t0
          have e6 := hv.am.cell (k := q) hq3
          rw [v3_el _ hq3, hcn] at e6
          have e7 := hv.am.froz q
          have AL2 := hid (hv.al.other (g' := w.heap.size) (by omega) q (.int .i64 (cn + 1)))
          rw [HKP'.out] at AL2
          have AM2 := hid (hv.am.set q (cn + 1))
          rw [HPC.out] at AM2
          have BT2 := hid (bset hv.bw (p := ⟨w.heap.size, q, none⟩) (Nat.le_refl _) (.int .i64 (cn + 1)))
          clear hv PV HPC HKP' k0 k1 m0 l0 hV
          go_wp2_with fail
          go_roundg (ts.length - (k + 1))
          case measure => omega
          case rel => exact ⟨k + 1, by omega, by omega, by go_num, BT2.out, AM2.out, AL2.out⟩
    · have : k = ts.length := by omega
      subst this
      have HOO := HO.out
      have a0 := AM.out.cell (k := 0) (by simp [v3])
      have a1 := AM.out.cell (k := 1) (by simp [v3])
      have a2 := AM.out.cell (k := 2) (by simp [v3])
      have b0 := AL.out.cell (k := 0) (by simp [v3])
      have b1 := AL.out.cell (k := 1) (by simp [v3])
      have b2 := AL.out.cell (k := 2) (by simp [v3])
      rw [v3_el _ (by omega)] at a0 a1 a2 b0 b1 b2
      simp only [Int.natCast_zero, Int.natCast_one, show ((2 : Nat) : Int) = 2 from rfl, show ((0 : Nat) : Int) = 0 from rfl, show ((1 : Nat) : Int) = 1 from rfl] at a0 a1 a2 b0 b1 b2
      have BW2 := hid BW.out
      clear AM AL BW HT HO
      go_wp2_with fail
      clear a0 a1 a2
      go_loopg [7, 43] 3 (fun gg m s wq => ∃ p : Nat, p ≤ 3 ∧ 3 - p ≤ gg ∧ s = .int .i64 p ∧ m = .int .i64 (pbN ts p) ∧ Aside (wr = wq))
      case atStart => exact ⟨0, by omega, by omega, rfl, rfl, rfl⟩
      case round =>
        obtain ⟨p, hp3, hgp, rfl, rfl, WQ⟩ := hrel
        obtain rfl := WQ.out
        rcases (show p = 0 ∨ p = 1 ∨ p = 2 ∨ p = 3 by omega) with rfl | rfl | rfl | rfl
        · have hcb := pcnt_bnd ts 0 ts.length
          have hlb := plst_bnd HOO 0 ts.length (Nat.le_refl _)
          obtain ⟨hcb0, hcb1⟩ := hcb
          obtain ⟨hlb0, hlb1⟩ := hlb
          by_cases hn : 0 < pcnt ts 0 ts.length
          · have HS : Hid (pbN ts (0 + 1) = max (pbN ts 0) (pcnt ts 0 ts.length + plst ts 0 ts.length - 1)) := hid (if_pos hn)
            have hle : plea ts 0 ts.length = plst ts 0 ts.length := by unfold plea; rw [if_neg (by omega)]
            rw [hle] at b0
            clear hle HOO
            generalize hgm : pbN ts 0 = m at *
            generalize hgc : pcnt ts 0 ts.length = cn at *
            generalize pcnt ts 1 ts.length = c1 at *
            generalize pcnt ts 2 ts.length = c2 at *
            have ix : ∀ w : World, (Instr.index 171 (.agg #[.int .i64 cn, .int .i64 c1, .int .i64 c2]) (.int .i64 0)).run Try.prog w = .ok (.int .i64 cn) w := fun _ => by kernel_rfl
            generalize hgl : plst ts 0 ts.length = l at *
            by_cases hx : m < cn + l - 1
            · have HE : Hid (pbN ts (0 + 1) = cn + l - 1) := hid (by rw [HS.out]; omega)
              clear HS
              go_wp2_with fail
              go_roundg (3 - (0 + 1))
              case measure => omega
              case rel => exact ⟨0 + 1, by omega, by omega, by go_num, by rw [HE.out], rfl⟩
            · have HE : Hid (pbN ts (0 + 1) = m) := hid (by rw [HS.out]; omega)
              clear HS
              go_wp2_with fail
              go_roundg (3 - (0 + 1))
              case measure => omega
              case rel => exact ⟨0 + 1, by omega, by omega, by go_num, by rw [HE.out], rfl⟩
          · have HE : Hid (pbN ts (0 + 1) = pbN ts 0) := hid (if_neg hn)
            clear HOO
            generalize hgm : pbN ts 0 = m at *
            generalize hgc : pcnt ts 0 ts.length = cn at *
            generalize pcnt ts 1 ts.length = c1 at *
            generalize pcnt ts 2 ts.length = c2 at *
            have ix : ∀ w : World, (Instr.index 171 (.agg #[.int .i64 cn, .int .i64 c1, .int .i64 c2]) (.int .i64 0)).run Try.prog w = .ok (.int .i64 cn) w := fun _ => by kernel_rfl
            go_wp2_with fail
            go_roundg (3 - (0 + 1))
            case measure => omega
            case rel => exact ⟨0 + 1, by omega, by omega, by go_num, by rw [HE.out], rfl⟩
        · have hcb := pcnt_bnd ts 1 ts.length
          have hlb := plst_bnd HOO 1 ts.length (Nat.le_refl _)
          obtain ⟨hcb0, hcb1⟩ := hcb
          obtain ⟨hlb0, hlb1⟩ := hlb
          by_cases hn : 0 < pcnt ts 1 ts.length
          · have HS : Hid (pbN ts (1 + 1) = max (pbN ts 1) (pcnt ts 1 ts.length + plst ts 1 ts.length - 1)) := hid (if_pos hn)
            have hle : plea ts 1 ts.length = plst ts 1 ts.length := by unfold plea; rw [if_neg (by omega)]
            rw [hle] at b1
            clear hle HOO
            generalize hgm : pbN ts 1 = m at *
            generalize hgc : pcnt ts 1 ts.length = cn at *
            generalize pcnt ts 0 ts.length = c0 at *
            generalize pcnt ts 2 ts.length = c2 at *
            have ix : ∀ w : World, (Instr.index 171 (.agg #[.int .i64 c0, .int .i64 cn, .int .i64 c2]) (.int .i64 1)).run Try.prog w = .ok (.int .i64 cn) w := fun _ => by kernel_rfl
            generalize hgl : plst ts 1 ts.length = l at *
            by_cases hx : m < cn + l - 1
            · have HE : Hid (pbN ts (1 + 1) = cn + l - 1) := hid (by rw [HS.out]; omega)
              clear HS
              go_wp2_with fail
              go_roundg (3 - (1 + 1))
              case measure => omega
              case rel => exact ⟨1 + 1, by omega, by omega, by go_num, by rw [HE.out], rfl⟩
            · have HE : Hid (pbN ts (1 + 1) = m) := hid (by rw [HS.out]; omega)
              clear HS
              go_wp2_with fail
              go_roundg (3 - (1 + 1))
              case measure => omega
              case rel => exact ⟨1 + 1, by omega, by omega, by go_num, by rw [HE.out], rfl⟩
          · have HE : Hid (pbN ts (1 + 1) = pbN ts 1) := hid (if_neg hn)
            clear HOO
            generalize hgm : pbN ts 1 = m at *
            generalize hgc : pcnt ts 1 ts.length = cn at *
            generalize pcnt ts 0 ts.length = c0 at *
            generalize pcnt ts 2 ts.length = c2 at *
            have ix : ∀ w : World, (Instr.index 171 (.agg #[.int .i64 c0, .int .i64 cn, .int .i64 c2]) (.int .i64 1)).run Try.prog w = .ok (.int .i64 cn) w := fun _ => by kernel_rfl
            go_wp2_with fail
            go_roundg (3 - (1 + 1))
            case measure => omega
            case rel => exact ⟨1 + 1, by omega, by omega, by go_num, by rw [HE.out], rfl⟩
        · have hcb := pcnt_bnd ts 2 ts.length
          have hlb := plst_bnd HOO 2 ts.length (Nat.le_refl _)
          obtain ⟨hcb0, hcb1⟩ := hcb
          obtain ⟨hlb0, hlb1⟩ := hlb
          by_cases hn : 0 < pcnt ts 2 ts.length
          · have HS : Hid (pbN ts (2 + 1) = max (pbN ts 2) (pcnt ts 2 ts.length + plst ts 2 ts.length - 1)) := hid (if_pos hn)
            have hle : plea ts 2 ts.length = plst ts 2 ts.length := by unfold plea; rw [if_neg (by omega)]
            rw [hle] at b2
            clear hle HOO
            generalize hgm : pbN ts 2 = m at *
            generalize hgc : pcnt ts 2 ts.length = cn at *
            generalize pcnt ts 0 ts.length = c0 at *
            generalize pcnt ts 1 ts.length = c1 at *
            have ix : ∀ w : World, (Instr.index 171 (.agg #[.int .i64 c0, .int .i64 c1, .int .i64 cn]) (.int .i64 2)).run Try.prog w = .ok (.int .i64 cn) w := fun _ => by kernel_rfl
            generalize hgl : plst ts 2 ts.length = l at *
            by_cases hx : m < cn + l - 1
            · have HE : Hid (pbN ts (2 + 1) = cn + l - 1) := hid (by rw [HS.out]; omega)
              clear HS
              go_wp2_with fail
              go_roundg (3 - (2 + 1))
              case measure => omega
              case rel => exact ⟨2 + 1, by omega, by omega, by go_num, by rw [HE.out], rfl⟩
            · have HE : Hid (pbN ts (2 + 1) = m) := hid (by rw [HS.out]; omega)
              clear HS
              go_wp2_with fail
              go_roundg (3 - (2 + 1))
              case measure => omega
              case rel => exact ⟨2 + 1, by omega, by omega, by go_num, by rw [HE.out], rfl⟩
          · have HE : Hid (pbN ts (2 + 1) = pbN ts 2) := hid (if_neg hn)
            clear HOO
            generalize hgm : pbN ts 2 = m at *
            generalize hgc : pcnt ts 2 ts.length = cn at *
            generalize pcnt ts 0 ts.length = c0 at *
            generalize pcnt ts 1 ts.length = c1 at *
            have ix : ∀ w : World, (Instr.index 171 (.agg #[.int .i64 c0, .int .i64 c1, .int .i64 cn]) (.int .i64 2)).run Try.prog w = .ok (.int .i64 cn) w := fun _ => by kernel_rfl
            go_wp2_with fail
            go_roundg (3 - (2 + 1))
            case measure => omega
            case rel => exact ⟨2 + 1, by omega, by omega, by go_num, by rw [HE.out], rfl⟩
        · clear HOO b0 b1 b2
          go_wp2_with fail
          go_ret
          exact ⟨rfl, BW2.out⟩
end Go.Proofs.Ytjcpjmijhloimaa
