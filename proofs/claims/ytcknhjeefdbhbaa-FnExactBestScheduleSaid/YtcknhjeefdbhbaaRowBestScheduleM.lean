import Derived.Test.YtcknhjeefdbhbaaLp4
import Derived.Test.YtcknhjeefdbhbaaShuf3
import Derived.Test.YtcknhjeefdbhbaaCat
import Derived.Test.YtcknhjeefdbhbaaBst3
import Derived.Test.YtcknhjeefdbhbaaCalm
import Derived.Test.YtcknhjeefdbhbaaHts5
import Derived.Deep.RegionWith
import Derived.Test.YtcknhjeefdbhbaaTask2
import Derived.Test.YtcknhjeefdbhbaaRwsA
import Derived.Test.YtcknhjeefdbhbaaBase
import Derived.Test.YtcknhjeefdbhbaaLawO
import Derived.WalkKit
import Derived.ProofKit
import Derived.OpenShut
import Derived.Deep.SlicePairs
import Derived.Deep.Strs
import Derived.Test.YtcknhjeefdbhbaaRows
import Derived.ShutString
import Derived.ChangeOld
import Derived.Below
set_option linter.unusedVariables false
set_option linter.unusedSimpArgs false
namespace Go.Proofs.Ytcknhjeefdbhbaa
open Go.RowKit

theorem wthI_step {ts : List TaskV} (most : Int) (nx : List Int → Option (List Int)) (p : List Int) {i : Nat} (hi : i < ts.length) :
    wthI ts most nx p (ts.length - i) = orO (if rdyO ts p i && decide ((cntS ts (p ++ [(i : Int)]) (p.length + 1) : Int) ≤ most) then nx (p ++ [(i : Int)]) else none) (wthI ts most nx p (ts.length - (i + 1))) := by
  rw [show ts.length - i = ts.length - (i + 1) + 1 from by omega]
  simp only [wthI]
  rw [show ts.length - (ts.length - (i + 1) + 1) = i from by omega]
/-- Ready, by the first j of what is needed. -/
def rdK (p : List Int) (i : Nat) (ns : List Int) : Nat → Bool
  | 0 => !hasB p (i : Int)
  | j + 1 => rdK p i ns j && hasB p (el ns j)
theorem rdK_all (ts : List TaskV) (p : List Int) (i : Nat) : rdK p i (tel ts i).needs (tel ts i).needs.length = rdyO ts p i := by
  have : ∀ n, rdK p i (tel ts i).needs n = (!hasB p (i : Int) && allN n (fun j => hasB p (el (tel ts i).needs j))) := fun n => by
    induction n with
    | zero => simp [rdK, allN]
    | succ n ih => rw [allN_succ]; simp only [rdK]; rw [ih, Bool.and_assoc]
  rw [this, allN_ints (tel ts i).needs (fun k => hasB p k)]; rfl
set_option maxRecDepth 100000 in
set_option maxHeartbeats 1000000 in
theorem s_l06Within (ts : List TaskV) (A' : Option Addr) (c' : Nat) (most : Int) (hO : TOk ts) : ∀ (d : Nat) (p : List Int) (W : World) (A : Option Addr) (c lo : Nat), p.length + d = ts.length → lo ≤ W.heap.size →
    OI W lo W.heap.size (.slice A p.length c) p → RdT W A' ts →
    Calls Try.prog 154 #[.slice A' ts.length c', .slice A p.length c, .int .i64 most] W fun e W' =>
      ∃ v, e = .returned (.tuple #[v, .bool (wthD ts most d p).isSome]) ∧ OI W' lo W'.heap.size v ((wthD ts most d p).getD []) ∧ Below W.heap.size W W' := by
  have hfew := hO.few
  intro d
  induction d with
  | zero =>
    intro p W A c lo hpd hlo hv hT
    have he : ((p.length : Int) == (ts.length : Int)) = true := by simp; omega
    have HV := hid hv
    have HD : Hid (wthD ts most 0 p = some p) := hid rfl
    rw [HD.out]
    clear hT hpd hv
    generalize hq : p.length = q at *
    go_enter Try.func154, Try.ntmps154
    go_wp2
    go_ret2
    exact ⟨_, rfl, HV.out, Below.refl _ _⟩
  | succ d ih =>
    intro p W A c lo hpd hlo hv hT
    have he : ((p.length : Int) == (ts.length : Int)) = false := by simp; omega
    have HV := hid hv
    have HT := hid hT
    have HO := hid hO
    have IH := hid ih
    have HPD := hid hpd
    have hpl : p.length ≤ 7 := by omega
    have HF : Hid (wthD ts most (d + 1) p = wthI ts most (wthD ts most d) p (ts.length - 0)) := hid rfl
    have HST := hid (fun i (hi : i < ts.length) => wthI_step most (wthD ts most d) p hi)
    clear hT hv hpd ih
    generalize wthD ts most (d + 1) p = F at *
    go_enter Try.func154, Try.ntmps154
    go_wp2
    go_loopg [8] ts.length (fun gg s wr => ∃ i : Nat, i ≤ ts.length ∧ ts.length - i ≤ gg ∧ s = .int .i64 i ∧ Aside (Below W.heap.size W wr) ∧ Aside (wthI ts most (wthD ts most d) p (ts.length - i) = F))
    case atStart => exact ⟨0, Nat.zero_le _, by omega, rfl, Below.refl _ _, HF.out.symm⟩
    case round =>
      obtain ⟨i, hi, hg, rfl, BW, AL⟩ := hrel
      obtain ⟨wo, rfl⟩ : ∃ wo : World, wo = wr := ⟨_, rfl⟩
      by_cases hlt : i < ts.length
      · have hlt' : (i : Int) < (ts.length : Int) := by omega
        have hTr := HT.out.below BW.out
        have hvr : OI wo lo W.heap.size (.slice A p.length c) p := OI.eqv HV.out (Eqv.of BW.out (Nat.le_refl _))
        have hrd := OwnI.rd hvr
        obtain ⟨bt, offt, An, cn, rfl, p0, p1, p2, _, hrn⟩ := hTr.get hlt
        have CH := hid (fun (x : Int) => s_l00Has wo A c p x (by omega) hrd)
        have CO := hid (s_l00Own wo A c p (by omega) hrd)
        have HRA := hid (rdK_all ts p i)
        have HR0 : Hid (rdK p i (tel ts i).needs 0 = !hasB p (i : Int)) := hid rfl
        have HRS : Hid (∀ j, rdK p i (tel ts i).needs (j + 1) = (rdK p i (tel ts i).needs j && hasB p (el (tel ts i).needs j))) := hid fun _ => rfl
        have HRN := hid hrn
        have hnl := HO.out.len i hlt
        have hSTi := HST.out i hlt
        have HSTi : Hid (F = orO (if rdyO ts p i && decide ((cntS ts (p ++ [(i : Int)]) (p.length + 1) : Int) ≤ most) then wthD ts most d (p ++ [(i : Int)]) else none) (wthI ts most (wthD ts most d) p (ts.length - (i + 1)))) := hid (by rw [← AL.out, hSTi])
        have hwz := BW.out.size
        have HTW := hid hTr
        clear hSTi hrn hrd hvr hTr HF HST AL HT HV
        have C0 := hid (CH.out (i : Int))
        generalize rdyO ts p i = ry at *
        generalize tel ts i = tk at *
        generalize hhb : hasB p (i : Int) = hb0 at *
        go_wp2_with fail
        refine C0.out.mono ?_
        rintro e w5 ⟨rfl, rfl⟩
        clear C0
        go_wp2_with fail
        go_loopg [9, 10] tk.needs.length (fun gg r s wr => ∃ j : Nat, j ≤ tk.needs.length ∧ tk.needs.length - j ≤ gg ∧ s = .int .i64 j ∧ r = .bool (rdK p i tk.needs j) ∧ Aside (wr = wo))
        case atStart => exact ⟨0, Nat.zero_le _, by omega, rfl, (by rw [HR0.out]), rfl⟩
        case round =>
          obtain ⟨j, hj, hgj, rfl, rfl, BJ⟩ := hrel
          obtain rfl := BJ.out
          clear BJ
          by_cases hlj : j < tk.needs.length
          · obtain ⟨bn, offn, rfl, hcn⟩ := HRN.out.get hlj
            have C1 := hid (CH.out (el tk.needs j))
            have HS := hid (HRS.out j)
            clear HRN CH CO HRA HR0 HRS HSTi HTW hhb
            generalize hasB p (el tk.needs j) = hx at *
            generalize el tk.needs j = x at *
            generalize hrk : rdK p i tk.needs j = rk at *
            generalize tk.needs.length = nl at *
            cases rk with
            | true =>
              clear hrk
              go_wp2_with fail
              refine C1.out.mono ?_
              rintro e w6 ⟨rfl, rfl⟩
              go_wp2_with fail
              go_roundg (nl - (j + 1))
              case measure => omega
              case rel => exact ⟨j + 1, by omega, by omega, by go_num, (by rw [HS.out]; simp), rfl⟩
            | false =>
              clear hrk C1
              go_wp2
              go_roundg (nl - (j + 1))
              case measure => omega
              case rel => exact ⟨j + 1, by omega, by omega, by go_num, (by rw [HS.out]; simp), rfl⟩
          · have : j = tk.needs.length := by omega
            subst this
            have HRA2 := hid HRA.out
            rw [HRA2.out]
            clear HRN CH HRA HR0 HRS hhb HRA2
            generalize tk.needs.length = nl at *
            go_wp2_with fail
            refine CO.out.mono ?_
            rintro e w7 ⟨v7, rfl, ho7, hb7⟩
            obtain ⟨A7, c7, rfl, _, _, _⟩ := Own.int ho7
            have hsz7 := hb7.size
            clear CO
            cases ry with
            | false =>
              go_wp2_with ((at_builtin; refine wp_append1 wr.heap.size rfl _ _ 25 2 (.int .i64 0) 8 rfl Try.underlying25 infoInt rfl (.slice A7 p.length c7) p.length _ (.int .i64 (i : Nat)) rfl rfl rfl ho7 hsz7 (by omega) (by omega) ?_; intro v8 w8 hown8 hbel8))
              have hb8 : Below wr.heap.size wr w8 := hb7.trans (hbel8.mono (by omega))
              have BW8' : Aside (Below W.heap.size W w8) := bthen BW.out hb8
              have AL' : Aside (wthI ts most (wthD ts most d) p (ts.length - (i + 1)) = F) := HSTi.out.symm
              go_roundg (ts.length - (i + 1))
              case measure => omega
              case rel => exact ⟨i + 1, by omega, by omega, by go_num, BW8', AL'⟩
            | true =>
              go_wp2_with ((at_builtin; refine wp_append1 wr.heap.size rfl _ _ 25 2 (.int .i64 0) 8 rfl Try.underlying25 infoInt rfl (.slice A7 p.length c7) p.length _ (.int .i64 (i : Nat)) rfl rfl rfl ho7 hsz7 (by omega) (by omega) ?_; intro v8 w8 hown8 hbel8))
              have hown8' : OwnI w8 wr.heap.size w8.heap.size 2 v8 (p ++ [(i : Int)]) := by
                unfold OwnI; rw [List.length_append, List.length_singleton, ints_append]; exact hown8
              have hl8 : (p ++ [(i : Int)]).length = p.length + 1 := by simp
              have hb8 : Below wr.heap.size wr w8 := hb7.trans (hbel8.mono (by omega))
              obtain ⟨A8, c8, rfl, _, _, hrd8⟩ := Own.int hown8'
              have hT8 := HTW.out.below hb8
              have CL := hid (s_l06Live w8 (some ⟨bt, offt, none⟩) A8 c' c8 ts (p ++ [(i : Int)]) HO.out (by omega) hT8 hrd8)
              rw [hl8] at CL
              have BW8 := hid (bthen BW.out hb8)
              have hle8 := cntS_le ts (p ++ [(i : Int)]) (p.length + 1)
              by_cases hlv : (cntS ts (p ++ [(i : Int)]) (p.length + 1) : Int) ≤ most
              · have HST2 : Hid (F = orO (wthD ts most d (p ++ [(i : Int)])) (wthI ts most (wthD ts most d) p (ts.length - (i + 1)))) := hid (by rw [HSTi.out, decide_eq_true hlv]; rfl)
                have hlv' : ¬ most < (cntS ts (p ++ [(i : Int)]) (p.length + 1) : Int) := by omega
                have HOW := hid hown8'
                have HT8 := hid hT8
                have IHi := hid (fun w9 (hb9 : Below w8.heap.size w8 w9) => IH.out (p ++ [(i : Int)]) w9 A8 c8 wr.heap.size (by rw [hl8]; have := HPD.out; omega) (by have := hb8.size; have := hb9.size; omega) (Own.wide (Own.eqv HOW.out (Eqv.of hb9 (Nat.le_refl _))) (Nat.le_refl _) hb9.size) (HT8.out.below hb9))
                rw [hl8] at IHi ⊢
                clear HSTi hlv hT8 hown8 hown8' hbel8 hb8 hrd8 ho7 hb7 HTW IH HT8 HOW
                generalize cntS ts (p ++ [(i : Int)]) (p.length + 1) = cv at *
                go_wp2_with fail
                refine CL.out.mono ?_
                rintro e w9 ⟨rfl, hb9⟩
                have CR := hid (IHi.out w9 hb9)
                have BW9 := hid (bthen BW8.out hb9)
                have hz9 := BW9.out.size
                clear CL IHi hb9 BW8 BW
                generalize hres : wthD ts most d (p ++ [(i : Int)]) = R at *
                cases R with
                | some o =>
                  have HFo : Hid (F = some o) := hid HST2.out
                  clear HST2 hres
                  go_wp2_with fail
                  refine CR.out.mono ?_
                  rintro e w10 ⟨v10, rfl, ho10, hb10⟩
                  obtain ⟨A10, c10, rfl, _, _, _⟩ := Own.int ho10
                  have HR : Hid (∃ v, Ending.returned (.tuple #[.slice A10 o.length c10, .bool true]) = .returned (.tuple #[v, .bool F.isSome]) ∧ OI w10 lo w10.heap.size v (F.getD []) ∧ Below W.heap.size W w10) := hid (by
                    rw [HFo.out]
                    exact ⟨_, rfl, Own.wide ho10 (by omega) (Nat.le_refl _), bthen BW9.out hb10⟩)
                  clear HFo ho10 hb10 BW9 CR
                  go_wp2
                  go_ret2
                  exact HR.out
                | none =>
                  have AL' : Aside (wthI ts most (wthD ts most d) p (ts.length - (i + 1)) = F) := HST2.out.symm
                  clear HST2 hres
                  go_wp2_with fail
                  refine CR.out.mono ?_
                  rintro e w10 ⟨v10, rfl, ho10, hb10⟩
                  obtain ⟨A10, c10, rfl, _, _, _⟩ := Own.int ho10
                  have BW10 : Aside (Below W.heap.size W w10) := bthen BW9.out hb10
                  clear ho10 hb10 BW9 CR
                  go_wp2
                  go_roundg (ts.length - (i + 1))
                  case measure => omega
                  case rel => exact ⟨i + 1, by omega, by omega, by go_num, BW10, AL'⟩
              · have hlv' : most < (cntS ts (p ++ [(i : Int)]) (p.length + 1) : Int) := by omega
                have AL' : Aside (wthI ts most (wthD ts most d) p (ts.length - (i + 1)) = F) := by unfold Aside; rw [HSTi.out, decide_eq_false hlv]; rfl
                clear HSTi hlv hT8 hown8 hown8' hbel8 hb8 hrd8 ho7 hb7 HTW IH
                generalize cntS ts (p ++ [(i : Int)]) (p.length + 1) = cv at *
                rw [hl8]
                go_wp2_with fail
                refine CL.out.mono ?_
                rintro e w9 ⟨rfl, hb9⟩
                have BW9 : Aside (Below W.heap.size W w9) := bthen BW8.out hb9
                clear CL hb9 BW8 BW
                go_wp2_with fail
                go_roundg (ts.length - (i + 1))
                case measure => omega
                case rel => exact ⟨i + 1, by omega, by omega, by go_num, BW9, AL'⟩
      · have : i = ts.length := by omega
        subst this
        have hfn : none = F := by have := AL.out; rw [Nat.sub_self] at this; exact this
        subst hfn
        have hwz := BW.out.size
        have hlit : Own (wo.alloc (.cells #[] 2)) wo.heap.size (wo.heap.size + 1) 2 1 (.slice (some ⟨wo.heap.size, 0, none⟩) 0 0) 0 [] := by
          have := Own.of (World.ownsRow_lit (base := wo.heap.size) (e := 2) (size := 1) wo #[] 0 (Nat.le_refl _) (by simp [maxLen]) rfl)
          simpa using this
        clear AL HF HST HT HV IH
        go_wp2
        go_ret2
        exact ⟨_, rfl, Own.wide hlit (by omega) (by simp), balloc BW.out _⟩
set_option maxRecDepth 100000 in
theorem s_LeastPressure (w : World) (A : Option Addr) (c : Nat) (ts : List TaskV) (hl : tsz ts ≤ 1048576) (hT : RdT w A ts) :
    Calls Try.prog 67 #[.slice A ts.length c] w (RetIZB w (m_LeastPressure ts)) := by
  have c0 := s_l06Is w A c ts hl hT
  have HE : Hid (m_LeastPressure ts = if tasksB ts then ((lpI ts).1, (lpI ts).2, true) else ([], 0, false)) := hid rfl
  cases h0 : tasksB ts with
  | false =>
    rw [h0] at c0 HE
    have C0 := hid c0
    clear c0 h0 hT hl
    generalize m_LeastPressure ts = r at HE ⊢
    go_enter Try.func67, Try.ntmps67
    go_wp2_with fail
    refine C0.out.mono ?_
    rintro e w1 ⟨rfl, hb1⟩
    go_wp2_with fail
    go_ret3
    exact ⟨_, by rw [HE.out]; rfl, by rw [HE.out]; exact Own.nil _ _ _ _ _, hb1⟩
  | true =>
    rw [h0] at c0 HE
    have C0 := hid c0
    have hO := TOk.of h0
    obtain ⟨h1, h2, h3, h4⟩ := lp_wth hO
    have hfew := hO.few
    obtain ⟨M, hM⟩ := Int.eq_ofNat_of_zero_le h1
    have HE2 : Hid (m_LeastPressure ts = ((lpI ts).1, (M : Int), true)) := hid (by rw [HE.out, hM]; rfl)
    rw [hM] at h2 h3 h4
    have hM8 : M ≤ 8 := by omega
    have HS := hid h3
    have HN : Hid (∀ m : Nat, m < M → wthD ts m ts.length [] = none) := hid fun m hm => h4 m (by omega) (by omega)
    have HT := hid hT
    have HW := hid (fun (m : Nat) (W : World) (hW : Below w.heap.size w W) => s_l06Within ts A c (m : Int) hO ts.length [] (W.alloc (.cells #[] 2)) (some ⟨W.heap.size, 0, none⟩) 0 W.heap.size (by simp) (by simp)
      (by
        have := Own.of (World.ownsRow_lit (base := W.heap.size) (e := 2) (size := 1) W #[] 0 (Nat.le_refl _) (by simp [maxLen]) rfl)
        simpa [OI, OwnI, ints] using this) ((HT.out.below hW).below (ballocw _ _)))
    clear c0 h0 hT hl hO h1 h2 h3 h4 hM HE
    generalize (lpI ts).1 = o at *
    generalize m_LeastPressure ts = r at *
    go_enter Try.func67, Try.ntmps67
    go_wp2_with fail
    refine C0.out.mono ?_
    rintro e w1 ⟨rfl, hb1⟩
    have HB1 := hid hb1
    clear hb1 C0
    go_wp2_with fail
    go_loopg [5] M (fun gg s wr => ∃ m : Nat, m ≤ M ∧ M - m ≤ gg ∧ s = .int .i64 m ∧ Aside (Below w.heap.size w wr))
    case atStart => exact ⟨0, Nat.zero_le _, by omega, rfl, HB1.out⟩
    case round =>
      obtain ⟨m, hm, hg, rfl, BW⟩ := hrel
      have HC := hid (HW.out m wr BW.out)
      have HB2 := hid (balloc BW.out (.cells #[] 2))
      have hz := BW.out.size
      clear HW HT
      by_cases e : m = M
      · subst e
        have HR : Hid (wthD ts (m : Int) ts.length [] = some o) := HS
        rw [HR.out] at HC
        clear HN HS HR
        go_wp2_with fail
        refine HC.out.mono ?_
        rintro e w3 ⟨v3, rfl, ho3, hb3⟩
        obtain ⟨A3, c3, rfl, _, _, _⟩ := OI.shp ho3
        have HRR : Hid (RetIZB w r (.returned (.tuple #[.slice A3 o.length c3, .int .i64 (m : Nat), .bool true])) w3) := hid ⟨_, by rw [HE2.out], by rw [HE2.out]; exact Own.wide ho3 hz (Nat.le_refl _), bthen HB2.out hb3⟩
        clear ho3 hb3 HC HE2
        go_wp2_with fail
        go_ret3
        exact HRR.out
      · have HR := hid (HN.out m (by omega))
        rw [HR.out] at HC
        clear HN HS HR
        go_wp2_with fail
        refine HC.out.mono ?_
        rintro e w3 ⟨v3, rfl, ho3, hb3⟩
        obtain ⟨A3, c3, rfl, _, _, _⟩ := OI.shp ho3
        have BW3 : Aside (Below w.heap.size w w3) := bthen HB2.out hb3
        clear ho3 hb3 HC HE2 BW
        go_wp2_with fail
        go_roundg (M - (m + 1))
        case measure => omega
        case rel => exact ⟨m + 1, by omega, by omega, by go_num, BW3⟩
end Go.Proofs.Ytcknhjeefdbhbaa
set_option linter.unusedVariables false
set_option linter.unusedSimpArgs false
namespace Go.Proofs.Ytcknhjeefdbhbaa
open Go.RowKit

/-! ### The reference's place -/
def frmN (ts : List TaskV) (p : List Int) (ns : List Int) : Nat → Int
  | 0 => 0
  | j + 1 => max (frmN ts p ns j) (el p (el ns j).toNat + (tel ts (el ns j).toNat).lat)
theorem frmN_bnd {ts : List TaskV} (hO : TOk ts) {p : List Int} (hp : Sm0 p) (hl : p.length < ts.length) {j : Nat} (hj : j ≤ (tel ts p.length).needs.length) :
    0 ≤ frmN ts p (tel ts p.length).needs j ∧ frmN ts p (tel ts p.length).needs j ≤ 1006 := by
  induction j with
  | zero => simp [frmN]
  | succ j ih =>
    simp only [frmN]
    have h1 := ih (by omega)
    have h2 := hO.need p.length hl j (by omega)
    have h3 := hp (el (tel ts p.length).needs j).toNat (by omega)
    have h4 := hO.lat (el (tel ts p.length).needs j).toNat (by omega)
    omega
theorem frmN_le {ts : List TaskV} {p ns : List Int} {t : Int} {n : Nat} (h0 : 0 ≤ t) : frmN ts p ns n ≤ t ↔ ∀ j, j < n → el p (el ns j).toNat + (tel ts (el ns j).toNat).lat ≤ t := by
  induction n with
  | zero => simp only [frmN]; exact ⟨fun _ j hj => absurd hj (Nat.not_lt_zero _), fun _ => h0⟩
  | succ n ih =>
    simp only [frmN]
    constructor
    · intro h j hj
      by_cases e : j = n
      · subst e; omega
      · exact ih.1 (by omega) j (by omega)
    · intro h
      have h1 := ih.2 fun j hj => h j (by omega)
      have h2 := h n (by omega)
      omega
theorem fitP_frm {ts : List TaskV} (hO : TOk ts) {p : List Int} (hl : p.length < ts.length) {t : Nat} :
    fitP ts p t = (portN ts (p ++ [(t : Int)]) p.length p.length && decide (frmN ts p (tel ts p.length).needs (tel ts p.length).needs.length ≤ t)) := by
  unfold fitP fitB
  congr 1
  rw [Bool.eq_iff_iff, decide_eq_true_eq, frmN_le (by omega)]
  unfold lateN
  rw [List.all_eq_true]
  constructor
  · intro h j hj
    have hb := hO.need p.length hl j hj
    have := h _ (el_mem hj)
    unfold lateB at this
    rw [decide_eq_true_eq, el_last, el_app (by omega)] at this
    exact this
  · intro h x hx
    obtain ⟨j, hj, rfl⟩ := List.getElem_of_mem hx
    have hb := hO.need p.length hl j hj
    have := h j hj
    have e := el_get hj
    rw [List.getElem?_eq_getElem hj] at e
    rw [Option.some.inj e]
    unfold lateB
    rw [decide_eq_true_eq, el_last, el_app (by omega)]
    exact this
theorem portN_next {ts : List TaskV} {p : List Int} {t : Int} {k : Nat} (hk : k < p.length) :
    portN ts (p ++ [t]) p.length (k + 1) = (portN ts (p ++ [t]) p.length k && !((tel ts k).port == (tel ts p.length).port && el p k == t)) := by
  simp only [portN]; rw [el_last, el_app hk]
theorem Sm0.snoc {p : List Int} (h : Sm0 p) {t : Int} (h0 : 0 ≤ t) (h1 : t ≤ 1000) : Sm0 (p ++ [t]) := fun k hk => by
  rw [List.length_append, List.length_singleton] at hk
  by_cases e : k = p.length
  · subst e; rw [el_last]; exact ⟨h0, h1⟩
  · rw [el_app (by omega)]; exact h k (by omega)
set_option maxRecDepth 100000 in
set_option maxHeartbeats 1000000 in
theorem s_l06Place (ts : List TaskV) (A' A2 : Option Addr) (c' c2 : Nat) (L : Int) (hO : TOk ts) (hL0 : 0 ≤ L) (hL1 : L ≤ 300) : ∀ (d : Nat) (p : List Int) (W : World) (A : Option Addr) (c lo : Nat), p.length + d = ts.length → lo ≤ W.heap.size → Sm0 p →
    OI W lo W.heap.size (.slice A p.length c) p → RdT W A' ts → RdI W A2 (hts ts) →
    Calls Try.prog 156 #[.slice A' ts.length c', .slice A2 ts.length c2, .slice A p.length c, .int .i64 L] W fun e W' =>
      ∃ v, e = .returned (.tuple #[v, .bool (plD ts L d p).isSome]) ∧ OI W' lo W'.heap.size v ((plD ts L d p).getD []) ∧ Below W.heap.size W W' := by
  have hfew := hO.few
  intro d
  induction d with
  | zero =>
    intro p W A c lo hpd hlo hS hv hT hH
    have he : ((p.length : Int) == (ts.length : Int)) = true := by simp; omega
    have HV := hid hv
    have HD : Hid (plD ts L 0 p = some p) := hid rfl
    rw [HD.out]
    clear hT hpd hv hH hS
    generalize hq : p.length = q at *
    go_enter Try.func156, Try.ntmps156
    go_wp2
    go_ret2
    exact ⟨_, rfl, HV.out, Below.refl _ _⟩
  | succ d ih =>
    intro p W A c lo hpd hlo hS hv hT hH
    have he : ((p.length : Int) == (ts.length : Int)) = false := by simp; omega
    have hpl : p.length < ts.length := by omega
    have hin : (p.length : Int) < (ts.length : Int) := by omega
    obtain ⟨bt, offt, An, cn, rfl, p0, p1, p2, _, hrn⟩ := hT.get hpl
    obtain ⟨b2, off2, rfl, hch⟩ := hH.get (k := p.length) (by rw [hts_length]; omega)
    obtain ⟨T, hT'⟩ : ∃ T : Nat, T = (L - el (hts ts) p.length + 1).toNat := ⟨_, rfl⟩
    obtain ⟨hh0, hh1⟩ := bnd_hts hO p.length
    have HTT : Hid (∀ t : Nat, (t : Int) + el (hts ts) p.length ≤ L ↔ t < T) := hid fun t => by omega
    have hT300 : T ≤ 301 := by omega
    have HPT : Hid (plD ts L (d + 1) p = plT (fun t => if fitP ts p t then plD ts L d (p ++ [t]) else none) T 0) := hid (by simp only [plD]; rw [← hT'])
    have hfr := frmN_bnd hO hS hpl (Nat.le_refl _)
    obtain ⟨fr, hfe⟩ := Int.eq_ofNat_of_zero_le hfr.1
    have HFT : Hid (∀ t : Nat, fr ≤ t → portN ts (p ++ [(t : Int)]) p.length p.length = true → (fun t => if fitP ts p t then plD ts L d (p ++ [t]) else none) (t : Int) = plD ts L d (p ++ [(t : Int)])) := hid fun t h1 h2 => by
      show (if fitP ts p (t : Int) then plD ts L d (p ++ [(t : Int)]) else none) = _
      rw [fitP_frm hO hpl, h2, hfe, decide_eq_true (by omega)]; rfl
    have HFN : Hid (∀ t : Nat, portN ts (p ++ [(t : Int)]) p.length p.length = false → (fun t => if fitP ts p t then plD ts L d (p ++ [t]) else none) (t : Int) = none) := hid fun t h1 => by
      show (if fitP ts p (t : Int) then plD ts L d (p ++ [(t : Int)]) else none) = _
      rw [fitP_frm hO hpl, h1]; rfl
    have HSK : Hid (plT (fun t => if fitP ts p t then plD ts L d (p ++ [t]) else none) T 0 = plT (fun t => if fitP ts p t then plD ts L d (p ++ [t]) else none) (T - fr) fr) := hid (plT_skip T fr fun t ht => by
      show (if fitP ts p (t : Int) then plD ts L d (p ++ [(t : Int)]) else none) = _
      rw [fitP_frm hO hpl, hfe, decide_eq_false (by omega)]; simp)
    have HFB := hid (fun j hj => frmN_bnd hO hS hpl (j := j) hj)
    have HFS : Hid (∀ j, frmN ts p (tel ts p.length).needs (j + 1) = max (frmN ts p (tel ts p.length).needs j) (el p (el (tel ts p.length).needs j).toNat + (tel ts (el (tel ts p.length).needs j).toNat).lat)) := hid fun _ => rfl
    have HF0 : Hid (frmN ts p (tel ts p.length).needs 0 = 0) := hid rfl
    have hfr2 : fr ≤ 1006 := by omega
    have HV := hid hv
    have HT := hid hT
    have HH := hid hH
    have HO := hid hO
    have HS := hid hS
    have IH := hid ih
    have HPD := hid hpd
    have HRN := hid hrn
    have HFE := hid hfe
    have hnl := hO.len p.length hpl
    clear hT hv hpd ih hH hO hS hrn hT' hfr hfe
    have HPTS := hid (HPT.out.trans HSK.out)
    clear HPT HSK
    generalize (fun t => if fitP ts p t then plD ts L d (p ++ [t]) else none) = F at *
    generalize plD ts L (d + 1) p = R at *
    generalize el (hts ts) p.length = h at *
    go_enter Try.func156, Try.ntmps156
    go_wp2
    go_loopg [11, 12] (tel ts p.length).needs.length (fun gg f s wr => ∃ j : Nat, j ≤ (tel ts p.length).needs.length ∧ (tel ts p.length).needs.length - j ≤ gg ∧ s = .int .i64 j ∧ f = .int .i64 (frmN ts p (tel ts p.length).needs j) ∧ Aside (Below W.heap.size W wr))
    case atStart => exact ⟨0, Nat.zero_le _, by omega, rfl, (by rw [HF0.out]), Below.refl _ _⟩
    case round =>
      obtain ⟨j, hj, hg, rfl, rfl, BW⟩ := hrel
      have q0 := bcell BW.out p0
      have q2 := bcell BW.out p2
      by_cases hlt : j < (tel ts p.length).needs.length
      · obtain ⟨bn, offn, rfl, hcn⟩ := (HRN.out.below BW.out).get hlt
        have hnd := HO.out.need p.length hpl j hlt
        obtain ⟨x, hx⟩ : ∃ x : Nat, el (tel ts p.length).needs j = x := ⟨(el (tel ts p.length).needs j).toNat, by omega⟩
        have hxp : x < p.length := by omega
        have hxt : (x : Int) < (ts.length : Int) := by omega
        have hxp' : (x : Int) < (p.length : Int) := by omega
        obtain ⟨b3, off3, A3, c3, e3, _, hcl, _, _, _⟩ := (HT.out.below BW.out).get (k := x) (by omega)
        cases e3
        obtain ⟨b4, off4, rfl, hcp⟩ := ((OwnI.rd HV.out).below BW.out).get hxp
        have hlat := HO.out.lat x (by omega)
        have hpx := HS.out x hxp
        have hfb := HFB.out j hj
        have HSj := hid (HFS.out j)
        rw [hx, Int.toNat_natCast] at HSj
        rw [hx] at hcn
        have kl := lcell hcl
        have kp := lcell hcp
        have hlt' : (j : Int) < ((tel ts p.length).needs.length : Int) := by omega
        clear HFS HFB HRN HFT HFN HPTS IH hnd hx HF0 HFE
        generalize frmN ts p (tel ts p.length).needs j = f0 at *
        generalize (tel ts p.length).needs.length = nl at *
        generalize el p x = px at *
        generalize (tel ts x).lat = lx at *
        have HM := hid (s_l00Max f0 (px + lx))
        go_wp2
        refine wp_region_calm (by kernel_rfl) (by kernel_rfl) ?_
        repeat (go_big_quiet_step (exact calm_same (HM.out _)))
        refine wpQuiet_nil ?_
        intro _ hw'
        obtain ⟨xq, hw''⟩ := hw'
        subst hw''
        have hxb := bthen BW.out xq.below
        have BX : Aside (Below W.heap.size W xq.val) := hxb
        clear hxb hcl hcp hcn q0 q2 kl kp BW
        go_wp2
        go_roundg (nl - (j + 1))
        case measure => omega
        case rel => exact ⟨j + 1, by omega, by omega, by go_num, (by rw [HSj.out]), BX⟩
      · have : j = (tel ts p.length).needs.length := by omega
        subst this
        have hlt' : ¬ (((tel ts p.length).needs.length : Nat) : Int) < (((tel ts p.length).needs.length : Nat) : Int) := by omega
        have hfe := HFE.out
        rw [hfe]
        clear HFS HFB HRN HF0 HFE hfe
        generalize (tel ts p.length).needs.length = nl at *
        go_wp2
        go_loopg [14] (T - fr) (fun gg s wr => ∃ t : Nat, fr ≤ t ∧ t ≤ 1006 ∧ T - t ≤ gg ∧ s = .int .i64 t ∧ Aside (Below W.heap.size W wr) ∧ Aside (plT F (T - t) (t : Nat) = R))
        case atStart => exact ⟨fr, Nat.le_refl _, hfr2, Nat.le_refl _, rfl, BW, HPTS.out.symm⟩
        case round =>
          obtain ⟨t, ht0, ht1, hg, rfl, BW, AL⟩ := hrel
          have kh := bcell BW.out hch
          by_cases htl : t < T
          · have hle : (t : Int) + h ≤ L := (HTT.out t).2 htl
            have hst := plT_step F htl
            rw [AL.out] at hst
            have HSTt := hid hst
            have HFTt := hid (HFT.out t ht0)
            have HFNt := hid (HFN.out t)
            have HPN := hid (fun k (hk : k < p.length) => portN_next (ts := ts) (t := (t : Int)) hk)
            have HP0 : Hid (portN ts (p ++ [(t : Int)]) p.length 0 = true) := hid rfl
            clear hst HFT HFN HPTS AL HTT
            go_wp2
            go_loopg [15, 16] p.length (fun gg f s wr => ∃ k : Nat, k ≤ p.length ∧ p.length - k ≤ gg ∧ s = .int .i64 k ∧ f = .bool (portN ts (p ++ [(t : Int)]) p.length k) ∧ Aside (Below W.heap.size W wr))
            case atStart => exact ⟨0, Nat.zero_le _, by omega, rfl, (by rw [HP0.out]), BW⟩
            case round =>
              obtain ⟨k, hk, hgk, rfl, rfl, BK⟩ := hrel
              by_cases hlk : k < p.length
              · have hlk' : (k : Int) < (p.length : Int) := by omega
                have hkt : (k : Int) < (ts.length : Int) := by omega
                obtain ⟨b3, off3, A3, c3, e3, hck, _, _, _, _⟩ := (HT.out.below BK.out).get (k := k) (by omega)
                cases e3
                obtain ⟨b4, off4, rfl, hcp⟩ := ((OwnI.rd HV.out).below BK.out).get hlk
                have l0 := lcell (bcell BK.out p0)
                have lk := lcell hck
                have lp := lcell hcp
                have HPk := hid (HPN.out k hlk)
                clear HPN HP0 HFTt HFNt HSTt IH hck hcp
                generalize portN ts (p ++ [(t : Int)]) p.length k = f0 at *
                generalize (tel ts p.length).port = pi_ at *
                generalize (tel ts k).port = pk at *
                generalize el p k = vk at *
                cases f0 with
                | false =>
                  clear l0 lk lp
                  go_wp2
                  refine wp_region_calm (by kernel_rfl) (by kernel_rfl) ?_
                  repeat (go_big_quiet_step (fail))
                  refine wpQuiet_nil ?_
                  intro _ hw'
                  obtain ⟨xq, hw''⟩ := hw'
                  subst hw''
                  have BX : Aside (Below W.heap.size W xq.val) := bthen BK.out xq.below
                  clear BK BW
                  go_wp2
                  go_roundg (p.length - (k + 1))
                  case measure => omega
                  case rel => exact ⟨k + 1, by omega, by omega, by go_num, (by rw [HPk.out]; rfl), BX⟩
                | true =>
                  by_cases hpp : pk = pi_
                  · subst hpp
                    go_wp2
                    refine wp_region_calm (by kernel_rfl) (by kernel_rfl) ?_
                    repeat (go_big_quiet_step (fail))
                    refine wpQuiet_nil ?_
                    intro _ hw'
                    obtain ⟨xq, hw''⟩ := hw'
                    subst hw''
                    have BX : Aside (Below W.heap.size W xq.val) := bthen BK.out xq.below
                    clear BK BW l0 lk lp
                    go_wp2
                    go_roundg (p.length - (k + 1))
                    case measure => omega
                    case rel => exact ⟨k + 1, by omega, by omega, by go_num, (by rw [HPk.out]; simp [bne]), BX⟩
                  · have hpp' : (pk == pi_) = false := by simpa using hpp
                    have hpp3 : (pk != pi_) = true := by simpa using hpp
                    go_wp2
                    refine wp_region_calm (by kernel_rfl) (by kernel_rfl) ?_
                    repeat (go_big_quiet_step (fail))
                    refine wpQuiet_nil ?_
                    intro _ hw'
                    obtain ⟨xq, hw''⟩ := hw'
                    subst hw''
                    have BX : Aside (Below W.heap.size W xq.val) := bthen BK.out xq.below
                    clear BK BW l0 lk lp
                    go_wp2
                    go_roundg (p.length - (k + 1))
                    case measure => omega
                    case rel => exact ⟨k + 1, by omega, by omega, by go_num, (by rw [HPk.out, hpp']; rfl), BX⟩
              · have : k = p.length := by omega
                subst this
                have hlk' : ¬ ((p.length : Nat) : Int) < ((p.length : Nat) : Int) := by omega
                clear HPN HP0
                generalize portN ts (p ++ [(t : Int)]) p.length p.length = pf at *
                cases pf with
                | false =>
                  have AL5 : Aside (plT F (T - (t + 1)) ((t + 1 : Nat) : Int) = R) := by unfold Aside; rw [HSTt.out, HFNt.out rfl]; rfl
                  clear HSTt HFTt HFNt IH
                  go_wp2
                  go_roundg (T - (t + 1))
                  case measure => omega
                  case rel => exact ⟨t + 1, by omega, by omega, by omega, by go_num, BK, AL5⟩
                | true =>
                  have HFt := hid (HFTt.out rfl)
                  have hrd := (OwnI.rd HV.out).below BK.out
                  have CO := hid (s_l00Own wr A c p (by omega) hrd)
                  have hwz := BK.out.size
                  have hSn := hid (HS.out.snoc (t := (t : Int)) (by omega) (by omega))
                  have hTr := hid (HT.out.below BK.out)
                  have hHr := hid (HH.out.below BK.out)
                  have hl8 : (p ++ [(t : Int)]).length = p.length + 1 := by simp
                  clear HFTt HFNt hrd HV HT HH HS HO
                  have hpl7 : p.length ≤ 7 := by omega
                  generalize hR2 : plD ts L d (p ++ [(t : Int)]) = R2 at *
                  have IH2 : Hid (∀ (W' : World) (A : Option Addr) (c lo : Nat), lo ≤ W'.heap.size → OI W' lo W'.heap.size (.slice A (p.length + 1) c) (p ++ [(t : Int)]) → RdT W' (some ⟨bt, offt, none⟩) ts → RdI W' (some ⟨b2, off2, none⟩) (hts ts) →
                      Calls Try.prog 156 #[.slice (some ⟨bt, offt, none⟩) ts.length c', .slice (some ⟨b2, off2, none⟩) ts.length c2, .slice A (p.length + 1) c, .int .i64 L] W' fun e W'' =>
                        ∃ v, e = .returned (.tuple #[v, .bool R2.isSome]) ∧ OI W'' lo W''.heap.size v (R2.getD []) ∧ Below W'.heap.size W' W'') := hid (by
                    intro W' A c lo h1 h2 h3 h4
                    have := IH.out (p ++ [(t : Int)]) W' A c lo (by rw [hl8]; have := HPD.out; omega) h1 hSn.out (by rw [hl8]; exact h2) h3 h4
                    rw [hR2, hl8] at this
                    exact this)
                  clear IH hR2 hSn
                  cases R2 with
                  | some q =>
                    have HRq : Hid (R = some q) := hid (by rw [HSTt.out, HFt.out]; rfl)
                    clear HSTt HFt
                    go_wp2_with fail
                    refine CO.out.mono ?_
                    rintro e w7 ⟨v7, rfl, ho7, hb7⟩
                    obtain ⟨A7, c7, rfl, _, _, _⟩ := Own.int ho7
                    have hsz7 := hb7.size
                    clear CO
                    go_wp2_with ((at_builtin; refine wp_append1 wr.heap.size rfl _ _ 25 2 (.int .i64 0) 8 rfl Try.underlying25 infoInt rfl (.slice A7 p.length c7) p.length _ (.int .i64 (t : Nat)) rfl rfl rfl ho7 hsz7 (by omega) (by omega) ?_; intro v8 w8 hown8 hbel8))
                    have hown8' : OwnI w8 wr.heap.size w8.heap.size 2 v8 (p ++ [(t : Int)]) := by
                      unfold OwnI; rw [List.length_append, List.length_singleton, ints_append]; exact hown8
                    have hb8 : Below wr.heap.size wr w8 := hb7.trans (hbel8.mono (by omega))
                    obtain ⟨A8, c8, rfl, _, _, hrd8⟩ := Own.int hown8'
                    rw [hl8] at hown8'
                    rw [hl8]
                    have CR := hid (IH2.out w8 A8 c8 wr.heap.size hb8.size hown8' (hTr.out.below hb8) (hHr.out.below hb8))
                    have BW8 := hid (bthen BK.out hb8)
                    clear IH2 hown8 hown8' hbel8 ho7 hb7 hrd8 hTr hHr
                    go_wp2_with fail
                    refine CR.out.mono ?_
                    rintro e w9 ⟨v9, rfl, ho9, hb9⟩
                    obtain ⟨A9, c9, rfl, _, _, _⟩ := OI.shp ho9
                    have HRR : Hid (∃ v, Ending.returned (.tuple #[.slice A9 q.length c9, .bool true]) = .returned (.tuple #[v, .bool R.isSome]) ∧ OI w9 lo w9.heap.size v (R.getD []) ∧ Below W.heap.size W w9) := hid (by
                      rw [HRq.out]
                      exact ⟨_, rfl, Own.wide ho9 (by omega) (Nat.le_refl _), bthen BW8.out hb9⟩)
                    clear HRq ho9 hb9 BW8 CR hb8
                    go_wp2
                    go_ret2
                    exact HRR.out
                  | none =>
                    have AL5 : Aside (plT F (T - (t + 1)) ((t + 1 : Nat) : Int) = R) := by unfold Aside; rw [HSTt.out, HFt.out]; rfl
                    clear HSTt HFt
                    go_wp2_with fail
                    refine CO.out.mono ?_
                    rintro e w7 ⟨v7, rfl, ho7, hb7⟩
                    obtain ⟨A7, c7, rfl, _, _, _⟩ := Own.int ho7
                    have hsz7 := hb7.size
                    clear CO
                    go_wp2_with ((at_builtin; refine wp_append1 wr.heap.size rfl _ _ 25 2 (.int .i64 0) 8 rfl Try.underlying25 infoInt rfl (.slice A7 p.length c7) p.length _ (.int .i64 (t : Nat)) rfl rfl rfl ho7 hsz7 (by omega) (by omega) ?_; intro v8 w8 hown8 hbel8))
                    have hown8' : OwnI w8 wr.heap.size w8.heap.size 2 v8 (p ++ [(t : Int)]) := by
                      unfold OwnI; rw [List.length_append, List.length_singleton, ints_append]; exact hown8
                    have hb8 : Below wr.heap.size wr w8 := hb7.trans (hbel8.mono (by omega))
                    obtain ⟨A8, c8, rfl, _, _, hrd8⟩ := Own.int hown8'
                    rw [hl8] at hown8'
                    rw [hl8]
                    have CR := hid (IH2.out w8 A8 c8 wr.heap.size hb8.size hown8' (hTr.out.below hb8) (hHr.out.below hb8))
                    have BW8 := hid (bthen BK.out hb8)
                    clear IH2 hown8 hown8' hbel8 ho7 hb7 hrd8 hTr hHr
                    go_wp2_with fail
                    refine CR.out.mono ?_
                    rintro e w9 ⟨v9, rfl, ho9, hb9⟩
                    obtain ⟨A9, c9, rfl, _, _, _⟩ := OI.shp ho9
                    have BW9 : Aside (Below W.heap.size W w9) := bthen BW8.out hb9
                    clear ho9 hb9 BW8 CR hb8 BK BW
                    go_wp2
                    go_roundg (T - (t + 1))
                    case measure => omega
                    case rel => exact ⟨t + 1, by omega, by omega, by omega, by go_num, BW9, AL5⟩
          · have hle : ¬ (t : Int) + h ≤ L := fun h1 => htl ((HTT.out t).1 h1)
            have hfn : none = R := by have := AL.out; rw [show T - t = 0 by omega] at this; exact this
            subst hfn
            have hwz := BW.out.size
            have hlit : Own (wr.alloc (.cells #[] 2)) wr.heap.size (wr.heap.size + 1) 2 1 (.slice (some ⟨wr.heap.size, 0, none⟩) 0 0) 0 [] := by
              have := Own.of (World.ownsRow_lit (base := wr.heap.size) (e := 2) (size := 1) wr #[] 0 (Nat.le_refl _) (by simp [maxLen]) rfl)
              simpa using this
            clear AL HFT HFN HPTS HT HV IH
            go_wp2
            go_ret2
            exact ⟨_, rfl, Own.wide hlit (by omega) (by simp), balloc BW.out _⟩
set_option maxRecDepth 100000 in
theorem s_BestSchedule (w : World) (A : Option Addr) (c : Nat) (ts : List TaskV) (hl : tsz ts ≤ 1048576) (hT : RdT w A ts) :
    Calls Try.prog 68 #[.slice A ts.length c] w (RetIZB w (m_BestSchedule ts)) := by
  have c0 := s_l06Is w A c ts hl hT
  have HE : Hid (m_BestSchedule ts = if tasksB ts then (bstS ts, bstL ts, true) else ([], 0, false)) := hid rfl
  cases h0 : tasksB ts with
  | false =>
    rw [h0] at c0 HE
    have C0 := hid c0
    clear c0 h0 hT hl
    generalize m_BestSchedule ts = r at HE ⊢
    go_enter Try.func68, Try.ntmps68
    go_wp2_with fail
    refine C0.out.mono ?_
    rintro e w1 ⟨rfl, hb1⟩
    go_wp2_with fail
    go_ret3
    exact ⟨_, by rw [HE.out]; rfl, by rw [HE.out]; exact Own.nil _ _ _ _ _, hb1⟩
  | true =>
    rw [h0] at c0
    rw [h0] at HE
    have C0 := hid c0
    have hO := TOk.of h0
    have hfew := hO.few
    have hB := Best.of hO
    have HAN := hid hB.ans
    have HNO := hid hB.no
    have hpath := hB.path
    have hlow := hB.low
    have hhigh := hB.high
    have HE2 : Hid (m_BestSchedule ts = (bstS ts, bstL ts, true)) := hid HE.out
    have HPB : Hid (∀ W, Below w.heap.size w W → Calls Try.prog 155 #[.slice A ts.length c] W fun e w' => e = .returned (.tuple #[.int .i64 (mxN (hts ts) ts.length), .bool true]) ∧ Below W.heap.size W w') := hid fun W hW => by
      have := s_PathBound W A c ts hl (hT.below hW)
      unfold m_PathBound at this
      rw [h0] at this
      exact this
    have CH := hid (fun W (hW : Below w.heap.size w W) => s_l06Heights W A c ts hO (hT.below hW))
    have HT := hid hT
    have hhl := hts_length ts
    have HHL := hid hhl
    have HW := hid (fun (L : Int) (h0 : 0 ≤ L) (h1 : L ≤ 300) (A2 : Option Addr) (c2 : Nat) (W : World) (hW : Below w.heap.size w W) (hH : RdI W A2 (hts ts)) => s_l06Place ts A A2 c c2 L hO h0 h1 ts.length [] (W.alloc (.cells #[] 2)) (some ⟨W.heap.size, 0, none⟩) 0 W.heap.size (by simp) (by simp)
      (fun k hk => absurd hk (Nat.not_lt_zero _))
      (by
        have := Own.of (World.ownsRow_lit (base := W.heap.size) (e := 2) (size := 1) W #[] 0 (Nat.le_refl _) (by simp [maxLen]) rfl)
        simpa [OI, OwnI, ints] using this) ((hT.below hW).below (ballocw _ _)) (RdI.below hH (ballocw _ _)))
    clear c0 h0 hT hl hO HE hB
    generalize bstS ts = S at *
    generalize bstL ts = Lb at *
    generalize mxN (hts ts) ts.length = m0 at *
    generalize m_BestSchedule ts = r at *
    go_enter Try.func68, Try.ntmps68
    go_wp2_with fail
    refine C0.out.mono ?_
    rintro e w1 ⟨rfl, hb1⟩
    have C1 := hid (CH.out w1 hb1)
    clear C0 CH
    go_wp2_with fail
    refine C1.out.mono ?_
    rintro e w2 ⟨v2, rfl, ho2, hb2⟩
    obtain ⟨A2, c2, rfl, _, _, hr2⟩ := Own.int ho2
    have HR2 := hid hr2
    have HB2 := hid (bthen hb1 hb2)
    have C2 := hid (HPB.out w2 (bthen hb1 hb2))
    rw [HHL.out]
    clear C1 HPB ho2 hr2 hb1 hb2 hhl
    go_wp2_with fail
    refine C2.out.mono ?_
    rintro e w3 ⟨rfl, hb3⟩
    have HR3 := hid (HR2.out.below hb3)
    have HB3 := hid (bthen HB2.out hb3)
    clear C2 hb3 HR2 HB2
    go_wp2_with fail
    go_loopg [6] (Lb - m0).toNat (fun gg s wr => ∃ L : Int, m0 ≤ L ∧ L ≤ Lb ∧ (Lb - L).toNat ≤ gg ∧ s = .int .i64 L ∧ Aside (Below w3.heap.size w3 wr))
    case atStart => exact ⟨m0, Int.le_refl _, by omega, Nat.le_refl _, rfl, Below.refl _ _⟩
    case round =>
      obtain ⟨L, h1, h2, hg, rfl, BW⟩ := hrel
      have hwr := bthen HB3.out BW.out
      have HC := hid (HW.out L (by omega) (by omega) A2 c2 wr hwr (HR3.out.below BW.out))
      have HWA := hid (balloc hwr (.cells #[] 2))
      have HBA := hid (balloc BW.out (.cells #[] 2))
      have hz := hwr.size
      clear HW HT hwr
      by_cases e : L = Lb
      · subst e
        rw [HAN.out] at HC
        clear HNO HAN
        go_wp2_with fail
        refine HC.out.mono ?_
        rintro e w4 ⟨v4, rfl, ho4, hb4⟩
        obtain ⟨A4, c4, rfl, _, _, _⟩ := OI.shp ho4
        have HRR : Hid (RetIZB w r (.returned (.tuple #[.slice A4 S.length c4, .int .i64 L, .bool true])) w4) := hid ⟨_, by rw [HE2.out], by rw [HE2.out]; exact Own.wide ho4 hz (Nat.le_refl _), bthen HWA.out hb4⟩
        clear ho4 hb4 HC HE2 HWA HBA
        go_wp2_with fail
        go_ret3
        exact HRR.out
      · have HN2 := hid (HNO.out L (by omega) (by omega))
        rw [HN2.out] at HC
        clear HAN HNO HN2
        go_wp2_with fail
        refine HC.out.mono ?_
        rintro e w4 ⟨v4, rfl, ho4, hb4⟩
        obtain ⟨A4, c4, rfl, _, _, _⟩ := OI.shp ho4
        have BW4 : Aside (Below w3.heap.size w3 w4) := bthen HBA.out hb4
        clear ho4 hb4 HC HE2 HWA HBA BW
        go_wp2_with fail
        go_roundg (Lb - (L + 1)).toNat
        case measure => omega
        case rel => exact ⟨L + 1, by omega, by omega, Nat.le_refl _, by go_num, BW4⟩
end Go.Proofs.Ytcknhjeefdbhbaa
set_option linter.unusedVariables false
set_option linter.unusedSimpArgs false
namespace Go.Proofs.Ytcknhjeefdbhbaa
open Go.RowKit

/-- The boxes of BestSchedule: the heights, the times at g. -/
structure BsW (w : World) (ts : List TaskV) (A2 : Option Addr) (g : Nat) (W : World) : Prop where
  below : Below w.heap.size w W
  ge : w.heap.size ≤ g
  lt : g < W.heap.size
  times : OI W g (g + 1) (.slice (some ⟨g, 0, none⟩) ts.length ts.length) (List.replicate ts.length 0)
  high : ∀ V, Chg g (g + 1) W V → RdI V A2 (hts ts)
theorem BsW.one {w w1 w2 : World} {ts : List TaskV} {A2 : Option Addr} {c2 : Nat} (hb1 : Below w.heap.size w w1) (hb2 : Below w1.drew.heap.size w1.drew w2) (ho : OwnI w2 w1.drew.heap.size w2.heap.size 2 (.slice A2 (hts ts).length c2) (hts ts)) (hn : ts.length ≤ 8) :
    BsW w ts A2 w2.heap.size (w2.alloc (.cells (madeCells #[.int .i64 0] ts.length) 2)) := by
  have hba := ballocw w2 (.cells (madeCells #[.int .i64 0] ts.length) 2)
  have h1 := bthen (bthen hb1 (bdrewL w1)) hb2
  have hm := own_made w2 2 (.int .i64 0) ts.length (by omega)
  refine ⟨bthen h1 hba, h1.size, by simp, ?_, fun V hV => ?_⟩
  · unfold OI OwnI; rw [List.length_replicate]; rw [ints_replicate] at hm; exact hm
  · exact OwnI.rd (Own.eqv (ho.eqv (Eqv.of hba (Nat.le_refl _))) (hV.eqv (a := w1.drew.heap.size) (b := w2.heap.size) (.inl (Nat.le_refl _)) (by simp)))
theorem BsW.two {w w1 w2 : World} {ts : List TaskV} {A2 : Option Addr} {c2 : Nat} (hb1 : Below w.heap.size w w1) (hb2 : Below (w1.alloc (.cells (madeCells #[.int .i64 0] ts.length) 2)).drew.heap.size (w1.alloc (.cells (madeCells #[.int .i64 0] ts.length) 2)).drew w2)
    (ho : OwnI w2 (w1.alloc (.cells (madeCells #[.int .i64 0] ts.length) 2)).drew.heap.size w2.heap.size 2 (.slice A2 (hts ts).length c2) (hts ts)) (hn : ts.length ≤ 8) :
    BsW w ts A2 w1.heap.size w2 := by
  have hba := bdrew (ballocw w1 (.cells (madeCells #[.int .i64 0] ts.length) 2))
  have h1 := bthen (bthen hb1 hba) hb2
  have hm := own_made w1 2 (.int .i64 0) ts.length (by omega)
  have hsz : (w1.alloc (.cells (madeCells #[.int .i64 0] ts.length) 2)).drew.heap.size = w1.heap.size + 1 := by show (w1.alloc _).heap.size = _; simp
  rw [hsz] at ho
  have hz2 := hb2.size
  rw [hsz] at hz2
  refine ⟨h1, hb1.size, by omega, ?_, fun V hV => ?_⟩
  · unfold OI OwnI; rw [List.length_replicate]; rw [ints_replicate] at hm
    exact (own_drew hm).eqv (Eqv.of hb2 (by omega))
  · exact OwnI.rd (Own.eqv ho (hV.eqv (.inr (Nat.le_refl _)) (Nat.le_refl _)))
set_option maxRecDepth 100000 in
set_option maxHeartbeats 1000000 in
theorem i_BestSchedule1 (w : World) (A : Option Addr) (c : Nat) (ts : List TaskV) (hO : TOk ts) (hT : RdT w A ts)
    (C0 : Hid (Calls Try.prog 118 #[.slice A ts.length c] w fun e w' => e = .returned (.bool true) ∧ Below w.heap.size w w')) :
    Calls Try.prog 69 #[.slice A ts.length c] w (RetIZB w (bstS ts, bstL ts, true)) := by
  have hfew := hO.few
  have hmk := makeInt ts.length (by omega)
  have HB := hid (Best.of hO)
  have CH := hid (fun W (hW : Below w.heap.size w W) => i_heights W A c ts hO (hT.below hW))
  have CG := hid (fun W A2 c2 (h : RdI W A2 (hts ts)) => i_greatest W A2 c2 (hts ts) (by rw [hts_length]; omega) h)
  have CP := hid (fun W (hW : Below w.heap.size w W) => i_portBound W A c ts hO (hT.below hW))
  have HT := hid hT
  have HO := hid hO
  have hhl := hts_length ts
  rw [hhl] at CG
  have HHL := hid hhl
  clear hT hO hhl
  go_enter Try.func69, Try.ntmps69
  go_wp2_with fail
  refine C0.out.mono ?_
  rintro e w1 ⟨rfl, hb1⟩
  have HB1 := hid hb1
  clear hb1 C0
  go_wp2_with fail
  go_cut [5, 6] from 11 to 15 (fun s5 s6 wz => ∃ A2 c2 g, s5 = .slice A2 ts.length c2 ∧ s6 = .slice (some ⟨g, 0, none⟩) ts.length ts.length ∧ Aside (BsW w ts A2 g wz))
  case first =>
    clear CG CP HB
    go_region_with (first | (go_at_call 157; refine (CH.out _ ?_).mono ?_; (first | exact bthen HB1.out (bdrewL _) | exact bthen HB1.out (bdrew (ballocw _ _))); rintro e w2 ⟨v2, rfl, ho2, hb2⟩; obtain ⟨A2, c2, rfl, _, _, _⟩ := Own.int ho2; have HO2 := hid ho2; clear ho2; rw [HHL.out]))
    all_goals go_wp2
    all_goals go_meet
    · exact ⟨A2, c2, _, rfl, rfl, BsW.one HB1.out hb2 HO2.out hfew⟩
    · exact ⟨A2, c2, _, rfl, rfl, BsW.two HB1.out hb2 HO2.out hfew⟩
  case rest =>
    obtain ⟨A2, c2, g, rfl, rfl, HW⟩ := hcut
    have hmx := HB.out.path
    have hpb := HB.out.port
    have hlow := HB.out.low
    have hhigh := HB.out.high
    have hpb0 : 0 ≤ pbN ts 3 ∨ pbN ts 3 < 0 := by omega
    have hrz : Sm0 (List.replicate ts.length 0) := fun k hk => by
      rw [List.length_replicate] at hk
      have : el (List.replicate ts.length 0) k = 0 := by unfold el; rw [List.getD_eq_getElem?_getD, List.getElem?_replicate, if_pos hk]; rfl
      omega
    have HRZ := hid hrz
    have HAN := hid HB.out.ans
    have HNO := hid HB.out.no
    have HLN := hid HB.out.len
    have hK : ∀ W, Chg g (g + 1) wc W → RdT W A ts ∧ RdI W A2 (hts ts) := fun W h => by
      have hz := HW.out.below
      exact ⟨HT.out.below (hz.trans (h.below HW.out.ge hz.size)), HW.out.high W h⟩
    have HC := hid (fun (L : Int) (h0 : 0 ≤ L) (h1 : L ≤ 300) (xs : List Int) (W : World) (hl : xs.length = ts.length) (hs : Sm0 xs) (ho : OI W g (g + 1) (.slice (some ⟨g, 0, none⟩) ts.length ts.length) xs) (hc : Chg g (g + 1) wc W) =>
      i_complete ts HO.out L h0 h1 A A2 c c2 g ts.length wc hK ts.length 0 xs W (by omega) hl hs ho hc)
    have CG2 := hid (CG.out wc A2 c2 (HW.out.high wc (Chg.refl _ _ _)))
    have CP2 := hid (CP.out wc HW.out.below)
    clear hmk CH CG CP HB hrz hK HT HO HB1 HHL
    unfold CmpR at HC
    simp only [List.take_zero] at HC
    generalize bstL ts = Lb at *
    generalize bstS ts = S at *
    generalize mxN (hts ts) ts.length = m0 at *
    generalize pbN ts 3 = p0 at *
    by_cases hmp : m0 < p0
    · go_wp2_with fail
      refine CG2.out.mono ?_
      rintro e w3 ⟨rfl, rfl⟩
      go_wp2_with fail
      refine CP2.out.mono ?_
      rintro e w4 ⟨rfl, hb4⟩
      have hC4 : Chg g (g + 1) wc w4 := Chg.of hb4 (Nat.le_refl _)
      have HO4 := hid (OI.eqv HW.out.times (Eqv.of hb4 (by have := HW.out.lt; omega)))
      have HC4 := hid hC4
      clear hb4 hC4 CG2 CP2
      go_wp2_with fail
      go_loopg [7] (Lb - p0).toNat (fun gg s wr => ∃ L : Int, p0 ≤ L ∧ L ≤ Lb ∧ (Lb - L).toNat ≤ gg ∧ s = .int .i64 L ∧ Aside (Chg g (g + 1) wc wr) ∧ Aside (∃ xs, OI wr g (g + 1) (.slice (some ⟨g, 0, none⟩) ts.length ts.length) xs ∧ xs.length = ts.length ∧ Sm0 xs))
      case atStart => exact ⟨p0, Int.le_refl _, by omega, Nat.le_refl _, rfl, HC4.out, _, HO4.out, List.length_replicate, HRZ.out⟩
      case round =>
        obtain ⟨L, h1, h2, hg, rfl, BW, XS⟩ := hrel
        obtain ⟨xs, hox, hxl, hxs⟩ := XS.out
        have HCC := hid (HC.out L (by omega) (by omega) xs wr hxl hxs hox BW.out)
        have hL300 : L ≤ 300 := by omega
        clear hox hxs HC XS HO4 HC4 HRZ
        by_cases e : L = Lb
        · subst e
          rw [HAN.out] at HCC
          clear HAN HNO
          go_wp2_with fail
          refine HCC.out.mono ?_
          rintro e w6 ⟨rfl, zs, z1, z2, z3, z4, z5, z6⟩
          have hzs := z5 S rfl
          subst hzs
          have HRR : Hid (RetIZB w (zs, L, true) (.returned (.tuple #[.slice (some ⟨g, 0, none⟩) ts.length ts.length, .int .i64 L, .bool true])) w6) := hid (by
            have hge := HW.out.ge
            have hlt := HW.out.lt
            have hz := BW.out.size
            have hz6 := z6.size
            exact ⟨_, rfl, Own.wide z1 hge (by omega), HW.out.below.trans ((BW.out.trans z6).below hge HW.out.below.size)⟩)
          clear z1 z2 z3 z4 z5 z6 HCC BW HLN HW
          go_wp2_with fail
          go_ret3
          exact HRR.out
        · have HN2 := hid (HNO.out L (by omega) (by omega))
          rw [HN2.out] at HCC
          clear HAN HNO HN2
          go_wp2_with fail
          refine HCC.out.mono ?_
          rintro e w6 ⟨rfl, zs, z1, z2, z3, z4, z5, z6⟩
          have BW6 : Aside (Chg g (g + 1) wc w6) := BW.out.trans z6
          have XS6 : Aside (∃ xs, OI w6 g (g + 1) (.slice (some ⟨g, 0, none⟩) ts.length ts.length) xs ∧ xs.length = ts.length ∧ Sm0 xs) := ⟨zs, z1, z2, z4⟩
          clear z1 z2 z3 z4 z5 z6 HCC BW HLN
          go_wp2_with fail
          go_roundg (Lb - (L + 1)).toNat
          case measure => omega
          case rel => exact ⟨L + 1, by omega, by omega, Nat.le_refl _, by go_num, BW6, XS6⟩
    · go_wp2_with fail
      refine CG2.out.mono ?_
      rintro e w3 ⟨rfl, rfl⟩
      go_wp2_with fail
      refine CP2.out.mono ?_
      rintro e w4 ⟨rfl, hb4⟩
      have hC4 : Chg g (g + 1) wc w4 := Chg.of hb4 (Nat.le_refl _)
      have HO4 := hid (OI.eqv HW.out.times (Eqv.of hb4 (by have := HW.out.lt; omega)))
      have HC4 := hid hC4
      clear hb4 hC4 CG2 CP2
      go_wp2_with fail
      go_loopg [7] (Lb - m0).toNat (fun gg s wr => ∃ L : Int, m0 ≤ L ∧ L ≤ Lb ∧ (Lb - L).toNat ≤ gg ∧ s = .int .i64 L ∧ Aside (Chg g (g + 1) wc wr) ∧ Aside (∃ xs, OI wr g (g + 1) (.slice (some ⟨g, 0, none⟩) ts.length ts.length) xs ∧ xs.length = ts.length ∧ Sm0 xs))
      case atStart => exact ⟨m0, Int.le_refl _, by omega, Nat.le_refl _, rfl, HC4.out, _, HO4.out, List.length_replicate, HRZ.out⟩
      case round =>
        obtain ⟨L, h1, h2, hg, rfl, BW, XS⟩ := hrel
        obtain ⟨xs, hox, hxl, hxs⟩ := XS.out
        have HCC := hid (HC.out L (by omega) (by omega) xs wr hxl hxs hox BW.out)
        have hL300 : L ≤ 300 := by omega
        clear hox hxs HC XS HO4 HC4 HRZ
        by_cases e : L = Lb
        · subst e
          rw [HAN.out] at HCC
          clear HAN HNO
          go_wp2_with fail
          refine HCC.out.mono ?_
          rintro e w6 ⟨rfl, zs, z1, z2, z3, z4, z5, z6⟩
          have hzs := z5 S rfl
          subst hzs
          have HRR : Hid (RetIZB w (zs, L, true) (.returned (.tuple #[.slice (some ⟨g, 0, none⟩) ts.length ts.length, .int .i64 L, .bool true])) w6) := hid (by
            have hge := HW.out.ge
            have hlt := HW.out.lt
            have hz := BW.out.size
            have hz6 := z6.size
            exact ⟨_, rfl, Own.wide z1 hge (by omega), HW.out.below.trans ((BW.out.trans z6).below hge HW.out.below.size)⟩)
          clear z1 z2 z3 z4 z5 z6 HCC BW HLN HW
          go_wp2_with fail
          go_ret3
          exact HRR.out
        · have HN2 := hid (HNO.out L (by omega) (by omega))
          rw [HN2.out] at HCC
          clear HAN HNO HN2
          go_wp2_with fail
          refine HCC.out.mono ?_
          rintro e w6 ⟨rfl, zs, z1, z2, z3, z4, z5, z6⟩
          have BW6 : Aside (Chg g (g + 1) wc w6) := BW.out.trans z6
          have XS6 : Aside (∃ xs, OI w6 g (g + 1) (.slice (some ⟨g, 0, none⟩) ts.length ts.length) xs ∧ xs.length = ts.length ∧ Sm0 xs) := ⟨zs, z1, z2, z4⟩
          clear z1 z2 z3 z4 z5 z6 HCC BW HLN
          go_wp2_with fail
          go_roundg (Lb - (L + 1)).toNat
          case measure => omega
          case rel => exact ⟨L + 1, by omega, by omega, Nat.le_refl _, by go_num, BW6, XS6⟩
theorem i_BestSchedule (w : World) (A : Option Addr) (c : Nat) (ts : List TaskV) (hl : tsz ts ≤ 1048576) (hT : RdT w A ts) :
    Calls Try.prog 69 #[.slice A ts.length c] w (RetIZB w (m_BestSchedule ts)) := by
  have c0 := i_ValidTasks w A c ts hl hT
  have HE : Hid (m_BestSchedule ts = if tasksB ts then (bstS ts, bstL ts, true) else ([], 0, false)) := hid rfl
  cases h0 : tasksB ts with
  | false =>
    rw [h0] at c0 HE
    have C0 := hid c0
    clear c0 h0 hT hl
    generalize m_BestSchedule ts = r at HE ⊢
    go_enter Try.func69, Try.ntmps69
    go_wp2_with fail
    refine C0.out.mono ?_
    rintro e w1 ⟨rfl, hb1⟩
    go_wp2_with fail
    go_ret3
    exact ⟨_, by rw [HE.out]; rfl, by rw [HE.out]; exact Own.nil _ _ _ _ _, hb1⟩
  | true =>
    rw [h0] at c0 HE
    rw [HE.out]
    exact i_BestSchedule1 w A c ts (TOk.of h0) hT (hid c0)
end Go.Proofs.Ytcknhjeefdbhbaa
set_option linter.unusedVariables false
set_option linter.unusedSimpArgs false
namespace Go.Proofs.Ytcknhjeefdbhbaa
open Go.RowKit

/-! ### Tasks that are marked -/
/-- How far the marks have come ahead of task k. -/
def mkt (ts : List TaskV) (k : Nat) : Nat := 2 * k + ttot ts k
theorem mkt_le {ts : List TaskV} {k : Nat} (h : k ≤ ts.length) : mkt ts k ≤ 2 * tsz ts := by
  have := ttot_mono ts h; unfold mkt tsz; omega
/-- The tasks, the first k of them marked: the cells ahead of k * 3 are something, those behind it the tasks'. -/
structure MkdT (w : World) (lo hi : Nat) (v : Value) (ts : List TaskV) (f : Nat → Value) (k : Nat) : Prop where
  outer : ∃ cs, Own w lo hi 132 3 v ts.length cs ∧ ∀ j, k ≤ j → j < ts.length → cs[j * 3]? = some (.int .i64 (tel ts j).port) ∧ cs[j * 3 + 1]? = some (.int .i64 (tel ts j).lat) ∧ cs[j * 3 + 2]? = some (f j)
  left : ∀ j, k ≤ j → j < ts.length → OI w lo hi (f j) (tel ts j).needs
theorem l_markTaskSO (w : World) (lo hi : Nat) (v : Value) (ts : List TaskV) (m : Int) (h0 : 0 ≤ m) (h1 : m + 2 * tsz ts ≤ 9223372036854775807) (hO : OT w lo hi v ts) :
    Calls Try.prog 66 #[v, .int .i64 m] w fun e w' => e = .returned (.int .i64 (m + mkt ts ts.length)) ∧ True ∧ Chg lo hi w w' := by
  obtain ⟨f, ho, hr, ha1, ha2⟩ := hO
  have HT : Hid (∀ k, k ≤ ts.length → (mkt ts k : Int) ≤ 2 * tsz ts) := hid fun k hk => by have := mkt_le hk; omega
  have HA1 := hid ha1
  have HA2 := hid ha2
  have HI : Hid (MkdT w lo hi v ts f 0) := hid ⟨⟨_, ho, fun j _ hj => tcs_get ts f hj⟩, fun j _ hj => hr j hj⟩
  obtain ⟨A, c, rfl, hc1, hc2, _⟩ := ho.shape
  have hlen : ts.length ≤ tsz ts := by unfold tsz; omega
  clear ho hr ha1 ha2
  go_enter Try.func66, Try.ntmps66
  go_wp2
  go_loopg [1, 5] ts.length (fun gg mk s wr => ∃ k : Nat, k ≤ ts.length ∧ ts.length - k ≤ gg ∧ s = .int .i64 k ∧ mk = .int .i64 (m + mkt ts k) ∧ Aside (Chg lo hi w wr) ∧ Aside (MkdT wr lo hi (.slice A ts.length c) ts f k))
  case atStart => exact ⟨0, Nat.zero_le _, by omega, rfl, by simp [mkt, ttot], Chg.refl _ _ _, HI.out⟩
  case round =>
    obtain ⟨k, hk, hg, rfl, rfl, CW, OW⟩ := hrel
    clear HI
    by_cases hlt : k < ts.length
    · have hlt' : (k : Int) < (ts.length : Int) := by omega
      obtain ⟨cs, hown, hcs⟩ := OW.out.outer
      obtain ⟨A', c', e', _, _, hs⟩ := hown.shape
      obtain ⟨rfl, rfl⟩ : A' = A ∧ c' = c := by cases e'; exact ⟨rfl, rfl⟩
      rcases hs with ⟨_, hz⟩ | ⟨g, rfl, hlo, hhi, hcells, hfr⟩
      · omega
      obtain ⟨e0, e1, e2⟩ := hcs k (Nat.le_refl _) hlt
      have hc0 := hcells _ _ e0
      have hc1' := hcells _ _ e1
      have hc2' := hcells _ _ e2
      have hf0 := hfr (k * 3)
      have hf1 := hfr (k * 3 + 1)
      have hrow := OW.out.left k (Nat.le_refl _) hlt
      obtain ⟨Ar, cr, efk, _, _, _⟩ := hrow.shp
      have hst : mkt ts (k + 1) = mkt ts k + 2 + (tel ts k).needs.length := by unfold mkt; simp only [ttot]; omega
      have hb1 := HT.out (k + 1) (by omega)
      have hb0 := HT.out k (by omega)
      have hgr : ∀ j, j < ts.length → ∀ a, (f j).ownBlock = some a → a ≠ g := fun j hj a ha => (Ne.symm (HA2.out j g a hj rfl ha))
      have hkeep : ∀ (x y : Int) (j : Nat), j ≠ g → ((wr.setCell ⟨g, k * 3, none⟩ (.int .i64 x)).setCell ⟨g, k * 3 + 1, none⟩ (.int .i64 y)).heap[j]? = wr.heap[j]? := fun x y j hj => by
        rw [heap_setCell_other _ _ _ _ (by show j ≠ g; exact hj), heap_setCell_other _ _ _ _ (by show j ≠ g; exact hj)]
      have hsz : ∀ (x y : Int), ((wr.setCell ⟨g, k * 3, none⟩ (.int .i64 x)).setCell ⟨g, k * 3 + 1, none⟩ (.int .i64 y)).heap.size = wr.heap.size := fun x y => by simp [World.setCell]
      have hcall : Hid (Calls Try.prog 25 #[f k, .int .i64 (m + mkt ts k + 1 + 1)] ((wr.setCell ⟨g, k * 3, none⟩ (.int .i64 (m + mkt ts k))).setCell ⟨g, k * 3 + 1, none⟩ (.int .i64 (m + mkt ts k + 1))) fun e w' => e = .returned (.int .i64 (m + mkt ts k + 1 + 1 + (tel ts k).needs.length)) ∧ Chg lo hi wr w' ∧ MkdT w' lo hi (.slice (some ⟨g, 0, none⟩) ts.length c') ts f (k + 1)) := hid (by
        have hown2 := (hown.set (k * 3) (.int .i64 (m + mkt ts k))).set (k * 3 + 1) (.int .i64 (m + mkt ts k + 1))
        have hch := (chg_set wr hlo hhi (k * 3) (.int .i64 (m + mkt ts k))).trans (chg_set _ hlo hhi (k * 3 + 1) (.int .i64 (m + mkt ts k + 1)))
        have hleft : ∀ j, k ≤ j → j < ts.length → OI ((wr.setCell ⟨g, k * 3, none⟩ (.int .i64 (m + mkt ts k))).setCell ⟨g, k * 3 + 1, none⟩ (.int .i64 (m + mkt ts k + 1))) lo hi (f j) (tel ts j).needs := fun j h1 h2 => own_blk (OW.out.left j h1 h2) fun a ha => hkeep _ _ a (hgr j h2 a ha)
        have hcs2 : ∀ j, k + 1 ≤ j → j < ts.length → ((cs.set (k * 3) (.int .i64 (m + mkt ts k))).set (k * 3 + 1) (.int .i64 (m + mkt ts k + 1)))[j * 3]? = some (.int .i64 (tel ts j).port) ∧ ((cs.set (k * 3) (.int .i64 (m + mkt ts k))).set (k * 3 + 1) (.int .i64 (m + mkt ts k + 1)))[j * 3 + 1]? = some (.int .i64 (tel ts j).lat) ∧ ((cs.set (k * 3) (.int .i64 (m + mkt ts k))).set (k * 3 + 1) (.int .i64 (m + mkt ts k + 1)))[j * 3 + 2]? = some (f j) := fun j h1 h2 => by
          rw [List.getElem?_set_ne (by omega), List.getElem?_set_ne (by omega), List.getElem?_set_ne (by omega), List.getElem?_set_ne (by omega), List.getElem?_set_ne (by omega), List.getElem?_set_ne (by omega)]
          exact hcs j (by omega) h2
        have hs1 := hsz (m + mkt ts k) (m + mkt ts k + 1)
        generalize (wr.setCell ⟨g, k * 3, none⟩ (.int .i64 (m + mkt ts k))).setCell ⟨g, k * 3 + 1, none⟩ (.int .i64 (m + mkt ts k + 1)) = V at *
        cases hob : (f k).ownBlock with
        | none =>
          have hnar : OI V lo lo (f k) (tel ts k).needs := ⟨(hleft k (Nat.le_refl _) hlt).1, fun a ha => by rw [hob] at ha; cases ha⟩
          refine (l_markInt64SO V lo lo (f k) (tel ts k).needs (m + mkt ts k + 1 + 1) (by omega) (by omega) hnar).mono ?_
          rintro e w' ⟨rfl, ho, hC⟩
          have hq : ∀ j, j < V.heap.size → w'.heap[j]? = V.heap[j]? := fun j hj => hC.block j hj (by omega)
          refine ⟨rfl, hch.trans (hC.wide (Nat.le_refl _) (by omega)), ⟨_, own_blk hown2 fun j hj => hq j (own_at hown2 hj).2.2, hcs2⟩, fun j h1 h2 => ?_⟩
          exact own_blk (hleft j (by omega) h2) fun i hi => hq i (own_at (hleft j (by omega) h2) hi).2.2
        | some a =>
          have hnar : OI V a (a + 1) (f k) (tel ts k).needs := own_tight (hleft k (Nat.le_refl _) hlt) hob
          have hat := own_at (hleft k (Nat.le_refl _) hlt) hob
          refine (l_markInt64SO V a (a + 1) (f k) (tel ts k).needs (m + mkt ts k + 1 + 1) (by omega) (by omega) hnar).mono ?_
          rintro e w' ⟨rfl, ho, hC⟩
          have hq : ∀ j, j < V.heap.size → j ≠ a → w'.heap[j]? = V.heap[j]? := fun j hj hn => hC.block j hj (by omega)
          refine ⟨rfl, hch.trans (hC.wide (by omega) (by omega)), ⟨_, own_blk hown2 fun j hj => hq j (own_at hown2 hj).2.2 (HA2.out k j a hlt hj hob), hcs2⟩, fun j h1 h2 => ?_⟩
          exact own_blk (hleft j (by omega) h2) fun i hi => hq i (own_at (hleft j (by omega) h2) hi).2.2 (Ne.symm (HA1.out k j a i (by omega) h2 hob hi)))
      have HE : Hid (m + mkt ts k + 1 + 1 + (tel ts k).needs.length = m + mkt ts (k + 1)) := hid (by omega)
      have HC := hid CW.out
      have hb3 : m + mkt ts k + 1 + 1 ≤ 9223372036854775807 := by omega
      have hb2 : 0 ≤ m + (mkt ts k : Int) := by omega
      clear hcells hfr e' OW CW hrow hst hb0 hb1 HT HA1 HA2 hkeep hsz hgr hcs e0 e1 e2 hown
      rw [efk] at hc2' hcall
      clear efk
      generalize mkt ts k = t at *
      generalize (tel ts k).needs.length = rl at *
      go_wp2_with fail
      refine hcall.out.mono ?_
      rintro e w' ⟨rfl, hC, hM⟩
      have C2 := hid (HC.out.trans hC)
      have M2 := hid hM
      clear hC hM HC hcall hc0 hc1' hc2' hf0 hf1
      go_wp2_with fail
      go_roundg (ts.length - (k + 1))
      case measure => omega
      case rel => exact ⟨k + 1, by omega, by omega, by go_num, by rw [HE.out], C2.out, M2.out⟩
    · have : k = ts.length := by omega
      subst this
      have hlt' : ¬ ((ts.length : Nat) : Int) < ((ts.length : Nat) : Int) := by omega
      have HC := hid CW.out
      clear OW CW HT
      go_wp2_with fail
      go_ret
      exact ⟨rfl, HC.out⟩
end Go.Proofs.Ytcknhjeefdbhbaa
set_option linter.unusedVariables false
set_option linter.unusedSimpArgs false
namespace Go.Proofs.Ytcknhjeefdbhbaa
open Go.RowKit

theorem law_BestSchedule (w : World) (A0 : Option Addr) (c0 : Nat) (xs0 : List TaskV) (hl0 : BigT xs0) (hR0 : RdT w A0 xs0) :
    Calls Try.prog 14 #[.slice A0 xs0.length c0] w fun e w' => e = .returned (.bool true) ∧ Below w.heap.size w w' := by
  have hbw := Below.refl w.heap.size w
  have ssz0 := fun W (hW : Below w.heap.size w W) => l_szTaskSO W A0 c0 xs0 (1048576 : Int) hl0 (by omega) (by omega) (hR0.below hW)
  by_cases big0 : (1048576 : Int) < (tsz xs0 : Nat)
  · simp only [szR, if_pos big0] at ssz0
    go_enter Try.func14, Try.ntmps14
    go_wp2_with fail
    refine (ssz0 _ (Below.refl _ _)).mono ?_
    rintro e z0 ⟨rfl, hbz0⟩
    have hcz0 := hbz0
    go_wp2_with fail
    go_ret
    exact ⟨rfl, hcz0⟩
  · simp only [szR, if_neg big0] at ssz0
    have hs0 : tsz xs0 ≤ 1048576 := by omega
    go_enter Try.func14, Try.ntmps14
    have hbw := Below.refl w.heap.size w
    go_wp2_with fail
    refine (ssz0 _ hbw).mono ?_
    rintro e w1 ⟨rfl, hbw1⟩
    have hzw1 := hbw1.size
    replace hbw := bthen hbw hbw1
    clear ssz0 big0
    have hres := m_BestSchedule_len xs0
    go_wp2_with fail
    refine (l_toTaskSO w1 A0 c0 xs0 hs0 (hR0.below hbw)).mono ?_
    rintro e w2 ⟨vw2, rfl, how2, hbw2⟩
    have hzw2 := hbw2.size
    replace hbw := bthen hbw hbw2
    obtain ⟨Aw2, cw2, rfl, _, _, _⟩ := how2.shp
    go_wp2_with fail
    refine (s_BestSchedule _ _ _ _ hs0 how2.rd).mono ?_
    rintro e w3 ⟨vw3, rfl, how3, hbw3⟩
    have hzw3 := hbw3.size
    replace hbw := bthen hbw hbw3
    replace how2 := how2.eqv (Eqv.of hbw3 (by omega))
    obtain ⟨Aw3, cw3, rfl, _, _, _⟩ := how3.shp
    clear how2
    go_wp2_with fail
    refine (l_toTaskSO w3 A0 c0 xs0 hs0 (hR0.below hbw)).mono ?_
    rintro e w4 ⟨vw4, rfl, how4, hbw4⟩
    have hzw4 := hbw4.size
    replace hbw := bthen hbw hbw4
    replace how3 := how3.eqv (Eqv.of hbw4 (by omega))
    obtain ⟨Aw4, cw4, rfl, _, _, _⟩ := how4.shp
    go_wp2_with fail
    refine (i_BestSchedule _ _ _ _ hs0 how4.rd).mono ?_
    rintro e w5 ⟨vw5, rfl, how5, hbw5⟩
    have hzw5 := hbw5.size
    replace hbw := bthen hbw hbw5
    replace how3 := how3.eqv (Eqv.of hbw5 (by omega))
    replace how4 := how4.eqv (Eqv.of hbw5 (by omega))
    obtain ⟨Aw5, cw5, rfl, _, _, _⟩ := how5.shp
    go_wp2_with fail
    refine (l_eqInt64SO _ _ _ _ _ _ _ _ _ (by omega) (by omega) how5 how3).mono ?_
    rintro e w6 ⟨rfl, hbw6⟩
    have hzw6 := hbw6.size
    replace hbw := bthen hbw hbw6
    replace how3 := how3.eqv (Eqv.of hbw6 (by omega))
    replace how4 := how4.eqv (Eqv.of hbw6 (by omega))
    replace how5 := how5.eqv (Eqv.of hbw6 (by omega))
    go_wp2_with fail
    refine (l_toTaskSO w6 A0 c0 xs0 hs0 (hR0.below hbw)).mono ?_
    rintro e w7 ⟨vw7, rfl, how7, hbw7⟩
    have hzw7 := hbw7.size
    replace hbw := bthen hbw hbw7
    replace how3 := how3.eqv (Eqv.of hbw7 (by omega))
    replace how4 := how4.eqv (Eqv.of hbw7 (by omega))
    replace how5 := how5.eqv (Eqv.of hbw7 (by omega))
    obtain ⟨Aw7, cw7, rfl, _, _, _⟩ := how7.shp
    go_wp2_with fail
    refine (l_eqTaskSO _ _ _ _ _ _ _ _ _ hs0 hs0 how4 how7).mono ?_
    rintro e w8 ⟨rfl, hbw8⟩
    have hzw8 := hbw8.size
    replace hbw := bthen hbw hbw8
    replace how3 := how3.eqv (Eqv.of hbw8 (by omega))
    replace how4 := how4.eqv (Eqv.of hbw8 (by omega))
    replace how5 := how5.eqv (Eqv.of hbw8 (by omega))
    replace how7 := how7.eqv (Eqv.of hbw8 (by omega))
    clear how7
    have hrt0 := mkt_le (ts := xs0) (Nat.le_refl _)
    go_wp2_with fail
    refine (l_markTaskSO _ _ _ _ _ _ (by omega) (by omega) how4).mono ?_
    rintro e w9 ⟨rfl, hmw9, hCw9⟩
    clear how4
    have hzw9 := hCw9.size
    replace hbw := hbw.trans (hCw9.below (by omega) (by omega))
    replace how3 := how3.eqv (hCw9.eqv (by omega) (by omega))
    replace how5 := how5.eqv (hCw9.eqv (by omega) (by omega))
    clear hmw9
    go_wp2_with fail
    refine (l_eqInt64SO _ _ _ _ _ _ _ _ _ (by omega) (by omega) how5 how3).mono ?_
    rintro e w10 ⟨rfl, hbw10⟩
    have hzw10 := hbw10.size
    replace hbw := bthen hbw hbw10
    replace how3 := how3.eqv (Eqv.of hbw10 (by omega))
    replace how5 := how5.eqv (Eqv.of hbw10 (by omega))
    go_wp2_with fail
    refine (l_markInt64SO _ _ _ _ _ _ (by omega) (by omega) how5).mono ?_
    rintro e w11 ⟨rfl, hmw11, hCw11⟩
    have hzw11 := hCw11.size
    replace hbw := hbw.trans (hCw11.below (by omega) (by omega))
    clear how5
    replace how3 := how3.eqv (hCw11.eqv (by omega) (by omega))
    go_wp2_with fail
    refine (l_heldInt64SM _ _ _ _ _ (by omega) hmw11).mono ?_
    rintro e w12 ⟨rfl, hbw12⟩
    have hzw12 := hbw12.size
    replace hbw := bthen hbw hbw12
    replace how3 := how3.eqv (Eqv.of hbw12 (by omega))
    replace hmw11 := hmw11.eqv (Eqv.of hbw12 (by omega))
    go_wp2_with fail
    refine (l_toTaskSO w12 A0 c0 xs0 hs0 (hR0.below hbw)).mono ?_
    rintro e w13 ⟨vw13, rfl, how13, hbw13⟩
    have hzw13 := hbw13.size
    replace hbw := bthen hbw hbw13
    replace how3 := how3.eqv (Eqv.of hbw13 (by omega))
    replace hmw11 := hmw11.eqv (Eqv.of hbw13 (by omega))
    obtain ⟨Aw13, cw13, rfl, _, _, _⟩ := how13.shp
    go_wp2_with fail
    refine (i_BestSchedule _ _ _ _ hs0 how13.rd).mono ?_
    rintro e w14 ⟨vw14, rfl, how14, hbw14⟩
    have hzw14 := hbw14.size
    replace hbw := bthen hbw hbw14
    replace how3 := how3.eqv (Eqv.of hbw14 (by omega))
    replace hmw11 := hmw11.eqv (Eqv.of hbw14 (by omega))
    replace how13 := how13.eqv (Eqv.of hbw14 (by omega))
    obtain ⟨Aw14, cw14, rfl, _, _, _⟩ := how14.shp
    clear how13
    go_wp2_with fail
    refine (l_eqInt64SO _ _ _ _ _ _ _ _ _ (by omega) (by omega) how14 how3).mono ?_
    rintro e w15 ⟨rfl, hbw15⟩
    have hzw15 := hbw15.size
    replace hbw := bthen hbw hbw15
    replace how3 := how3.eqv (Eqv.of hbw15 (by omega))
    replace hmw11 := hmw11.eqv (Eqv.of hbw15 (by omega))
    replace how14 := how14.eqv (Eqv.of hbw15 (by omega))
    go_wp2_with fail
    refine (l_heldInt64SM _ _ _ _ _ (by omega) hmw11).mono ?_
    rintro e w16 ⟨rfl, hbw16⟩
    have hzw16 := hbw16.size
    replace hbw := bthen hbw hbw16
    replace how3 := how3.eqv (Eqv.of hbw16 (by omega))
    replace hmw11 := hmw11.eqv (Eqv.of hbw16 (by omega))
    replace how14 := how14.eqv (Eqv.of hbw16 (by omega))
    go_wp2_with fail
    go_ret
    exact ⟨rfl, hbw⟩
end Go.Proofs.Ytcknhjeefdbhbaa
set_option linter.unusedVariables false
set_option linter.unusedSimpArgs false
namespace Go.Proofs.Ytcknhjeefdbhbaa
open Go.ChangeShapes Go.WideShapes Go.ChangeAt Go.RowKit
theorem own : ownKnob Try.prog.godebug = none := by kernel_rfl
theorem laidOut : laidOutB Try.prog = true := by kernel_rfl
theorem cellsInt : Try.prog.cellsOf 2 = 1 := by kernel_rfl
set_option maxRecDepth 100000 in
theorem open_I {H : Type} {enc : TypeId × Value → H} {W : World} {base : Nat} {v : Value} {d : DataW H} {p : List MemPlace}
    (hv : Value.okWide Try.prog W .any base 25 v) (h : DataW.Trod enc Try.prog W 0 (fun _ => true) true 25 v d p) :
    ∃ (A : Option Addr) (c : Nat) (xs : List Int), v = .slice A xs.length c ∧ xs.length ≤ 9223372036854775807 ∧ RdI W A xs := by
  obtain ⟨a, len, cap, rfl⟩ := okWide_slice Try.underlying25 hv
  obtain ⟨fuel, hf⟩ := h
  rcases open_ints Try.underlying25 Try.underlying2 cellsInt hf with ⟨hcs, _⟩ | ⟨x, l, c, zs, hcs, _, hl, hm, hz, _, hcell, _⟩
  · simp [Value.cells] at hcs
    obtain ⟨rfl, rfl, rfl⟩ := hcs
    exact ⟨none, 0, [], rfl, by simp, fun k hk => absurd hk (Nat.not_lt_zero _)⟩
  · simp [Value.cells] at hcs
    obtain ⟨rfl, rfl, rfl⟩ := hcs
    simp only [if_true] at hz
    have hlen : (zs.take len).length = len := by rw [List.length_take]; omega
    refine ⟨some x, cap, zs.take len, by rw [hlen], by rw [hlen]; simp only [maxLen] at hm; omega, ?_⟩
    intro k hk
    rw [hlen] at hk
    have hc := hcell k (by omega)
    have he : el (zs.take len) k = zs.getD k 0 := by
      unfold el; rw [List.getD_eq_getElem?_getD, List.getD_eq_getElem?_getD, List.getElem?_take_of_lt hk]
    have hs : x.spot = none := by
      have hc0 := hcell 0 (by omega)
      cases hx : x.spot with
      | none => rfl
      | some s =>
        rw [show x.add 0 = x from rfl] at hc0
        simp only [World.cell?] at hc0
        split at hc0
        · rw [if_pos (by rw [hx]; rfl)] at hc0; cases hc0
        · cases hc0
    obtain ⟨b, off, s⟩ := x
    obtain rfl : s = none := hs
    refine ⟨b, off, rfl, ?_⟩
    show W.cell? _ = some (.int .i64 (el (List.take len zs) k))
    rw [he, ← hc]
    congr 1
    unfold Addr.add
    split
    · rename_i h; subst h; rfl
    · rfl
end Go.Proofs.Ytcknhjeefdbhbaa
set_option linter.unusedVariables false
set_option linter.unusedSimpArgs false
namespace Go.Proofs.Ytcknhjeefdbhbaa
open Go.ChangeShapes Go.WideShapes Go.ChangeAt Go.RowKit
theorem flat_addrT {W : World} {x : Addr} {v : Value} (h : W.cell? x = some v) : x.spot = none := by
  cases hx : x.spot with
  | none => rfl
  | some s =>
    simp only [World.cell?] at h
    split at h
    · rw [if_pos (by rw [hx]; rfl)] at h; cases h
    · cases h
theorem rd_of_trod {H : Type} {enc : TypeId × Value → H} {W : World} {n : Nat} {v : Value} {y : DataW H × List MemPlace}
    (hf : DataW.trod enc Try.prog W 0 (fun _ => true) true n 25 [v] = some y) : ∃ (A : Option Addr) (c : Nat) (xs : List Int), v = .slice A xs.length c ∧ xs.length ≤ 9223372036854775807 ∧ xs.length ≤ c ∧ RdI W A xs := by
  rcases open_ints Try.underlying25 Try.underlying2 cellsInt hf with ⟨hcs, _⟩ | ⟨x, l, c, zs, hcs, _, hl, hm, hz, _, hcell, _⟩
  · simp at hcs
    exact ⟨none, 0, [], by simpa using hcs, by simp, by simp, fun k hk => absurd hk (Nat.not_lt_zero _)⟩
  · simp at hcs
    simp only [if_true] at hz
    have hlen : (zs.take l).length = l := by rw [List.length_take]; omega
    refine ⟨some x, c, zs.take l, by rw [hlen]; exact hcs, by rw [hlen]; simp only [maxLen] at hm; omega, by rw [hlen]; exact hl, ?_⟩
    intro k hk
    rw [hlen] at hk
    have hc := hcell k (by omega)
    have he : el (zs.take l) k = zs.getD k 0 := by
      unfold el; rw [List.getD_eq_getElem?_getD, List.getD_eq_getElem?_getD, List.getElem?_take_of_lt hk]
    have hs : x.spot = none := flat_addrT (hcell 0 (by omega))
    obtain ⟨b, off, s⟩ := x
    obtain rfl : s = none := hs
    refine ⟨b, off, rfl, ?_⟩
    show W.cell? _ = some (.int .i64 (el (List.take l zs) k))
    rw [he, ← hc]
    congr 1
    unfold Addr.add
    split
    · rename_i h; subst h; rfl
    · rfl
set_option maxRecDepth 100000 in
theorem open_T {H : Type} {enc : TypeId × Value → H} {W : World} {base : Nat} {v : Value} {d : DataW H} {p : List MemPlace}
    (hv : Value.okWide Try.prog W .any base 85 v) (h : DataW.Trod enc Try.prog W 0 (fun _ => true) true 85 v d p) :
    ∃ (A : Option Addr) (c : Nat) (xs : List TaskV), v = .slice A xs.length c ∧ BigT xs ∧ RdT W A xs := by
  obtain ⟨a, len, cap, rfl⟩ := okWide_slice Try.underlying85 hv
  obtain ⟨fuel, hf⟩ := h
  rcases Deep.open_slice Try.underlying85 hf with ⟨hcs, _⟩ | ⟨x, l, c, m, n, D, Pl, hcs, _, hl, hm, hmm, _, hx⟩
  · simp [Value.cells] at hcs
    obtain ⟨rfl, rfl, rfl⟩ := hcs
    exact ⟨none, 0, [], rfl, ⟨by simp, fun k hk => absurd hk (Nat.not_lt_zero _)⟩, fun k hk => absurd hk (Nat.not_lt_zero _)⟩
  · simp [Value.cells] at hcs
    obtain ⟨rfl, rfl, rfl⟩ := hcs
    simp only [if_true] at hmm
    have hmm' := hmm.symm
    subst hmm'
    have ce : Try.prog.cellsOf 162 = 3 := by kernel_rfl
    have each : ∀ i, i < cap → ∃ q : Int × Int × Option Addr × Nat × List Int, W.cell? (x.add (i * 3)) = some (.int .i64 q.1) ∧ W.cell? (x.add (i * 3 + 1)) = some (.int .i64 q.2.1) ∧
        W.cell? (x.add (i * 3 + 2)) = some (.slice q.2.2.1 q.2.2.2.2.length q.2.2.2.1) ∧ q.2.2.2.2.length ≤ 9223372036854775807 ∧ q.2.2.2.2.length ≤ q.2.2.2.1 ∧ RdI W q.2.2.1 q.2.2.2.2 := fun i hi => by
      obtain ⟨cs', h1, h2⟩ := hx i hi
      rw [ce] at h1
      obtain ⟨_, hlen, hcell⟩ := World.cells?_some h1
      obtain ⟨y0, y1, y2, m, _, _, t0, t1, t2⟩ := Deep.trod_struct3 Try.underlying162 h2
      match cs', hlen with
      | [v0, v1, v2], _ =>
        have z0 : Try.prog.cellsOf 2 = 1 := cellsInt
        have z2 : Try.prog.cellsOf 25 = 1 := by kernel_rfl
        simp [z0, z2] at t0 t1 t2
        obtain ⟨a, e0, _⟩ := DataW.trod_int Try.underlying2 t0
        obtain ⟨b, e1, _⟩ := DataW.trod_int Try.underlying2 t1
        obtain ⟨A', c', xs', e2, l1, l2, hr⟩ := rd_of_trod t2
        simp at e0 e1
        have g0 := hcell 0 (by omega)
        have g1 := hcell 1 (by omega)
        have g2 := hcell 2 (by omega)
        rw [Deep.add_add] at g0 g1 g2
        exact ⟨(a, b, A', c', xs'), by rw [← e0]; simpa using g0, by rw [← e1]; simpa using g1, by rw [← e2]; simpa using g2, l1, l2, hr⟩
    obtain ⟨q, hq⟩ := Deep.choose_lt each
    have htel : ∀ k, k < len → tel ((List.range len).map fun i => (⟨(q i).1, (q i).2.1, (q i).2.2.2.2⟩ : TaskV)) k = ⟨(q k).1, (q k).2.1, (q k).2.2.2.2⟩ := fun k hk => by
      unfold tel; rw [List.getD_eq_getElem?_getD]; simp [hk]
    refine ⟨some x, cap, (List.range len).map fun i => (⟨(q i).1, (q i).2.1, (q i).2.2.2.2⟩ : TaskV), by simp, ⟨by simp only [maxLen] at hm; simp; omega, fun k hk => ?_⟩, fun k hk => ?_⟩
    · have hk' : k < len := by simpa using hk
      rw [htel k hk']
      exact (hq k (by omega)).2.2.2.1
    · have hk' : k < len := by simpa using hk
      obtain ⟨h0, h1, h2, _, h3, h4⟩ := hq k (by omega)
      rw [htel k hk']
      have hs : x.spot = none := by
        have h := (hq 0 (by omega)).1
        rw [Nat.zero_mul, show x.add 0 = x from rfl] at h
        exact flat_addrT h
      obtain ⟨b, off, s⟩ := x
      obtain rfl : s = none := hs
      refine ⟨b, off, (q k).2.2.1, (q k).2.2.2.1, rfl, ?_, ?_, ?_, h3, h4⟩
      · rw [← h0]; congr 1; unfold Addr.add; split
        · rename_i h; rw [h]; rfl
        · rfl
      · rw [← h1]; congr 1
      · rw [← h2]; congr 1
end Go.Proofs.Ytcknhjeefdbhbaa
/- For every input the law FnExactBestSchedule holds: the program's BestSchedule answers what the reference's answers, leaves its arguments as they are, and shares no memory; no condition. -/
set_option linter.unusedVariables false
set_option linter.unusedSimpArgs false
namespace Go.Proofs.Ytcknhjeefdbhbaa.fnExactBestSchedule
open Go.ChangeShapes Go.WideShapes Go.ChangeAt Go.RowKit
open Go.ChangeMaps (open_string shut_string)
theorem own : ownKnob Try.prog.godebug = none := by kernel_rfl
theorem laidOut : laidOutB Try.prog = true := by kernel_rfl
set_option maxRecDepth 100000 in
theorem lifted (os : Os) (started : os.Started) (H : Type) (enc : TypeId × Value → H) :
    ReturnsInHanded {} Try.checked os 14 .any (Rows.fnExactBestScheduleSpec.pre6 enc Try.prog Try.f14 Rows.fnExactBestScheduleRow.domain false) (Rows.fnExactBestScheduleSpec.post enc Try.prog Try.f14 false true false false) := by
  refine returnsInHanded_of_change (C := Try.checked) own started (by kernel_rfl) Try.func14
    (ChangeSpec.witness6 (enc := enc) (C := Try.checked) false ⟨#[], #[.slice none 0 0], []⟩ 8 (by kernel_rfl) (by kernel_rfl) (by kernel_rfl) (by kernel_rfl)) ?_
  intro W base args ds gs before hval0 hW hcnd _
  have hval : ∀ (j : Nat) t v, Try.f14.params[j]? = some t → args[j]? = some v → Value.okWide Try.prog W .any base t v := hval0
  have hW' := hW
  obtain ⟨p, q, hA0, hV, rfl, hfz, hnd⟩ := hW
  have hA : DataW.TrodAll enc Try.prog W 0 (fun _ => true) true Try.f14.params.toList args.toList ds p := hA0
  rw [Try.params14] at hA hval
  obtain ⟨v0, vs0, d0, ds0, p0, q0, hargs, rfl, rfl, h0, r0⟩ := trodAll_cons hA
  obtain ⟨rfl, rfl, rfl⟩ := trodAll_nil r0
  obtain rfl : args = #[v0] := by cases args; simp_all
  obtain ⟨rfl, rfl⟩ := trodVars_none hV
  have k0 := h0
  have lt0 : ∀ x ∈ p0, x.block < W.heap.size := by obtain ⟨m, hm⟩ := k0; exact DataW.trod_lt m _ _ _ hm
  obtain ⟨A0, c0, xs0, rfl, hl0, hR0⟩ := open_T (hval 0 85 v0 rfl rfl) h0
  clear hA0 hval0
  refine (law_BestSchedule W A0 c0 xs0 hl0 hR0).mono fun e W' ⟨he, bel⟩ => ?_
  subst he
  exact ⟨_, rfl, _, _, _, [], _, [], hW', trodAll_mk1 (shut_bool Try.underlying4 _), (trodAll_cons_mk (Below.trod laidOut (by kernel_rfl) (of_decide_eq_true (by kernel_rfl)) k0 bel lt0) trodAll_mk0), rfl, bel.frame _, fun h => by cases h⟩
theorem over : Rows.fnExactBestScheduleRow.holds Try.pinned (OpenSpec.ofChange Rows.fnExactBestScheduleSpec) :=
  OpenClaim.holds_of_wide 14 Try.f14 rfl rfl rfl rfl rfl rfl rfl ⟨rfl, rfl, rfl, rfl, rfl⟩ rfl rfl rfl rfl rfl (by kernel_rfl) Try.func14 (by kernel_rfl)
    (of_decide_eq_true (by kernel_rfl)) (by unfold Func.isWrapper; first | (rw [if_pos (by decide +kernel)]; kernel_rfl) | (rw [if_neg (by decide +kernel)]; exact ⟨rfl, rfl⟩))
    (fun os started H enc _ => lifted os started H enc)
theorem proved : Rows.FnExactBestScheduleSaid := over
#print axioms proved
end Go.Proofs.Ytcknhjeefdbhbaa.fnExactBestSchedule
