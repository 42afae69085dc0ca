import Derived.Test.YtcknhjeefdbhbaaLp4
import Derived.Test.YtcknhjeefdbhbaaShuf3
import Derived.Test.YtcknhjeefdbhbaaCat
set_option linter.unusedVariables false
set_option linter.unusedSimpArgs false
namespace Go.Proofs.Ytcknhjeefdbhbaa
open Go.RowKit

theorem wthI_step {ts : List TaskV} (most : Int) (nx : List Int → Option (List Int)) (p : List Int) {i : Nat} (hi : i < ts.length) :
    wthI ts most nx p (ts.length - i) = orO (if rdyO ts p i && decide ((cntS ts (p ++ [(i : Int)]) (p.length + 1) : Int) ≤ most) then nx (p ++ [(i : Int)]) else none) (wthI ts most nx p (ts.length - (i + 1))) := by
  rw [show ts.length - i = ts.length - (i + 1) + 1 from by omega]
  simp only [wthI]
  rw [show ts.length - (ts.length - (i + 1) + 1) = i from by omega]
/-- Ready, by the first j of what is needed. -/
def rdK (p : List Int) (i : Nat) (ns : List Int) : Nat → Bool
  | 0 => !hasB p (i : Int)
  | j + 1 => rdK p i ns j && hasB p (el ns j)
theorem rdK_all (ts : List TaskV) (p : List Int) (i : Nat) : rdK p i (tel ts i).needs (tel ts i).needs.length = rdyO ts p i := by
  have : ∀ n, rdK p i (tel ts i).needs n = (!hasB p (i : Int) && allN n (fun j => hasB p (el (tel ts i).needs j))) := fun n => by
    induction n with
    | zero => simp [rdK, allN]
    | succ n ih => rw [allN_succ]; simp only [rdK]; rw [ih, Bool.and_assoc]
  rw [this, allN_ints (tel ts i).needs (fun k => hasB p k)]; rfl
set_option maxRecDepth 100000 in
set_option maxHeartbeats 1000000 in
theorem s_l06Within (ts : List TaskV) (A' : Option Addr) (c' : Nat) (most : Int) (hO : TOk ts) : ∀ (d : Nat) (p : List Int) (W : World) (A : Option Addr) (c lo : Nat), p.length + d = ts.length → lo ≤ W.heap.size →
    OI W lo W.heap.size (.slice A p.length c) p → RdT W A' ts →
    Calls Try.prog 154 #[.slice A' ts.length c', .slice A p.length c, .int .i64 most] W fun e W' =>
      ∃ v, e = .returned (.tuple #[v, .bool (wthD ts most d p).isSome]) ∧ OI W' lo W'.heap.size v ((wthD ts most d p).getD []) ∧ Below W.heap.size W W' := by
  have hfew := hO.few
  intro d
  induction d with
  | zero =>
    intro p W A c lo hpd hlo hv hT
    have he : ((p.length : Int) == (ts.length : Int)) = true := by simp; omega
    have HV := hid hv
    have HD : Hid (wthD ts most 0 p = some p) := hid rfl
    rw [HD.out]
    clear hT hpd hv
    generalize hq : p.length = q at *
    go_enter Try.func154, Try.ntmps154
    go_wp2
    go_ret2
    exact ⟨_, rfl, HV.out, Below.refl _ _⟩
  | succ d ih =>
    intro p W A c lo hpd hlo hv hT
    have he : ((p.length : Int) == (ts.length : Int)) = false := by simp; omega
    have HV := hid hv
    have HT := hid hT
    have HO := hid hO
    have IH := hid ih
    have HPD := hid hpd
    have hpl : p.length ≤ 7 := by omega
    have HF : Hid (wthD ts most (d + 1) p = wthI ts most (wthD ts most d) p (ts.length - 0)) := hid rfl
    have HST := hid (fun i (hi : i < ts.length) => wthI_step most (wthD ts most d) p hi)
    clear hT hv hpd ih
    generalize wthD ts most (d + 1) p = F at *
    go_enter Try.func154, Try.ntmps154
    go_wp2
    go_loopg [8] ts.length (fun gg s wr => ∃ i : Nat, i ≤ ts.length ∧ ts.length - i ≤ gg ∧ s = .int .i64 i ∧ Aside (Below W.heap.size W wr) ∧ Aside (wthI ts most (wthD ts most d) p (ts.length - i) = F))
    case atStart => exact ⟨0, Nat.zero_le _, by omega, rfl, Below.refl _ _, HF.out.symm⟩
    case round =>
      obtain ⟨i, hi, hg, rfl, BW, AL⟩ := hrel
      obtain ⟨wo, rfl⟩ : ∃ wo : World, wo = wr := ⟨_, rfl⟩
      by_cases hlt : i < ts.length
      · have hlt' : (i : Int) < (ts.length : Int) := by omega
        have hTr := HT.out.below BW.out
        have hvr : OI wo lo W.heap.size (.slice A p.length c) p := OI.eqv HV.out (Eqv.of BW.out (Nat.le_refl _))
        have hrd := OwnI.rd hvr
        obtain ⟨bt, offt, An, cn, rfl, p0, p1, p2, _, hrn⟩ := hTr.get hlt
        have CH := hid (fun (x : Int) => s_l00Has wo A c p x (by omega) hrd)
        have CO := hid (s_l00Own wo A c p (by omega) hrd)
        have HRA := hid (rdK_all ts p i)
        have HR0 : Hid (rdK p i (tel ts i).needs 0 = !hasB p (i : Int)) := hid rfl
        have HRS : Hid (∀ j, rdK p i (tel ts i).needs (j + 1) = (rdK p i (tel ts i).needs j && hasB p (el (tel ts i).needs j))) := hid fun _ => rfl
        have HRN := hid hrn
        have hnl := HO.out.len i hlt
        have hSTi := HST.out i hlt
        have HSTi : Hid (F = orO (if rdyO ts p i && decide ((cntS ts (p ++ [(i : Int)]) (p.length + 1) : Int) ≤ most) then wthD ts most d (p ++ [(i : Int)]) else none) (wthI ts most (wthD ts most d) p (ts.length - (i + 1)))) := hid (by rw [← AL.out, hSTi])
        have hwz := BW.out.size
        have HTW := hid hTr
        clear hSTi hrn hrd hvr hTr HF HST AL HT HV
        have C0 := hid (CH.out (i : Int))
        generalize rdyO ts p i = ry at *
        generalize tel ts i = tk at *
        generalize hhb : hasB p (i : Int) = hb0 at *
        go_wp2_with fail
        refine C0.out.mono ?_
        rintro e w5 ⟨rfl, rfl⟩
        clear C0
        go_wp2_with fail
        go_loopg [9, 10] tk.needs.length (fun gg r s wr => ∃ j : Nat, j ≤ tk.needs.length ∧ tk.needs.length - j ≤ gg ∧ s = .int .i64 j ∧ r = .bool (rdK p i tk.needs j) ∧ Aside (wr = wo))
        case atStart => exact ⟨0, Nat.zero_le _, by omega, rfl, (by rw [HR0.out]), rfl⟩
        case round =>
          obtain ⟨j, hj, hgj, rfl, rfl, BJ⟩ := hrel
          obtain rfl := BJ.out
          clear BJ
          by_cases hlj : j < tk.needs.length
          · obtain ⟨bn, offn, rfl, hcn⟩ := HRN.out.get hlj
            have C1 := hid (CH.out (el tk.needs j))
            have HS := hid (HRS.out j)
            clear HRN CH CO HRA HR0 HRS HSTi HTW hhb
            generalize hasB p (el tk.needs j) = hx at *
            generalize el tk.needs j = x at *
            generalize hrk : rdK p i tk.needs j = rk at *
            generalize tk.needs.length = nl at *
            cases rk with
            | true =>
              clear hrk
              go_wp2_with fail
              refine C1.out.mono ?_
              rintro e w6 ⟨rfl, rfl⟩
              go_wp2_with fail
              go_roundg (nl - (j + 1))
              case measure => omega
              case rel => exact ⟨j + 1, by omega, by omega, by go_num, (by rw [HS.out]; simp), rfl⟩
            | false =>
              clear hrk C1
              go_wp2
              go_roundg (nl - (j + 1))
              case measure => omega
              case rel => exact ⟨j + 1, by omega, by omega, by go_num, (by rw [HS.out]; simp), rfl⟩
          · have : j = tk.needs.length := by omega
            subst this
            have HRA2 := hid HRA.out
            rw [HRA2.out]
            clear HRN CH HRA HR0 HRS hhb HRA2
            generalize tk.needs.length = nl at *
            go_wp2_with fail
            refine CO.out.mono ?_
            rintro e w7 ⟨v7, rfl, ho7, hb7⟩
            obtain ⟨A7, c7, rfl, _, _, _⟩ := Own.int ho7
            have hsz7 := hb7.size
            clear CO
            cases ry with
            | false =>
              go_wp2_with ((at_builtin; refine wp_append1 wr.heap.size rfl _ _ 25 2 (.int .i64 0) 8 rfl Try.underlying25 infoInt rfl (.slice A7 p.length c7) p.length _ (.int .i64 (i : Nat)) rfl rfl rfl ho7 hsz7 (by omega) (by omega) ?_; intro v8 w8 hown8 hbel8))
              have hb8 : Below wr.heap.size wr w8 := hb7.trans (hbel8.mono (by omega))
              have BW8' : Aside (Below W.heap.size W w8) := bthen BW.out hb8
              have AL' : Aside (wthI ts most (wthD ts most d) p (ts.length - (i + 1)) = F) := HSTi.out.symm
              go_roundg (ts.length - (i + 1))
              case measure => omega
              case rel => exact ⟨i + 1, by omega, by omega, by go_num, BW8', AL'⟩
            | true =>
              go_wp2_with ((at_builtin; refine wp_append1 wr.heap.size rfl _ _ 25 2 (.int .i64 0) 8 rfl Try.underlying25 infoInt rfl (.slice A7 p.length c7) p.length _ (.int .i64 (i : Nat)) rfl rfl rfl ho7 hsz7 (by omega) (by omega) ?_; intro v8 w8 hown8 hbel8))
              have hown8' : OwnI w8 wr.heap.size w8.heap.size 2 v8 (p ++ [(i : Int)]) := by
                unfold OwnI; rw [List.length_append, List.length_singleton, ints_append]; exact hown8
              have hl8 : (p ++ [(i : Int)]).length = p.length + 1 := by simp
              have hb8 : Below wr.heap.size wr w8 := hb7.trans (hbel8.mono (by omega))
              obtain ⟨A8, c8, rfl, _, _, hrd8⟩ := Own.int hown8'
              have hT8 := HTW.out.below hb8
              have CL := hid (s_l06Live w8 (some ⟨bt, offt, none⟩) A8 c' c8 ts (p ++ [(i : Int)]) HO.out (by omega) hT8 hrd8)
              rw [hl8] at CL
              have BW8 := hid (bthen BW.out hb8)
              have hle8 := cntS_le ts (p ++ [(i : Int)]) (p.length + 1)
              by_cases hlv : (cntS ts (p ++ [(i : Int)]) (p.length + 1) : Int) ≤ most
              · have HST2 : Hid (F = orO (wthD ts most d (p ++ [(i : Int)])) (wthI ts most (wthD ts most d) p (ts.length - (i + 1)))) := hid (by rw [HSTi.out, decide_eq_true hlv]; rfl)
                have hlv' : ¬ most < (cntS ts (p ++ [(i : Int)]) (p.length + 1) : Int) := by omega
                have HOW := hid hown8'
                have HT8 := hid hT8
                have IHi := hid (fun w9 (hb9 : Below w8.heap.size w8 w9) => IH.out (p ++ [(i : Int)]) w9 A8 c8 wr.heap.size (by rw [hl8]; have := HPD.out; omega) (by have := hb8.size; have := hb9.size; omega) (Own.wide (Own.eqv HOW.out (Eqv.of hb9 (Nat.le_refl _))) (Nat.le_refl _) hb9.size) (HT8.out.below hb9))
                rw [hl8] at IHi ⊢
                clear HSTi hlv hT8 hown8 hown8' hbel8 hb8 hrd8 ho7 hb7 HTW IH HT8 HOW
                generalize cntS ts (p ++ [(i : Int)]) (p.length + 1) = cv at *
                go_wp2_with fail
                refine CL.out.mono ?_
                rintro e w9 ⟨rfl, hb9⟩
                have CR := hid (IHi.out w9 hb9)
                have BW9 := hid (bthen BW8.out hb9)
                have hz9 := BW9.out.size
                clear CL IHi hb9 BW8 BW
                generalize hres : wthD ts most d (p ++ [(i : Int)]) = R at *
                cases R with
                | some o =>
                  have HFo : Hid (F = some o) := hid HST2.out
                  clear HST2 hres
                  go_wp2_with fail
                  refine CR.out.mono ?_
                  rintro e w10 ⟨v10, rfl, ho10, hb10⟩
                  obtain ⟨A10, c10, rfl, _, _, _⟩ := Own.int ho10
                  have HR : Hid (∃ v, Ending.returned (.tuple #[.slice A10 o.length c10, .bool true]) = .returned (.tuple #[v, .bool F.isSome]) ∧ OI w10 lo w10.heap.size v (F.getD []) ∧ Below W.heap.size W w10) := hid (by
                    rw [HFo.out]
                    exact ⟨_, rfl, Own.wide ho10 (by omega) (Nat.le_refl _), bthen BW9.out hb10⟩)
                  clear HFo ho10 hb10 BW9 CR
                  go_wp2
                  go_ret2
                  exact HR.out
                | none =>
                  have AL' : Aside (wthI ts most (wthD ts most d) p (ts.length - (i + 1)) = F) := HST2.out.symm
                  clear HST2 hres
                  go_wp2_with fail
                  refine CR.out.mono ?_
                  rintro e w10 ⟨v10, rfl, ho10, hb10⟩
                  obtain ⟨A10, c10, rfl, _, _, _⟩ := Own.int ho10
                  have BW10 : Aside (Below W.heap.size W w10) := bthen BW9.out hb10
                  clear ho10 hb10 BW9 CR
                  go_wp2
                  go_roundg (ts.length - (i + 1))
                  case measure => omega
                  case rel => exact ⟨i + 1, by omega, by omega, by go_num, BW10, AL'⟩
              · have hlv' : most < (cntS ts (p ++ [(i : Int)]) (p.length + 1) : Int) := by omega
                have AL' : Aside (wthI ts most (wthD ts most d) p (ts.length - (i + 1)) = F) := by unfold Aside; rw [HSTi.out, decide_eq_false hlv]; rfl
                clear HSTi hlv hT8 hown8 hown8' hbel8 hb8 hrd8 ho7 hb7 HTW IH
                generalize cntS ts (p ++ [(i : Int)]) (p.length + 1) = cv at *
                rw [hl8]
                go_wp2_with fail
                refine CL.out.mono ?_
                rintro e w9 ⟨rfl, hb9⟩
                have BW9 : Aside (Below W.heap.size W w9) := bthen BW8.out hb9
                clear CL hb9 BW8 BW
                go_wp2_with fail
                go_roundg (ts.length - (i + 1))
                case measure => omega
                case rel => exact ⟨i + 1, by omega, by omega, by go_num, BW9, AL'⟩
      · have : i = ts.length := by omega
        subst this
        have hfn : none = F := by have := AL.out; rw [Nat.sub_self] at this; exact this
        subst hfn
        have hwz := BW.out.size
        have hlit : Own (wo.alloc (.cells #[] 2)) wo.heap.size (wo.heap.size + 1) 2 1 (.slice (some ⟨wo.heap.size, 0, none⟩) 0 0) 0 [] := by
          have := Own.of (World.ownsRow_lit (base := wo.heap.size) (e := 2) (size := 1) wo #[] 0 (Nat.le_refl _) (by simp [maxLen]) rfl)
          simpa using this
        clear AL HF HST HT HV IH
        go_wp2
        go_ret2
        exact ⟨_, rfl, Own.wide hlit (by omega) (by simp), balloc BW.out _⟩
set_option maxRecDepth 100000 in
theorem s_LeastPressure (w : World) (A : Option Addr) (c : Nat) (ts : List TaskV) (hl : tsz ts ≤ 1048576) (hT : RdT w A ts) :
    Calls Try.prog 67 #[.slice A ts.length c] w (RetIZB w (m_LeastPressure ts)) := by
  have c0 := s_l06Is w A c ts hl hT
  have HE : Hid (m_LeastPressure ts = if tasksB ts then ((lpI ts).1, (lpI ts).2, true) else ([], 0, false)) := hid rfl
  cases h0 : tasksB ts with
  | false =>
    rw [h0] at c0 HE
    have C0 := hid c0
    clear c0 h0 hT hl
    generalize m_LeastPressure ts = r at HE ⊢
    go_enter Try.func67, Try.ntmps67
    go_wp2_with fail
    refine C0.out.mono ?_
    rintro e w1 ⟨rfl, hb1⟩
    go_wp2_with fail
    go_ret3
    exact ⟨_, by rw [HE.out]; rfl, by rw [HE.out]; exact Own.nil _ _ _ _ _, hb1⟩
  | true =>
    rw [h0] at c0 HE
    have C0 := hid c0
    have hO := TOk.of h0
    obtain ⟨h1, h2, h3, h4⟩ := lp_wth hO
    have hfew := hO.few
    obtain ⟨M, hM⟩ := Int.eq_ofNat_of_zero_le h1
    have HE2 : Hid (m_LeastPressure ts = ((lpI ts).1, (M : Int), true)) := hid (by rw [HE.out, hM]; rfl)
    rw [hM] at h2 h3 h4
    have hM8 : M ≤ 8 := by omega
    have HS := hid h3
    have HN : Hid (∀ m : Nat, m < M → wthD ts m ts.length [] = none) := hid fun m hm => h4 m (by omega) (by omega)
    have HT := hid hT
    have HW := hid (fun (m : Nat) (W : World) (hW : Below w.heap.size w W) => s_l06Within ts A c (m : Int) hO ts.length [] (W.alloc (.cells #[] 2)) (some ⟨W.heap.size, 0, none⟩) 0 W.heap.size (by simp) (by simp)
      (by
        have := Own.of (World.ownsRow_lit (base := W.heap.size) (e := 2) (size := 1) W #[] 0 (Nat.le_refl _) (by simp [maxLen]) rfl)
        simpa [OI, OwnI, ints] using this) ((HT.out.below hW).below (ballocw _ _)))
    clear c0 h0 hT hl hO h1 h2 h3 h4 hM HE
    generalize (lpI ts).1 = o at *
    generalize m_LeastPressure ts = r at *
    go_enter Try.func67, Try.ntmps67
    go_wp2_with fail
    refine C0.out.mono ?_
    rintro e w1 ⟨rfl, hb1⟩
    have HB1 := hid hb1
    clear hb1 C0
    go_wp2_with fail
    go_loopg [5] M (fun gg s wr => ∃ m : Nat, m ≤ M ∧ M - m ≤ gg ∧ s = .int .i64 m ∧ Aside (Below w.heap.size w wr))
    case atStart => exact ⟨0, Nat.zero_le _, by omega, rfl, HB1.out⟩
    case round =>
      obtain ⟨m, hm, hg, rfl, BW⟩ := hrel
      have HC := hid (HW.out m wr BW.out)
      have HB2 := hid (balloc BW.out (.cells #[] 2))
      have hz := BW.out.size
      clear HW HT
      by_cases e : m = M
      · subst e
        have HR : Hid (wthD ts (m : Int) ts.length [] = some o) := HS
        rw [HR.out] at HC
        clear HN HS HR
        go_wp2_with fail
        refine HC.out.mono ?_
        rintro e w3 ⟨v3, rfl, ho3, hb3⟩
        obtain ⟨A3, c3, rfl, _, _, _⟩ := OI.shp ho3
        have HRR : Hid (RetIZB w r (.returned (.tuple #[.slice A3 o.length c3, .int .i64 (m : Nat), .bool true])) w3) := hid ⟨_, by rw [HE2.out], by rw [HE2.out]; exact Own.wide ho3 hz (Nat.le_refl _), bthen HB2.out hb3⟩
        clear ho3 hb3 HC HE2
        go_wp2_with fail
        go_ret3
        exact HRR.out
      · have HR := hid (HN.out m (by omega))
        rw [HR.out] at HC
        clear HN HS HR
        go_wp2_with fail
        refine HC.out.mono ?_
        rintro e w3 ⟨v3, rfl, ho3, hb3⟩
        obtain ⟨A3, c3, rfl, _, _, _⟩ := OI.shp ho3
        have BW3 : Aside (Below w.heap.size w w3) := bthen HB2.out hb3
        clear ho3 hb3 HC HE2 BW
        go_wp2_with fail
        go_roundg (M - (m + 1))
        case measure => omega
        case rel => exact ⟨m + 1, by omega, by omega, by go_num, BW3⟩
end Go.Proofs.Ytcknhjeefdbhbaa
