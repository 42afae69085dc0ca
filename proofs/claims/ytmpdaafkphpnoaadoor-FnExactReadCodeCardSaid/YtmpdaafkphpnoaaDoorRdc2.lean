import Derived.Test.YtmpdaafkphpnoaaDoorRsr4
import Derived.Test.YtmpdaafkphpnoaaDoorRdc
import Derived.Test.YtmpdaafkphpnoaaDoorCod3
set_option linter.unusedVariables false
set_option linter.unusedSimpArgs false
namespace Go.Proofs.YtmpdaafkphpnoaaDoor
open Go.RowKit

/-- Texts in a row. -/
def Prt (W : World) (g : Nat) (ps : List (List UInt8)) : Prop := ∀ k, k < ps.length → W.cell? ⟨g, k, none⟩ = some (.string (bstr (ptx ps k)))
theorem Prt.below {W W' : World} {g : Nat} {ps : List (List UInt8)} (h : Prt W g ps) (hb : Below W.heap.size W W') : Prt W' g ps := fun k hk => bcell hb (h k hk)
theorem own_prt {w : World} {lo hi : Nat} {v : Value} {ps : List (List UInt8)} (h : Own w lo hi 9 1 v ps.length (strs ps)) (hn : ps ≠ []) : ∃ g c, v = .slice (some ⟨g, 0, none⟩) ps.length c ∧ Prt w g ps ∧ ps.length ≤ c ∧ c ≤ 9223372036854775807 := by
  obtain ⟨A, c, rfl, h1, h2, h3⟩ := Own.shape h
  rcases h3 with ⟨_, h0⟩ | ⟨g, rfl, _, _, hc, _⟩
  · exact absurd (List.length_eq_zero_iff.1 h0) hn
  · refine ⟨g, c, rfl, fun k hk => ?_, h1, h2⟩
    have := hc k (.string (bstr (ptx ps k))) (by unfold strs; rw [List.getElem?_map, ptx_get hk]; rfl)
    simpa using this
def smR (p : List UInt8) : SmV := (stmR p).1
theorem rdL_smR (l : List UInt8) : rdL l = (cutL 59 l).map smR := rfl
theorem i_ValidCodeB (w : World) (A : Option Addr) (c : Nat) (xs : List SmV) (hl : xs.length ≤ 9223372036854775807) (hR : RdC w A xs) :
    Calls Tryd.prog 32 #[.slice A xs.length c] w fun e w' => e = .returned (.bool (codeB xs)) ∧ Below w.heap.size w w' := by
  have hall := areAllC w A c xs 56 #[] (fun k => stmB (sel xs k)) (by omega) hR (enters_of Tryd.func56 (by kernel_rfl) rfl) (fun W hW k hk => i_ValidCode1 W (sel xs k))
  rw [allN_stms] at hall
  clear hR
  unfold codeB
  generalize xs.all stmB = r at hall ⊢
  by_cases h : xs.length ≤ 16
  · have h' : (xs.length : Int) ≤ 16 := by omega
    go_enter Tryd.func32, Tryd.ntmps32
    go_wp2_with fail
    refine hall.mono ?_
    rintro e w1 ⟨rfl, hb1⟩
    go_wp2_with fail
    go_ret
    exact ⟨ret_b (by simp [h]), hb1⟩
  · have h' : ¬ (xs.length : Int) ≤ 16 := by omega
    clear hall
    go_enter Tryd.func32, Tryd.ntmps32
    go_wp2_with fail
    go_ret
    exact ⟨ret_b (by simp [h]), Below.refl _ _⟩
/-- Code and a word are returned. -/
def RetC (w : World) (xs : List SmV) (b : Bool) (e : Ending) (w' : World) : Prop := ∃ v, e = .returned (.tuple #[v, .bool b]) ∧ OC w' w.heap.size w'.heap.size v xs ∧ Below w.heap.size w w'
theorem i_ReadCode0 (w : World) : Calls Tryd.prog 17 #[.string { data := #[] }] w (RetC w [] true) := by
  go_enter Tryd.func17, Tryd.ntmps17
  go_wp2
  go_ret2
  exact ⟨_, rfl, OC.nil _ _ _, Below.refl _ _⟩
set_option maxRecDepth 100000 in
set_option maxHeartbeats 1000000 in
theorem i_ReadCodeM (w : World) (s : ByteArray) (ps : List (List UInt8)) (xs : List SmV) (bb : Bool) (hne : s.toList.isEmpty = false) (hn : ps.length ≤ 1048577)
    (CS : Hid (∀ W, Below w.heap.size w W → Calls Tryd.prog 36 #[.string s, .string { data := #[59] }] W fun e w' => ∃ g c, e = .returned (.slice (some ⟨g, 0, none⟩) ps.length c) ∧ Prt w' g ps ∧ Below W.heap.size W w'))
    (CR : Hid (∀ W k, Below w.heap.size w W → k < ps.length → Calls Tryd.prog 37 #[.string (bstr (ptx ps k))] W fun e w' => e = .returned (.tuple #[sv (smR (ptx ps k)), .bool (stmR (ptx ps k)).2]) ∧ Below W.heap.size W w'))
    (CV : Hid (∀ W A c, RdC W A (ps.map smR) → Calls Tryd.prog 32 #[.slice A ps.length c] W fun e w' => e = .returned (.bool (codeB (ps.map smR))) ∧ Below W.heap.size W w'))
    (CT : Hid (∀ W A c, Below w.heap.size w W → RdC W A (ps.map smR) → codeB (ps.map smR) = true → (∀ k, k < ps.length → (stmR (ptx ps k)).2 = true) → Calls Tryd.prog 33 #[.slice A ps.length c] W fun e w' => e = .returned (.string s) ∧ Below W.heap.size W w'))
    (HB : Hid (∀ k, k < ps.length → (stmR (ptx ps k)).2 = false → xs = [] ∧ bb = false))
    (HF : Hid (codeB (ps.map smR) = false → xs = [] ∧ bb = false))
    (HT : Hid ((∀ k, k < ps.length → (stmR (ptx ps k)).2 = true) → codeB (ps.map smR) = true → xs = ps.map smR ∧ bb = true)) :
    Calls Tryd.prog 17 #[.string s] w (RetC w xs bb) := by
  go_enter Tryd.func17, Tryd.ntmps17
  go_wp2_with (go_at_call 36; go_loud (refine (CS.out _ (Below.refl _ _)).mono ?_; rintro e w1 ⟨g, c1, rfl, hp1, hb1⟩; have HP1 := hid hp1; have HB1 := hid hb1; clear hp1 hb1))
  go_loopg [4, 14] ps.length (fun gg v s14 wr => ∃ k : Nat, k ≤ ps.length ∧ ps.length - k ≤ gg ∧ s14 = .int .i64 k ∧ Aside (∀ j, j < k → (stmR (ptx ps j)).2 = true) ∧ Aside (OC wr w1.heap.size wr.heap.size v ((ps.take k).map smR)) ∧ Aside (Below w1.heap.size w1 wr))
  case atStart => exact ⟨0, Nat.zero_le _, by omega, rfl, fun j hj => absurd hj (Nat.not_lt_zero _), OC.nil _ _ _, Below.refl _ _⟩
  case round =>
    obtain ⟨k, hk, hg, rfl, AL, OW, BW⟩ := hrel
    by_cases hlt : k < ps.length
    · have hc := (HP1.out.below BW.out) k hlt
      have hltz : (k : Int) < (ps.length : Int) := by omega
      have C := hid (CR.out wr k (HB1.out.trans (BW.out.mono HB1.out.size)) hlt)
      have HBk := hid (HB.out k hlt)
      have HTK := hid (ptx_take hlt smR)
      have HALk := hid (fun (h : (stmR (ptx ps k)).2 = true) => (show ∀ j, j < k + 1 → (stmR (ptx ps j)).2 = true from fun j hj => by
        by_cases e : j = k
        · subst e; exact h
        · exact AL.out j (by omega)))
      have HL : Hid (((ps.take k).map smR).length = k) := hid (by simp; omega)
      clear CS CR CV CT HB HF HT AL
      generalize bstr (ptx ps k) = t at *
      generalize (stmR (ptx ps k)).2 = ok at *
      generalize smR (ptx ps k) = y at *
      obtain ⟨yo, yd, ya, yb⟩ := y
      have hlen : ((ps.take k).map smR).length + 1 ≤ 2097152 := by rw [HL.out]; omega
      have HLEN := hid hlen
      clear hlen
      cases ok with
      | false =>
        obtain ⟨rfl, rfl⟩ := HBk.out rfl
        go_wp2_with (go_at_call 37; go_loud (refine C.out.mono ?_; rintro e w2 ⟨rfl, hb2⟩; have HB2 := hid hb2; clear hb2))
        go_ret2
        exact ⟨_, rfl, OC.nil _ _ _, balloc (HB1.out.trans ((bthen BW.out HB2.out).mono HB1.out.size)) _⟩
      | true =>
        go_wp2_with (first
          | (go_at_call 37; go_loud (refine C.out.mono ?_; rintro e w2 ⟨rfl, hb2⟩; have hb3 := bthen hb2 (ballocw w2 (.cells #[.int .i64 yo, .int .i64 yd, .int .i64 ya, .int .i64 yb] 57)); have HO3 := hid ((OC.eqv OW.out (Eqv.of hb3 (Nat.le_refl _))).wide (Nat.le_refl _) hb3.size); have HB3 := hid (bthen BW.out hb3); have HZ3 := hid HB3.out.size; clear hb2 hb3))
          | (at_builtin; go_loud (refine wp_appendC w1.heap.size rfl _ _ rfl u4 ((ps.take k).map smR) yo yd ya yb (w2.heap.size + 1) (by simp) rfl rfl HO3.out HZ3.out HLEN.out ?_; intro v4 w4 hown4 hbel4; have HO4 := hid hown4; have HB4 := hid (HB3.out.trans hbel4); clear hown4 hbel4)))
        go_roundg (ps.length - (k + 1))
        case measure => omega
        case rel => exact ⟨k + 1, by omega, by omega, by go_num, HALk.out (by first | rfl | trivial), by rw [HTK.out]; exact HO4.out, HB4.out⟩
    · obtain rfl : k = ps.length := by omega
      have OW' := hid OW.out
      rw [List.take_length] at OW'
      obtain ⟨A, c, rfl, _, _, hR⟩ := OW'.out.shp
      have CV' := hid (CV.out wr A c hR)
      have CT' := hid (fun W (hW : Below wr.heap.size wr W) h => CT.out W A c (HB1.out.trans ((bthen BW.out hW).mono HB1.out.size)) (hR.below hW) h AL.out)
      have HT' := hid (HT.out AL.out)
      have hltz : ¬ (ps.length : Int) < (ps.length : Int) := by omega
      rw [List.length_map] at OW'
      clear CV CT HT HB CS CR OW hR AL
      cases hv : codeB (ps.map smR) with
      | false =>
        rw [hv] at CV'
        obtain ⟨rfl, rfl⟩ := HF.out hv
        clear CT' HT' hv HF
        go_wp2_with (go_at_call 32; go_loud (refine CV'.out.mono ?_; rintro e w2 ⟨rfl, hb2⟩; have HB2 := hid hb2; clear hb2))
        go_ret2
        exact ⟨_, rfl, OC.nil _ _ _, HB1.out.trans ((bthen BW.out HB2.out).mono HB1.out.size)⟩
      | true =>
        rw [hv] at CV'
        obtain ⟨rfl, rfl⟩ := HT'.out hv
        have CT2 := hid (fun W hW => CT'.out W hW hv)
        clear CT' HT' hv HF
        go_wp2_with (first
          | (go_at_call 32; go_loud (refine CV'.out.mono ?_; rintro e w2 ⟨rfl, hb2⟩; have HB2 := hid hb2; clear hb2))
          | (go_at_call 33; go_loud (refine (CT2.out _ HB2.out).mono ?_; rintro e w3 ⟨rfl, hb3⟩; have HB3 := hid (bthen HB2.out hb3); clear hb3)))
        go_ret2
        exact ⟨_, rfl, (OC.eqv OW'.out (Eqv.of HB3.out (Nat.le_refl _))).wide HB1.out.size HB3.out.size, HB1.out.trans ((bthen BW.out HB3.out).mono HB1.out.size)⟩
end Go.Proofs.YtmpdaafkphpnoaaDoor
