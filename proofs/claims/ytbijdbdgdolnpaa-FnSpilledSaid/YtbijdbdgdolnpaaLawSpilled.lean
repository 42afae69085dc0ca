import Derived.Test.YtbijdbdgdolnpaaSpl6
import Derived.Test.YtbijdbdgdolnpaaSpl3
import Derived.Test.YtbijdbdgdolnpaaR8L
import Derived.Test.YtbijdbdgdolnpaaWidth
set_option linter.unusedVariables false
set_option linter.unusedSimpArgs false
namespace Go.Proofs.Ytbijdbdgdolnpaa
open Go.RowKit

theorem m_Fewest_yes {xs : List PI} {r : Int} (h1 : rngsB xs = true) (h2 : inB r 0 12 = true) : m_FewestSpills xs r = ((bsI xs r (2 ^ xs.length)).1, true) := by unfold m_FewestSpills; rw [h1, h2]; rfl
theorem m_Width_yes {xs : List PI} (h1 : rngsB xs = true) : m_WidthOf xs = (widN xs xs.length, true) := by unfold m_WidthOf; rw [h1]; rfl
set_option maxRecDepth 100000 in
set_option maxHeartbeats 4000000 in
theorem law_Spilled (w : World) (A0 : Option Addr) (c0 : Nat) (xs0 : List Int) (A1 : Option Addr) (c1 : Nat) (xs1 : List Int) (hl0 : xs0.length ≤ 9223372036854775807) (hR0 : RdU w A0 xs0) (hl1 : xs1.length ≤ 9223372036854775807) (hR1 : RdU w A1 xs1) :
    Calls Try.prog 4 #[.slice A0 xs0.length c0, .slice A1 xs1.length c1] w fun e w' => e = .returned (.bool true) ∧ Below w.heap.size w w' := by
  have CL := hid (l_r8Long w A0 A1 xs0.length c0 xs1.length c1 hl0 hl1)
  cases hlong : (decide (48 < xs0.length) || decide (48 < xs1.length)) with
  | true =>
    rw [hlong] at CL
    clear hlong hR0 hR1
    go_enter Try.func4, Try.ntmps4
    go_wp2_with fail
    refine CL.out.mono ?_
    rintro e w1 ⟨rfl, rfl⟩
    go_wp2_with fail
    go_ret
    exact ⟨rfl, Below.refl _ _⟩
  | false =>
    rw [hlong] at CL
    have hs0 : xs0.length ≤ 48 := by simp at hlong; omega
    have hs1 : xs1.length ≤ 48 := by simp at hlong; omega
    have HU0 := hid hR0
    have HU1 := hid hR1
    clear hlong hR0 hR1 hl0 hl1
    go_enter Try.func4, Try.ntmps4
    go_wp2_with fail
    refine CL.out.mono ?_
    rintro e w0 ⟨rfl, rfl⟩
    clear CL
    have CC := hid (s_R8Ranges w A0 c0 xs0 (by omega) HU0.out)
    go_wp2_with fail
    refine CC.out.mono ?_
    rintro e w1 ⟨v5, ys, rfl, ⟨hy8, hya⟩, ho5, hb1⟩
    obtain ⟨Ar, cr, rfl, _, _, hr5⟩ := OP.shp ho5
    have HYA := hid hya
    have HR5 := hid hr5
    have HB1 := hid hb1
    clear CC hya ho5 hr5 hb1
    have CC := hid (l_r8At w1 A1 c1 xs1 0 5 (by omega) (by omega) (by omega) (by omega) (by omega) (HU1.out.below HB1.out))
    go_wp2_with fail
    refine CC.out.mono ?_
    rintro e w2 ⟨r, rfl, ⟨hr0, hr1⟩, rfl⟩
    have hr4 : r ≤ 4 := by have := hr1 (by omega); omega
    clear CC hr1
    have hrngs : rngsB ys = true := by unfold rngsB; rw [HYA.out]; simp; omega
    have cc := i_FewestSpills w1 Ar cr ys r (by omega) HR5.out
    rw [m_Fewest_yes hrngs (inB_iff.2 ⟨hr0, by omega⟩)] at cc
    obtain ⟨G, hG, hGe, hGf, hGm⟩ := spilled (xs := ys) (r := r) (by omega) hr0
    rw [hGe] at cc
    have CC := hid cc
    have HGF := hid hGf
    have HGM := hid hGm
    have hS12 : (memN G ys.length).length ≤ 12 := by have := memN_length G ys.length; omega
    have HHAS : Hid (∀ i, i < ys.length → decide ((i : Int) ∈ memN G ys.length) = bitN G i) := hid fun i hi => mem_has hi
    have HSUM := hid (kep_mem_len ys G ys.length)
    have HRK : Hid (∀ g, rngsB (kepN ys g ys.length) = true) := hid fun g => rng_kept HYA.out (by omega) g
    have HKL := hid (kepN_length ys)
    have HML := hid (fun g k => memN_length g k)
    have HDS : Hid (∀ h i, h < 2 ^ i → h + 2 ^ i < 2 ^ (i + 1) ∧ kepN ys (h + 2 ^ i) (i + 1) = kepN ys h i ∧ (memN (h + 2 ^ i) (i + 1)).length = (memN h i).length + 1) := hid fun h i hh => drop_set ys hh
    have HKS : Hid (∀ h i, h < 2 ^ i → h < 2 ^ (i + 1) ∧ kepN ys h (i + 1) = kepN ys h i ++ [pel ys i] ∧ (memN h (i + 1)).length = (memN h i).length) := hid fun h i hh => keep_set ys hh
    have HGS : Hid (∀ i, kepN ys G (i + 1) = kepN ys G i ++ (if bitN G i then [] else [pel ys i])) := hid fun _ => rfl
    clear cc hrngs hG hGe hGf hGm
    generalize memN G ys.length = M at *
    go_wp2_with fail
    refine CC.out.mono ?_
    rintro e w3 ⟨v7, rfl, ho7, hb3⟩
    obtain ⟨As, cs, rfl, _, _, hr7⟩ := OI.shp ho7
    have HR7 := hid hr7
    have HB3 := hid hb3
    have hown1 := Own.of (World.ownsRow_lit (base := w3.heap.size) (e := 39) (size := 2) w3 #[] 0 (Nat.le_refl _) (by simp [maxLen]) rfl)
    have hown2 := Own.of (World.ownsRow_lit (base := (w3.alloc (.cells #[] 39)).heap.size) (e := 39) (size := 2) (w3.alloc (.cells #[] 39)) #[] 0 (Nat.le_refl _) (by simp [maxLen]) rfl)
    have HO1 : Hid (OP ((w3.alloc (.cells #[] 39)).alloc (.cells #[] 39)) w3.heap.size ((w3.alloc (.cells #[] 39)).alloc (.cells #[] 39)).heap.size (.slice (some ⟨w3.heap.size, 0, none⟩) 0 0) []) := hid (Own.wide (hown1.eqv (Eqv.of (ballocw _ _) (Nat.le_refl _))) (Nat.le_refl _) (by simp))
    have HO2 : Hid (OP ((w3.alloc (.cells #[] 39)).alloc (.cells #[] 39)) w3.heap.size ((w3.alloc (.cells #[] 39)).alloc (.cells #[] 39)).heap.size (.slice (some ⟨w3.heap.size + 1, 0, none⟩) 0 0) []) := hid (Own.wide (by simpa [ints, pfl] using hown2) (by simp) (Nat.le_refl _))
    have HB0 : Hid (Below w3.heap.size w3 ((w3.alloc (.cells #[] 39)).alloc (.cells #[] 39))) := hid (balloc (ballocw _ _) _)
    clear CC ho7 hr7 hb3 hown1 hown2
    go_wp2_with fail
    go_loopg [9, 10, 11, 12] ys.length (fun gg v9 v10 f s wr => ∃ i h : Nat, i ≤ ys.length ∧ ys.length - i ≤ gg ∧ s = .int .i64 i ∧ f = .int .i64 ((memN h i).length : Nat) ∧ Aside (h < 2 ^ i) ∧ Aside ((memN h i).length = 0 ∨ (memN h i).length < M.length) ∧
      Aside (OP wr w3.heap.size wr.heap.size v9 (kepN ys G i)) ∧ Aside (OP wr w3.heap.size wr.heap.size v10 (kepN ys h i)) ∧ Aside (∀ a, v9.ownBlock = some a → v10.ownBlock ≠ some a) ∧ Aside (Below w3.heap.size w3 wr))
    case atStart => exact ⟨0, 0, Nat.zero_le _, by omega, rfl, rfl, (by show (0 : Nat) < 2 ^ 0; decide), .inl rfl, HO1.out, HO2.out, (fun a ha hb => by cases ha; simp [Value.ownBlock] at hb), HB0.out⟩
    case round =>
      obtain ⟨i, h, hi, hgi, rfl, rfl, HH, FF, O9, O10, AP, BW⟩ := hrel
      clear HO1 HO2 HB0
      by_cases hlt : i < ys.length
      · have hhas := HHAS.out i hlt
        have hgs := HGS.out i
        have hds := HDS.out h i HH.out
        have hks := HKS.out h i HH.out
        have hml := HML.out h i
        have hk1 := HKL.out G i
        have hk2 := HKL.out h i
        have HBq := hid (bthen HB3.out BW.out)
        have hyr := (HR5.out.below HB3.out).below BW.out
        obtain ⟨bo, off, rfl, hc, hc1⟩ := hyr.get hlt
        have CH := l_r8Has wr As cs M (i : Int) (by omega) (HR7.out.below BW.out)
        rw [hhas] at CH
        have HUW : Hid (∀ W, Below w3.heap.size wr W → RdU W A1 xs1) := hid (fun W hW => (HU1.out.below HB1.out).below (HBq.out.trans (hW.mono HB3.out.size)))
        have HYR : Hid (∀ W, Below w3.heap.size wr W → RdP W (some ⟨bo, off, none⟩) ys) := hid (fun W hW => (HR5.out.below HB3.out).below (BW.out.trans hW))
        have HO9 := hid O9.out
        have HO10 := hid O10.out
        have HAP := hid AP.out
        have HBW := hid BW.out
        have HFF := hid FF.out
        have HDS1 := hid hds
        have HKS1 := hid hks
        have hil : (i : Int) < (ys.length : Int) := by omega
        have hsz3 : w3.heap.size ≤ wr.heap.size := BW.out.size
        have HFE : Hid (∀ n, (memN (h + 2 ^ i) (i + 1)).length = n → n = (memN h i).length + 1) := hid fun n hn => by rw [← hn]; exact hds.2.2
        clear hhas hds hks hyr O9 O10 AP BW FF HH HHAS HGS HDS HKS HML HKL HR5 HR7 HU0 HRK HSUM HGM HGF HYA HB3 HU1
        rcases hp : pel ys i with ⟨x, y⟩
        simp only [hp] at hc hc1 hgs HKS1
        have HPE := hid hp
        clear hp
        generalize hf : (memN h i).length = f at *
        have HF := hid hf
        clear hf
        cases hb : bitN G i with
        | true =>
          rw [hb] at hgs CH
          have HK : Hid (kepN ys G (i + 1) = kepN ys G i) := hid (by rw [hgs]; simp)
          have CHH := hid CH
          clear hb hgs CH
          go_wp2_with fail
          refine CHH.out.mono ?_
          rintro e w8 ⟨rfl, rfl⟩
          have H9 : Hid (OP wr w3.heap.size wr.heap.size u9 (kepN ys G (i + 1))) := hid (by rw [HK.out]; exact HO9.out)
          have HBI := hid (Below.refl wr.heap.size wr)
          have C8 := hid (l_r8At wr A1 c1 xs1 ((i : Int) + 1) 3 (by omega) (by omega) (by omega) (by omega) (by omega) (HUW.out wr (Below.refl _ _)))
          clear CHH HO9 HUW
          go_wp2_with fail
          have hsz4 : w3.heap.size ≤ wr.heap.size := hsz3
          have H10 := hid HO10.out
          have HAP2 := hid HAP.out
          have HBQ := hid HBW.out
          clear HO10 HAP
          refine C8.out.mono ?_
          rintro e w8 ⟨z, rfl, ⟨hz0, hz1⟩, rfl⟩
          clear C8
          by_cases hz : z = 0
          · subst hz
            clear hz0 hz1
            by_cases hfl : f + 1 < M.length
            · have hfi : (f : Int) + 1 < (M.length : Int) := by omega
              go_wp2_with fail
              go_roundg (ys.length - (i + 1))
              case measure => omega
              case rel => exact ⟨i + 1, h + 2 ^ i, by omega, by omega, by go_num, (by rw [HDS1.out.2.2]; go_num), HDS1.out.1, (by rw [HDS1.out.2.2]; exact .inr (by omega)), H9.out, (by rw [HDS1.out.2.1]; exact H10.out), HAP2.out, HBQ.out⟩
            · have hfi : ¬ ((f : Int) + 1 < (M.length : Int)) := by omega
              go_wp2_with (at_builtin; refine wp_append2L w3.heap.size rfl _ _ 32 39 (.agg #[.int .i64 0, .int .i64 0]) 16 rfl Try.underlying32 infoRng rfl u10 (kepN ys h i).length _ (.int .i64 x) (.int .i64 y) wr.heap.size rfl rfl rfl rfl rfl H10.out hsz4 (by omega) (by omega) ?_; intro g2 cap2 w9 hown2 hbel2 hkeep2 hlies2)
              go_roundg (ys.length - (i + 1))
              case measure => omega
              case rel =>
                refine ⟨i + 1, h, by omega, by omega, by go_num, (by rw [HKS1.out.2.2]), HKS1.out.1, (by rw [HKS1.out.2.2]; exact HFF.out), ?_, ?_, ?_, HBQ.out.trans hbel2⟩
                · exact Own.wide (own_blk H9.out fun j hj => hkeep2 j (own_at H9.out hj).2.1 (fun e => HAP2.out j hj e.symm)) (Nat.le_refl _) hbel2.size
                · show OP _ _ _ _ _
                  rw [HKS1.out.2.1]; unfold OP; rw [pfl_append, ints_append, List.length_append]; exact hown2
                · intro a ha hb
                  have e : g2 = a := by simpa [Value.ownBlock] using hb
                  subst e
                  rcases hlies2 with hl | hl
                  · exact HAP2.out _ ha hl
                  · have := (own_at H9.out ha).2.1; omega
          · have hzb : (z == 0) = false := by simpa using hz
            clear hz hz1
            go_wp2_with (at_builtin; refine wp_append2L w3.heap.size rfl _ _ 32 39 (.agg #[.int .i64 0, .int .i64 0]) 16 rfl Try.underlying32 infoRng rfl u10 (kepN ys h i).length _ (.int .i64 x) (.int .i64 y) wr.heap.size rfl rfl rfl rfl rfl H10.out hsz4 (by omega) (by omega) ?_; intro g2 cap2 w9 hown2 hbel2 hkeep2 hlies2)
            go_roundg (ys.length - (i + 1))
            case measure => omega
            case rel =>
              refine ⟨i + 1, h, by omega, by omega, by go_num, (by rw [HKS1.out.2.2]), HKS1.out.1, (by rw [HKS1.out.2.2]; exact HFF.out), ?_, ?_, ?_, HBQ.out.trans hbel2⟩
              · exact Own.wide (own_blk H9.out fun j hj => hkeep2 j (own_at H9.out hj).2.1 (fun e => HAP2.out j hj e.symm)) (Nat.le_refl _) hbel2.size
              · show OP _ _ _ _ _
                rw [HKS1.out.2.1]; unfold OP; rw [pfl_append, ints_append, List.length_append]; exact hown2
              · intro a ha hb
                have e : g2 = a := by simpa [Value.ownBlock] using hb
                subst e
                rcases hlies2 with hl | hl
                · exact HAP2.out _ ha hl
                · have := (own_at H9.out ha).2.1; omega
        | false =>
          rw [hb] at hgs CH
          have HK : Hid (kepN ys G (i + 1) = kepN ys G i ++ [(x, y)]) := hid (by rw [hgs]; simp)
          have CHH := hid CH
          clear hb hgs CH
          go_wp2_with fail
          refine CHH.out.mono ?_
          rintro e w8 ⟨rfl, rfl⟩
          clear CHH
          go_wp2_with (at_builtin; refine wp_append2L w3.heap.size rfl _ _ 32 39 (.agg #[.int .i64 0, .int .i64 0]) 16 rfl Try.underlying32 infoRng rfl u9 (kepN ys G i).length _ (.int .i64 x) (.int .i64 y) wr.heap.size rfl rfl rfl rfl rfl HO9.out hsz3 (by omega) (by omega) ?_; intro g1 cap1 wq hown1 hbel1 hkeep1 hlies1)
          have H9 : Hid (OP wq w3.heap.size wq.heap.size (.slice (some ⟨g1, 0, none⟩) ((kepN ys G i).length + 1) cap1) (kepN ys G (i + 1))) := hid (by
            rw [HK.out]; unfold OP; rw [pfl_append, ints_append, List.length_append]; exact hown1)
          have hsz4 : w3.heap.size ≤ wq.heap.size := Nat.le_trans hsz3 hbel1.size
          have hO10 : OP wq w3.heap.size wr.heap.size u10 (kepN ys h i) := own_blk HO10.out fun j hj => hkeep1 j (own_at HO10.out hj).2.1 (fun e => HAP.out j e.symm hj)
          have H10 := hid (Own.wide hO10 (Nat.le_refl _) hbel1.size)
          have HAP2 : Hid (∀ a, (Value.slice (some ⟨g1, 0, none⟩) ((kepN ys G i).length + 1) cap1).ownBlock = some a → u10.ownBlock ≠ some a) := hid (fun a ha hb => by
            have e : g1 = a := by simpa [Value.ownBlock] using ha
            subst e
            rcases hlies1 with hl | hl
            · exact HAP.out _ hl hb
            · have := (own_at HO10.out hb).2.1; omega)
          obtain ⟨b2, off2, e2, hcq, hcq1⟩ := (HYR.out _ hbel1).get hlt
          cases e2
          simp only [HPE.out] at hcq hcq1
          have HBQ := hid (HBW.out.trans hbel1)
          have C8 := hid (l_r8At wq A1 c1 xs1 ((i : Int) + 1) 3 (by omega) (by omega) (by omega) (by omega) (by omega) (HUW.out wq hbel1))
          clear hown1 hbel1 hkeep1 hlies1 HO9 HO10 HAP HUW hO10 hc hc1 HYR
          refine C8.out.mono ?_
          rintro e w8 ⟨z, rfl, ⟨hz0, hz1⟩, rfl⟩
          clear C8
          by_cases hz : z = 0
          · subst hz
            clear hz0 hz1
            by_cases hfl : f + 1 < M.length
            · have hfi : (f : Int) + 1 < (M.length : Int) := by omega
              go_wp2_with fail
              go_roundg (ys.length - (i + 1))
              case measure => omega
              case rel => exact ⟨i + 1, h + 2 ^ i, by omega, by omega, by go_num, (by rw [HDS1.out.2.2]; go_num), HDS1.out.1, (by rw [HDS1.out.2.2]; exact .inr (by omega)), H9.out, (by rw [HDS1.out.2.1]; exact H10.out), HAP2.out, HBQ.out⟩
            · have hfi : ¬ ((f : Int) + 1 < (M.length : Int)) := by omega
              go_wp2_with (at_builtin; refine wp_append2L w3.heap.size rfl _ _ 32 39 (.agg #[.int .i64 0, .int .i64 0]) 16 rfl Try.underlying32 infoRng rfl u10 (kepN ys h i).length _ (.int .i64 x) (.int .i64 y) wq.heap.size rfl rfl rfl rfl rfl H10.out hsz4 (by omega) (by omega) ?_; intro g2 cap2 w9 hown2 hbel2 hkeep2 hlies2)
              go_roundg (ys.length - (i + 1))
              case measure => omega
              case rel =>
                refine ⟨i + 1, h, by omega, by omega, by go_num, (by rw [HKS1.out.2.2]), HKS1.out.1, (by rw [HKS1.out.2.2]; exact HFF.out), ?_, ?_, ?_, HBQ.out.trans hbel2⟩
                · exact Own.wide (own_blk H9.out fun j hj => hkeep2 j (own_at H9.out hj).2.1 (fun e => HAP2.out j hj e.symm)) (Nat.le_refl _) hbel2.size
                · show OP _ _ _ _ _
                  rw [HKS1.out.2.1]; unfold OP; rw [pfl_append, ints_append, List.length_append]; exact hown2
                · intro a ha hb
                  have e : g2 = a := by simpa [Value.ownBlock] using hb
                  subst e
                  rcases hlies2 with hl | hl
                  · exact HAP2.out _ ha hl
                  · have := (own_at H9.out ha).2.1; omega
          · have hzb : (z == 0) = false := by simpa using hz
            clear hz hz1
            go_wp2_with (at_builtin; refine wp_append2L w3.heap.size rfl _ _ 32 39 (.agg #[.int .i64 0, .int .i64 0]) 16 rfl Try.underlying32 infoRng rfl u10 (kepN ys h i).length _ (.int .i64 x) (.int .i64 y) wq.heap.size rfl rfl rfl rfl rfl H10.out hsz4 (by omega) (by omega) ?_; intro g2 cap2 w9 hown2 hbel2 hkeep2 hlies2)
            go_roundg (ys.length - (i + 1))
            case measure => omega
            case rel =>
              refine ⟨i + 1, h, by omega, by omega, by go_num, (by rw [HKS1.out.2.2]), HKS1.out.1, (by rw [HKS1.out.2.2]; exact HFF.out), ?_, ?_, ?_, HBQ.out.trans hbel2⟩
              · exact Own.wide (own_blk H9.out fun j hj => hkeep2 j (own_at H9.out hj).2.1 (fun e => HAP2.out j hj e.symm)) (Nat.le_refl _) hbel2.size
              · show OP _ _ _ _ _
                rw [HKS1.out.2.1]; unfold OP; rw [pfl_append, ints_append, List.length_append]; exact hown2
              · intro a ha hb
                have e : g2 = a := by simpa [Value.ownBlock] using hb
                subst e
                rcases hlies2 with hl | hl
                · exact HAP2.out _ ha hl
                · have := (own_at H9.out ha).2.1; omega
      · have : i = ys.length := by omega
        subst this
        have hgm := HGM.out h HH.out
        have hgf := HGF.out
        have hsum := HSUM.out
        unfold fits at hgm hgf
        obtain ⟨A9, c9, rfl, _, _, hr9⟩ := OP.shp O9.out
        obtain ⟨A10, c10, rfl, _, _, hr10⟩ := OP.shp O10.out
        have ca := i_WidthOf wr A9 c9 (kepN ys G ys.length) (by omega) hr9
        rw [m_Width_yes (HRK.out G)] at ca
        have cb := fun W (hW : Below wr.heap.size wr W) => i_WidthOf W A10 c10 (kepN ys h ys.length) (by have := HKL.out h ys.length; omega) (hr10.below hW)
        have hwa := widN_range (kepN ys G ys.length) (kepN ys G ys.length).length
        have hwb := widN_range (kepN ys h ys.length) (kepN ys h ys.length).length
        obtain ⟨hwa0, hwa1⟩ := hwa
        obtain ⟨hwb0, hwb1⟩ := hwb
        have hkl := HKL.out h ys.length
        simp only [m_Width_yes (HRK.out h)] at cb
        have hff := FF.out
        have HBF := hid ((HB1.out.trans (HB3.out.mono HB1.out.size)).trans (BW.out.mono (Nat.le_trans HB1.out.size HB3.out.size)))
        clear hr9 hr10 O9 O10 AP BW FF HH HHAS HGS HDS HKS HML HKL HR5 HR7 HU0 HRK HSUM HGM HGF HYA HB3 HU1 HB1
        generalize widN (kepN ys G ys.length) (kepN ys G ys.length).length = Wa at *
        generalize widN (kepN ys h ys.length) (kepN ys h ys.length).length = Wb at *
        generalize (kepN ys G ys.length).length = Ka at *
        generalize (kepN ys h ys.length).length = Kb at *
        generalize (memN h ys.length).length = f at *
        generalize M.length = S at *
        have CA := hid ca
        have CB := hid cb
        have hlb : ((Ka : Int) + (S : Int) != (ys.length : Int)) = false := by simp; omega
        have hsI : (Ka : Int) + (S : Int) = (ys.length : Int) := by omega
        have hgn : ¬ (r < Wa) := by omega
        have HFIN : Hid (((S : Int) == 0 || decide (r < Wb)) = true) := hid (by
          by_cases hz : S = 0
          · simp [hz]
          · have := hgm (by omega)
            simp; omega)
        clear ca cb hgm hsum hff
        go_wp2_with fail
        refine CA.out.mono ?_
        rintro e w8 ⟨rfl, hb8⟩
        have HB8 := hid hb8
        have CB2 := hid (CB.out _ hb8)
        clear CA CB hb8
        go_wp2_with fail
        refine CB2.out.mono ?_
        rintro e w9 ⟨rfl, hb9⟩
        have HB9 := hid (bthen HBF.out (bthen HB8.out hb9))
        clear CB2 hb9 HB8
        by_cases hz : S = 0
        · subst hz
          obtain rfl : Ka = ys.length := by omega
          clear HFIN hsI hlb
          go_wp2_with fail
          go_ret
          exact ⟨ret_b (by simp), HB9.out⟩
        · have hzb : ((S : Int) == 0) = false := by simp; omega
          have HQ : Hid (decide (r < Wb) = true) := hid (by have := HFIN.out; rw [hzb, Bool.false_or] at this; exact this)
          clear HFIN
          go_wp2_with fail
          go_ret
          exact ⟨ret_b HQ.out, HB9.out⟩
end Go.Proofs.Ytbijdbdgdolnpaa
