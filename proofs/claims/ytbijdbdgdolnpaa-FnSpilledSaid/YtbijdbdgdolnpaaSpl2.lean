import Derived.Test.YtbijdbdgdolnpaaSpl
import Derived.Test.YtbijdbdgdolnpaaLawO
set_option linter.unusedVariables false
set_option linter.unusedSimpArgs false
namespace Go.Proofs.Ytbijdbdgdolnpaa
open Go.RowKit

/-! ### append(v, x) of one struct of two cells, behind 'at_builtin' -/
theorem wp_append2 {P : Program} {ops : Array Oper} {rest : List Oper} {o : Oper} {a : Act} {Q : Exit → Act → World → Prop} {W : World} (lo : Nat) (hgd : o.guard = none) (s x : Operand) (t e : TypeId) (z : Value) (bytes : Nat)
    (ho : o.op = .call { callee := .builtin .append, args := #[s, x], argTypes := #[t, t] })
    (ht : P.underlying t = some (.slice e)) (hinfo : (P.info? e).map (fun i => (i.zero, i.size, i.bytes)) = some (some z, 2, bytes)) (hz : z.cells.size = 2)
    (v : Value) (n : Nat) (cs : List Value) (y1 y2 : Value) (B : Nat) (hB : W.heap.size = B) (hs : a.eval s = v) (hx : a.eval x = .slice (some ⟨B, 0, none⟩) 1 1) (h1 : y1.oneCell' = true) (h2 : y2.oneCell' = true)
    (HO : Own W lo W.heap.size e 2 v n cs) (hlo : lo ≤ W.heap.size) (hl : n + 1 ≤ 9223372036854775807) (hby : (n + 1) * bytes ≤ 140737488355328)
    (h : ∀ v1 w1, Own w1 lo w1.heap.size e 2 v1 (n + 1) (cs ++ [y1, y2]) → Below lo W w1 → wpList P ops Q rest (a.put o.dst v1) w1) :
    wpList P ops Q (o :: rest) a (W.alloc (.cells #[y1, y2] e)) := by
  obtain ⟨i0, hi, hzz⟩ := Option.map_eq_some_iff.1 hinfo
  simp only [Prod.mk.injEq] at hzz
  obtain ⟨hz0, hz1, hz2⟩ := hzz
  subst hB
  refine wpList_append_own (W.alloc (.cells #[y1, y2] e)) hgd s x t ho lo e i0 z 2 bytes ht hi hz0 hz1 hz2 hz (by omega) v n cs hs (HO.1.alloc _) ⟨W.heap.size, 0, none⟩ 1 1 [y1, y2] hx rfl
    (World.news_of_block (cs := #[y1, y2]) (t := e) (fr := (0, 0)) (heap_alloc_new W _)) (by simp [h1, h2]) (by simp only [maxLen]; omega) hby (by simp; omega) ?_
  intro v1 w1 hown hg _
  refine h v1 w1 (Own.of hown) ?_
  refine ((Below.refl lo W).alloc hlo _).grown hg (by simp; omega) ?_
  intro k hk
  exact (HO.1.lt k hk).1
set_option maxRecDepth 100000 in
theorem i_members (w : World) (g : Nat) (hg : g < 4096) :
    Calls Try.prog 74 #[.int .i64 (g : Nat)] w (RetI w 2 (memN g 12)) := by
  have HZ : Hid (∀ i, g / 2 ^ i = 0 → i ≤ 12 → memN g i = memN g 12) := hid fun i h hi => (memN_stop h hi).symm
  have H12 : Hid (∀ i, ¬ i < 12 → g / 2 ^ i = 0) := hid fun i hi => Nat.div_eq_of_lt (Nat.lt_of_lt_of_le hg (by have := Nat.pow_le_pow_right (n := 2) (by omega) (show 12 ≤ i by omega); omega))
  have HQ : Hid (∀ i, g / 2 ^ i < 4096) := hid fun i => Nat.lt_of_le_of_lt (Nat.div_le_self _ _) hg
  have HML := hid (memN_length g)
  have HO := hid (Own.nil w w.heap.size w.heap.size 2 1)
  go_enter Try.func74, Try.ntmps74
  go_wp2
  go_loopg [3, 4] 12 (fun gg v s wr => ∃ i : Nat, i ≤ 12 ∧ 12 - i ≤ gg ∧ s = .int .i64 i ∧ Aside (OwnI wr w.heap.size wr.heap.size 2 v (memN g i)) ∧ Aside (Below w.heap.size w wr))
  case atStart => exact ⟨0, Nat.zero_le _, by omega, rfl, HO.out, Below.refl _ _⟩
  case round =>
    obtain ⟨i, hi, hgi, rfl, OW, BW⟩ := hrel
    clear HO
    have hsh := shr_nat g i
    have hq := HQ.out i
    have HQ0 := hid (HZ.out i)
    have HB : Hid (memN g (i + 1) = memN g i ++ (if bitN g i then [(i : Int)] else [])) := hid rfl
    have HBI : Hid (bitN g i = (g / 2 ^ i % 2 == 1)) := hid rfl
    have h12 : g / 2 ^ i ≠ 0 → i < 12 := fun h => by
      rcases Nat.lt_or_ge i 12 with hl | hl
      · exact hl
      · exact absurd (H12.out i (by omega)) h
    have hml := HML.out i
    clear HQ HZ H12 HML
    generalize g / 2 ^ i = q at *
    by_cases hq0 : q = 0
    · have HR := hid (HQ0.out hq0 hi)
      subst hq0
      clear HQ0 HB HBI h12
      go_wp2
      go_ret
      refine ⟨_, rfl, ?_, BW.out⟩
      rw [← HR.out]; exact OW.out
    · have hi12 := h12 hq0
      have hqb : ((q : Int) != 0) = true := by simp; omega
      have hand := bits_one q (by omega)
      clear HQ0 h12
      rcases Nat.mod_two_eq_zero_or_one q with h0 | h0
      · rw [h0] at hand
        have HE : Hid (memN g (i + 1) = memN g i) := hid (by rw [HB.out, HBI.out, h0]; simp)
        clear HB HBI h0
        go_wp2
        go_roundg (12 - (i + 1))
        case measure => omega
        case rel => exact ⟨i + 1, by omega, by omega, by go_num, by rw [HE.out]; exact OW, BW⟩
      · rw [h0] at hand
        have HE : Hid (memN g (i + 1) = memN g i ++ [(i : Int)]) := hid (by rw [HB.out, HBI.out, h0]; simp)
        clear HB HBI h0
        have HOW := hid OW.out
        have HSZ := hid BW.out.size
        clear OW
        go_wp2_with (at_builtin; refine wp_append1 w.heap.size rfl _ _ 26 2 (.int .i64 0) 8 rfl Try.underlying26 infoInt rfl u3 (memN g i).length _ (.int .i64 (i : Nat)) rfl rfl rfl HOW.out HSZ.out (by omega) (by omega) ?_; intro v1 w1 hown1 hbel1)
        go_roundg (12 - (i + 1))
        case measure => omega
        case rel =>
          refine ⟨i + 1, by omega, by omega, by go_num, ?_, ?_⟩
          · show OwnI _ _ _ _ _ _
            rw [HE.out]
            unfold OwnI
            rw [ints_append, List.length_append]
            exact hown1
          · show Below _ _ _
            exact BW.out.trans hbel1
theorem infoRng : (Try.prog.info? 39).map (fun i => (i.zero, i.size, i.bytes)) = some (some (.agg #[.int .i64 0, .int .i64 0]), 2, 16) := by kernel_rfl
set_option maxRecDepth 100000 in
theorem i_without (w : World) (A : Option Addr) (c : Nat) (xs : List PI) (g : Nat) (hg : g < 4096) (hl : xs.length ≤ 12) (hR : RdP w A xs) :
    Calls Try.prog 77 #[.slice A xs.length c, .int .i64 (g : Nat)] w fun e w' => ∃ v, e = .returned v ∧ OP w' w.heap.size w'.heap.size v (kepN xs g xs.length) ∧ Below w.heap.size w w' := by
  have HR := hid hR
  have HK : Hid (∀ k, kepN xs g (k + 1) = kepN xs g k ++ (if bitN g k then [] else [pel xs k])) := hid fun _ => rfl
  have HQ : Hid (∀ i, g / 2 ^ i < 4096) := hid fun i => Nat.lt_of_le_of_lt (Nat.div_le_self _ _) hg
  have HKL := hid (kepN_length xs g)
  have HO := hid (Own.nil w w.heap.size w.heap.size 39 2)
  clear hR
  go_enter Try.func77, Try.ntmps77
  go_wp2
  go_loopg [5, 10] xs.length (fun gg v s wr => ∃ k : Nat, k ≤ xs.length ∧ xs.length - k ≤ gg ∧ s = .int .i64 k ∧ Aside (OP wr w.heap.size wr.heap.size v (kepN xs g k)) ∧ Aside (Below w.heap.size w wr))
  case atStart => exact ⟨0, Nat.zero_le _, by omega, rfl, HO.out, Below.refl _ _⟩
  case round =>
    obtain ⟨k, hk, hgk, rfl, OW, BW⟩ := hrel
    clear HO
    by_cases hlt : k < xs.length
    · obtain ⟨b, off, rfl, hc, hc1⟩ := (HR.out.below BW.out).get hlt
      have hsh := shr_nat g k
      have hq := HQ.out k
      have hkl := HKL.out k
      have HB := hid (HK.out k)
      have HBI : Hid (bitN g k = (g / 2 ^ k % 2 == 1)) := hid rfl
      have hbx : Below wr.heap.size wr (wr.alloc (.cells #[.int .i64 (pel xs k).1, .int .i64 (pel xs k).2] 39)) := ballocw wr _
      have hOW2 := OW.out.eqv (Eqv.of hbx (Nat.le_refl _))
      have HBW := hid (bthen BW.out hbx)
      have HOW : Hid (OP (wr.alloc (.cells #[.int .i64 (pel xs k).1, .int .i64 (pel xs k).2] 39)) w.heap.size (wr.alloc (.cells #[.int .i64 (pel xs k).1, .int .i64 (pel xs k).2] 39)).heap.size u5 (kepN xs g k)) := hid (Own.wide hOW2 (Nat.le_refl _) hbx.size)
      have HSZ := hid HBW.out.size
      clear HQ HR HK HKL OW BW hbx hOW2
      generalize g / 2 ^ k = q at *
      have hand := bits_one q (by omega)
      rcases hp : pel xs k with ⟨x, y⟩
      simp only [hp] at hc hc1 HB HBW HOW HSZ
      clear hp
      rcases Nat.mod_two_eq_zero_or_one q with h0 | h0
      · rw [h0] at hand
        have HE : Hid (kepN xs g (k + 1) = kepN xs g k ++ [(x, y)]) := hid (by rw [HB.out, HBI.out, h0]; simp)
        clear HB HBI h0
        go_wp2_with (go_loud (at_builtin; refine wp_append2 w.heap.size rfl _ _ 32 39 (.agg #[.int .i64 0, .int .i64 0]) 16 rfl Try.underlying32 infoRng rfl u5 (kepN xs g k).length _ (.int .i64 x) (.int .i64 y) (wr.heap.size + 1) (by simp) rfl rfl rfl rfl HOW.out HSZ.out (by omega) (by omega) ?_; intro v1 w1 hown1 hbel1))
        go_roundg (xs.length - (k + 1))
        case measure => omega
        case rel =>
          refine ⟨k + 1, by omega, by omega, by go_num, ?_, ?_⟩
          · show OP _ _ _ _ _
            rw [HE.out]
            unfold OP
            rw [pfl_append, ints_append, List.length_append]
            exact hown1
          · show Below _ _ _
            exact HBW.out.trans hbel1
      · rw [h0] at hand
        have HE : Hid (kepN xs g (k + 1) = kepN xs g k) := hid (by rw [HB.out, HBI.out, h0]; simp)
        clear HB HBI h0
        go_wp2
        go_roundg (xs.length - (k + 1))
        case measure => omega
        case rel => exact ⟨k + 1, by omega, by omega, by go_num, by rw [HE.out]; exact HOW.out, HBW.out⟩
    · have : k = xs.length := by omega
      subst this
      clear HQ HK HKL HR
      go_wp2
      go_ret
      exact ⟨_, rfl, OW.out, BW.out⟩
theorem g_isNaN (w : World) (x : Int) : Calls Try.prog 162 #[.int .i64 x] w fun e w' => e = .returned (.bool false) ∧ w = w' := by
  go_enter Try.func162, Try.ntmps162
  go_wp2
  go_ret
  exact ⟨ret_b (by simp), rfl⟩
theorem g_cmp (w : World) (x y : Int) : Calls Try.prog 132 #[.int .i64 x, .int .i64 y] w fun e w' => e = .returned (.int .i64 (if x = y then 0 else if x < y then -1 else 1)) ∧ w = w' := by
  have HN := hid (fun x W => g_isNaN W x)
  by_cases e : x = y
  · rw [if_pos e]
    subst e
    go_enter Try.func132, Try.ntmps132
    go_wp2_with fail
    refine (HN.out _ _).mono ?_
    rintro e w1 ⟨rfl, rfl⟩
    go_wp2_with fail
    refine (HN.out _ _).mono ?_
    rintro e w1 ⟨rfl, rfl⟩
    go_wp2_with fail
    go_ret
    exact ⟨rfl, rfl⟩
  · rw [if_neg e]
    by_cases h : x < y
    · rw [if_pos h]
      go_enter Try.func132, Try.ntmps132
      go_wp2_with fail
      refine (HN.out _ _).mono ?_
      rintro e w1 ⟨rfl, rfl⟩
      go_wp2_with fail
      refine (HN.out _ _).mono ?_
      rintro e w1 ⟨rfl, rfl⟩
      go_wp2_with fail
      go_ret
      exact ⟨rfl, rfl⟩
    · rw [if_neg h]
      have h2 : y < x := by omega
      clear e
      go_enter Try.func132, Try.ntmps132
      go_wp2_with fail
      refine (HN.out _ _).mono ?_
      rintro e w1 ⟨rfl, rfl⟩
      go_wp2_with fail
      refine (HN.out _ _).mono ?_
      rintro e w1 ⟨rfl, rfl⟩
      go_wp2_with fail
      go_ret
      exact ⟨rfl, rfl⟩
set_option maxRecDepth 100000 in
theorem g_Compare (w : World) (A B : Option Addr) (c d : Nat) (xs ys : List Int) (hxy : xs.length = ys.length) (hl : xs.length ≤ 1048576) (hA : RdI w A xs) (hB : RdI w B ys) :
    Calls Try.prog 75 #[.slice A xs.length c, .slice B ys.length d] w fun e w' => e = .returned (.int .i64 (cmpL xs ys)) ∧ w = w' := by
  have HA := hid hA
  have HB := hid hB
  have HXY := hid hxy
  have hyl : ys.length ≤ 1048576 := by omega
  have HC := hid (fun x y W => g_cmp W x y)
  have HS : Hid (∀ k, k < xs.length → cmpL (xs.drop k) (ys.drop k) = if el xs k = el ys k then cmpL (xs.drop (k + 1)) (ys.drop (k + 1)) else if el xs k < el ys k then -1 else 1) := hid fun k hk => by
    rw [el_drop hk, el_drop (xs := ys) (by omega)]; rfl
  have HE : Hid (cmpL (xs.drop xs.length) (ys.drop xs.length) = 0) := hid (by rw [List.drop_length]; rfl)
  have hle : xs.length ≤ ys.length := by omega
  have hge : ¬ ((xs.length : Int) < (ys.length : Int)) := by omega
  clear hA hB hxy
  obtain ⟨r, hr⟩ : ∃ r, r = cmpL xs ys := ⟨_, rfl⟩
  rw [← hr]
  have hr0 : r = cmpL (xs.drop 0) (ys.drop 0) := hr
  clear hr
  go_enter Try.func75, Try.ntmps75
  go_wp2
  go_loopg [11] xs.length (fun gg s wr => ∃ k : Nat, k ≤ xs.length ∧ xs.length - k ≤ gg ∧ s = .int .i64 k ∧ Aside (w = wr) ∧ Aside (r = cmpL (xs.drop k) (ys.drop k)))
  case atStart => exact ⟨0, Nat.zero_le _, by omega, rfl, rfl, hr0⟩
  case round =>
    obtain ⟨k, hk, hgk, rfl, BW, RR⟩ := hrel
    obtain rfl := BW.out
    clear BW hr0
    by_cases hlt : k < xs.length
    · have hlt' : k < ys.length := by omega
      have hki : (k : Int) < (ys.length : Int) := by omega
      obtain ⟨b, off, rfl, hc⟩ := HA.out.get hlt
      obtain ⟨b', off', rfl, hc'⟩ := HB.out.get hlt'
      have hs := HS.out k hlt
      have hcc := HC.out (el xs k) (el ys k) w
      by_cases e : el xs k = el ys k
      · rw [if_pos e] at hs
        simp only [if_pos e] at hcc
        have RR' : Aside (r = cmpL (xs.drop (k + 1)) (ys.drop (k + 1))) := by unfold Aside; rw [← hs]; exact RR.out
        have HCC := hid hcc
        clear hs hcc HA HB HC HS HE HXY RR e
        generalize el xs k = x at *
        generalize el ys k = y at *
        go_wp2_with fail
        refine HCC.out.mono ?_
        rintro e w1 ⟨rfl, rfl⟩
        clear HCC
        go_wp2_with fail
        go_roundg (xs.length - (k + 1))
        case measure => omega
        case rel => exact ⟨k + 1, by omega, by omega, by go_num, rfl, RR'⟩
      · rw [if_neg e] at hs
        simp only [if_neg e] at hcc
        by_cases hxy : el xs k < el ys k
        · simp only [if_pos hxy] at hcc hs
          have HCC := hid hcc
          have HR : Hid (r = -1) := hid (by rw [RR.out]; exact hs)
          clear hs hcc HA HB HC HS HE HXY RR e hxy
          generalize el xs k = x at *
          generalize el ys k = y at *
          go_wp2_with fail
          refine HCC.out.mono ?_
          rintro e w1 ⟨rfl, rfl⟩
          clear HCC
          go_wp2_with fail
          go_ret
          exact ⟨ret_i HR.out.symm, rfl⟩
        · simp only [if_neg hxy] at hcc hs
          have HCC := hid hcc
          have HR : Hid (r = 1) := hid (by rw [RR.out]; exact hs)
          clear hs hcc HA HB HC HS HE HXY RR e hxy
          generalize el xs k = x at *
          generalize el ys k = y at *
          go_wp2_with fail
          refine HCC.out.mono ?_
          rintro e w1 ⟨rfl, rfl⟩
          clear HCC
          go_wp2_with fail
          go_ret
          exact ⟨ret_i HR.out.symm, rfl⟩
    · have : k = xs.length := by omega
      subst this
      have HR : Hid (r = 0) := hid (by rw [RR.out]; exact HE.out)
      clear HA HB HC HS HE HXY RR
      go_wp2_with fail
      go_ret
      exact ⟨ret_i HR.out.symm, rfl⟩
end Go.Proofs.Ytbijdbdgdolnpaa
