import Derived.Test.YtmpdaafkphpnoaaGreatGrp2
import Derived.IntWalk
set_option linter.unusedVariables false
set_option linter.unusedSimpArgs false
namespace Go.Proofs.YtmpdaafkphpnoaaGreat
open Go.RowKit

/-! ### Groups of statements -/
def grpIn (cs : List SmV) (g : List Int) : Bool := g.all fun x => inB x 0 ((cs.length : Int) - 1)
theorem grpIn_at {cs : List SmV} {g : List Int} (h : grpIn cs g = true) : InC cs g := fun k hk => by
  unfold grpIn at h
  rw [List.all_eq_true] at h
  have := inB_iff.1 (h _ (el_mem hk)); omega
/-- The statement that a group names at i. -/
def stAt (cs : List SmV) (g : List Int) (i : Nat) : SmV := sel cs (el g i).toNat
def rowB (cs : List SmV) (g : List Int) (i : Nat) : Bool := allN g.length fun k => !(decide (el g i < el g k) && folB (stAt cs g i) (stAt cs g k))
def opB (cs : List SmV) (g : List Int) (i : Nat) : Bool := (stAt cs g i).o == (stAt cs g 0).o
def prB (cs : List SmV) (g : List Int) : Bool := allN g.length fun i => rowB cs g i && opB cs g i
def spanB (la : Int) (xs : List Int) : Bool := decide (Lib.maxOf xs - Lib.minOf xs < 2 * la)
def groupB (la : Int) (cs : List SmV) (g : List Int) : Bool :=
  ((g.length : Int) == la) && (grpIn cs g && (prB cs g && (spanB la (cls SmV.a cs g) && (spanB la (cls SmV.b cs g) && (runB (sortI (cls SmV.d cs g)) && setN (sortI g) g.length)))))
theorem allN_false {n : Nat} {p : Nat → Bool} {k : Nat} (hk : k < n) (h : p k = false) : allN n p = false := by
  cases q : allN n p with
  | false => rfl
  | true => unfold allN at q; rw [List.all_eq_true] at q; have := q k (List.mem_range.2 hk); rw [h] at this; cases this
theorem allN_true {n : Nat} {p : Nat → Bool} (h : ∀ k, k < n → p k = true) : allN n p = true := by
  unfold allN; rw [List.all_eq_true]; exact fun k hk => h k (List.mem_range.1 hk)
theorem allN_at {n : Nat} {p : Nat → Bool} (h : allN n p = true) {k : Nat} (hk : k < n) : p k = true := by
  unfold allN at h; rw [List.all_eq_true] at h; exact h k (List.mem_range.2 hk)
theorem maxOf_mem {xs : List Int} (h1 : 1 ≤ xs.length) : Lib.maxOf xs ∈ xs ∧ ∀ x ∈ xs, x ≤ Lib.maxOf xs := by
  have gen : ∀ (ys : List Int) (a : Int), (ys.foldl max a = a ∨ ys.foldl max a ∈ ys) ∧ a ≤ ys.foldl max a ∧ ∀ x ∈ ys, x ≤ ys.foldl max a := by
    intro ys
    induction ys with
    | nil => intro a; simp
    | cons y ys ih =>
      intro a
      obtain ⟨h1, h2, h3⟩ := ih (max a y)
      simp only [List.foldl_cons]
      refine ⟨?_, by omega, fun x hx => ?_⟩
      · rcases h1 with e | e
        · rw [e]; rcases (show max a y = a ∨ max a y = y by omega) with q | q
          · exact .inl q
          · exact .inr (by rw [q]; simp)
        · exact .inr (List.mem_cons_of_mem _ e)
      · rcases List.mem_cons.1 hx with rfl | hx
        · omega
        · exact h3 x hx
  cases xs with
  | nil => simp at h1
  | cons y ys =>
    have := gen (y :: ys) y
    unfold Lib.maxOf
    simp only [List.headD_cons]
    refine ⟨?_, this.2.2⟩
    rcases this.1 with e | e
    · rw [e]; simp
    · exact e
theorem minOf_mem {xs : List Int} (h1 : 1 ≤ xs.length) : Lib.minOf xs ∈ xs ∧ ∀ x ∈ xs, Lib.minOf xs ≤ x := by
  have gen : ∀ (ys : List Int) (a : Int), (ys.foldl min a = a ∨ ys.foldl min a ∈ ys) ∧ ys.foldl min a ≤ a ∧ ∀ x ∈ ys, ys.foldl min a ≤ x := by
    intro ys
    induction ys with
    | nil => intro a; simp
    | cons y ys ih =>
      intro a
      obtain ⟨h1, h2, h3⟩ := ih (min a y)
      simp only [List.foldl_cons]
      refine ⟨?_, by omega, fun x hx => ?_⟩
      · rcases h1 with e | e
        · rw [e]; rcases (show min a y = a ∨ min a y = y by omega) with q | q
          · exact .inl q
          · exact .inr (by rw [q]; simp)
        · exact .inr (List.mem_cons_of_mem _ e)
      · rcases List.mem_cons.1 hx with rfl | hx
        · omega
        · exact h3 x hx
  cases xs with
  | nil => simp at h1
  | cons y ys =>
    have := gen (y :: ys) y
    unfold Lib.minOf
    simp only [List.headD_cons]
    refine ⟨?_, this.2.2⟩
    rcases this.1 with e | e
    · rw [e]; simp
    · exact e
theorem cls_mem {f : SmV → Int} {cs : List SmV} {g : List Int} {lo hi : Int} (hin : InC cs g) (h : ∀ k, k < cs.length → lo ≤ f (sel cs k) ∧ f (sel cs k) ≤ hi) : ∀ x ∈ cls f cs g, lo ≤ x ∧ x ≤ hi := by
  intro x hx
  obtain ⟨k, hk, rfl⟩ := List.getElem_of_mem hx
  have hk' : k < g.length := by rw [cls_length] at hk; exact hk
  have e := el_get hk
  rw [List.getElem?_eq_getElem hk] at e
  rw [Option.some.inj e, cls_el hk']
  have := hin k hk'
  exact h _ (by omega)
theorem span_small {f : SmV → Int} {cs : List SmV} {g : List Int} (hin : InC cs g) (h : ∀ k, k < cs.length → 0 ≤ f (sel cs k) ∧ f (sel cs k) ≤ 31) (h1 : 1 ≤ g.length) :
    (0 ≤ Lib.maxOf (cls f cs g) ∧ Lib.maxOf (cls f cs g) ≤ 31) ∧ (0 ≤ Lib.minOf (cls f cs g) ∧ Lib.minOf (cls f cs g) ≤ 31) :=
  ⟨cls_mem hin h _ (maxOf_mem (by rw [cls_length]; exact h1)).1, cls_mem hin h _ (minOf_mem (by rw [cls_length]; exact h1)).1⟩
theorem RdI.lt {w : World} {A : Option Addr} {xs : List Int} (h : RdI w A xs) (h1 : 1 ≤ xs.length) : ∀ b off, A = some ⟨b, off, none⟩ → b < w.heap.size := fun b off e => by
  obtain ⟨b', off', e', hc⟩ := h 0 (by omega)
  rw [e] at e'; cases e'
  exact World.block_lt_of_cell? w _ hc
theorem i_isGroup1 (W : World) (Bc : Nat) (A : Option Addr) (n c : Nat) (x : Int) (hn : n ≤ 1048576) (hc : W.cell? ⟨Bc, 0, none⟩ = some (.slice A n c)) :
    Calls Tryz.prog 182 #[.int .i64 x, .pointer (some ⟨Bc, 0, none⟩)] W fun e w' => e = .returned (.bool (inB x 0 ((n : Int) - 1))) ∧ Below W.heap.size W w' := by
  have CL := hid (fun W => i_lengthC A n c W)
  have CW := hid (fun W => i_within x 0 ((n : Int) - 1) W)
  generalize inB x 0 ((n : Int) - 1) = r at *
  go_enter Tryz.func182, Tryz.ntmps182
  go_wp2_with fail
  refine (CL.out _).mono ?_
  rintro e w' ⟨rfl, rfl⟩
  go_wp2_with fail
  refine (CW.out _).mono ?_
  rintro e w' ⟨rfl, rfl⟩
  go_wp2_with fail
  go_ret
  exact ⟨rfl, Below.refl _ _⟩
/-- The two boxes. -/
abbrev GW (w : World) (la bi : Int) (A : Option Addr) (n c : Nat) : World := (w.alloc (.cells #[.int .i64 la, .int .i64 bi] 25)).alloc (.cells #[.slice A n c] 56)
theorem GW.m {w : World} {la bi : Int} {A : Option Addr} {n c : Nat} : (GW w la bi A n c).cell? ⟨w.heap.size, 0, none⟩ = some (.int .i64 la) := bcell (ballocw _ _) (cell_of_row _ _ _ _ _ _ (heap_alloc_new w _))
theorem GW.c {w : World} {la bi : Int} {A : Option Addr} {n c : Nat} : (GW w la bi A n c).cell? ⟨w.heap.size + 1, 0, none⟩ = some (.slice A n c) := cell_new' _ _ (size_one _ _)
theorem GW.bel (w : World) (la bi : Int) (A : Option Addr) (n c : Nat) : Below w.heap.size w (GW w la bi A n c) := balloc (ballocw _ _) _
theorem i_GRa (w : World) (la bi : Int) (A A' : Option Addr) (n c m c' : Nat) (hm : m ≤ 1048576) (h : ((m : Int) != la) = true) :
    Calls Tryz.prog 130 #[mv la bi, .slice A n c, .slice A' m c'] w fun e w' => e = .returned (.bool false) ∧ Below w.heap.size w w' := by
  have CL := hid (fun W => i_lengthI A' m c' W)
  have hm0 := lcell (GW.m (w := w) (la := la) (bi := bi) (A := A) (n := n) (c := c))
  go_enter Tryz.func130, Tryz.ntmps130
  go_wp2
  refine wp_region_calm (by kernel_rfl) (by kernel_rfl) ?_
  repeat (go_big_quiet_step (exact calm_same (CL.out _)))
  refine wpQuiet_nil ?_
  intro _ hw'
  obtain ⟨xq, hw''⟩ := hw'
  subst hw''
  go_wp2
  go_ret
  exact ⟨rfl, (GW.bel w la bi A n c).trans (xq.below.mono (by simp; omega))⟩
theorem i_GRb (w : World) (bi : Int) (A A' : Option Addr) (n c m c' : Nat) (hm : m ≤ 1048576) (hA : Hid (∀ W, Below (GW w m bi A n c).heap.size (GW w m bi A n c) W → Calls Tryz.prog 97 #[.slice A' m c', .func (.func 182) #[] #[.pointer (some ⟨w.heap.size + 1, 0, none⟩)]] W fun e w' => e = .returned (.bool false) ∧ Below W.heap.size W w')) :
    Calls Tryz.prog 130 #[mv m bi, .slice A n c, .slice A' m c'] w fun e w' => e = .returned (.bool false) ∧ Below w.heap.size w w' := by
  have CL := hid (fun W => i_lengthI A' m c' W)
  have hm0 := lcell (GW.m (w := w) (la := m) (bi := bi) (A := A) (n := n) (c := c))
  go_enter Tryz.func130, Tryz.ntmps130
  go_wp2
  refine wp_region_calm (by kernel_rfl) (by kernel_rfl) ?_
  repeat (go_big_quiet_step (first | (go_at_call 54; exact calm_same (CL.out _)) | (go_at_call 97; exact calm_of (hA.out _ (Lat.below _)))))
  refine wpQuiet_nil ?_
  intro _ hw'
  obtain ⟨xq, hw''⟩ := hw'
  subst hw''
  go_wp2
  go_ret
  exact ⟨rfl, (GW.bel w m bi A n c).trans (xq.below.mono (by simp; omega))⟩
set_option maxRecDepth 100000 in
set_option maxHeartbeats 8000000 in
theorem i_GRc (w : World) (bi : Int) (A A' : Option Addr) (c c' : Nat) (cs : List SmV) (g : List Int) (hcs : codeB cs = true) (h2 : 2 ≤ g.length) (h4 : g.length ≤ 4) (hin : grpIn cs g = true) (hR : RdC w A cs) (hG : RdI w A' g)
    (hA : Hid (∀ W, Below (GW w g.length bi A cs.length c).heap.size (GW w g.length bi A cs.length c) W → Calls Tryz.prog 97 #[.slice A' g.length c', .func (.func 182) #[] #[.pointer (some ⟨w.heap.size + 1, 0, none⟩)]] W fun e w' => e = .returned (.bool true) ∧ Below W.heap.size W w')) :
    Calls Tryz.prog 130 #[mv g.length bi, .slice A cs.length c, .slice A' g.length c'] w fun e w' => e = .returned (.bool (groupB g.length cs g)) ∧ Below w.heap.size w w' := by
  have CL := hid (fun W => i_lengthI A' g.length c' W)
  have hm0 := lcell (GW.m (w := w) (la := g.length) (bi := bi) (A := A) (n := cs.length) (c := c))
  have HB := hid (GW.bel w g.length bi A cs.length c)
  have HM := hid (GW.m (w := w) (la := g.length) (bi := bi) (A := A) (n := cs.length) (c := c))
  have HC := hid (GW.c (w := w) (la := g.length) (bi := bi) (A := A) (n := cs.length) (c := c))
  have hne : ((g.length : Int) != (g.length : Int)) = false := by simp
  have HIN := hid (grpIn_at hin)
  have HGB : Hid (groupB g.length cs g = (prB cs g && (spanB g.length (cls SmV.a cs g) && (spanB g.length (cls SmV.b cs g) && (runB (sortI (cls SmV.d cs g)) && setN (sortI g) g.length))))) := hid (by unfold groupB; rw [hin]; simp)
  have HCS := hid hcs
  have HR := hid (RdC.below hR HB.out)
  have HG := hid (RdI.below hG HB.out)
  have hcl := codeB_len hcs
  clear hin hcs hR hG
  generalize groupB g.length cs g = res at *
  go_enter Tryz.func130, Tryz.ntmps130
  go_wp2
  refine wp_region_calm (by kernel_rfl) (by kernel_rfl) ?_
  repeat (go_big_quiet_step (first | (go_at_call 54; exact calm_same (CL.out _)) | (go_at_call 97; exact calm_of (hA.out _ (Lat.below _)))))
  refine wpQuiet_nil ?_
  intro _ hw'
  obtain ⟨xq, hw''⟩ := hw'
  subst hw''
  have BW := hid xq.below
  clear CL hm0 hne hA
  replace HM := hid (bcell BW.out HM.out)
  replace HC := hid (bcell BW.out HC.out)
  replace HR := hid (HR.out.below BW.out)
  replace HG := hid (HG.out.below BW.out)
  replace HB : Hid (Below w.heap.size w xq.val) := hid (HB.out.trans (BW.out.mono HB.out.size))
  clear BW
  generalize xq.val = w1 at *
  go_wp2
  go_loopg [27] g.length (fun gg s wr => ∃ i : Nat, i ≤ g.length ∧ g.length - i ≤ gg ∧ s = .int .i64 i ∧ Aside (Below w1.heap.size w1 wr) ∧ Aside (∀ j, j < i → (rowB cs g j && opB cs g j) = true))
  case atStart => exact ⟨0, Nat.zero_le _, by omega, rfl, Below.refl _ _, fun j hj => absurd hj (Nat.not_lt_zero _)⟩
  case round =>
    obtain ⟨i, hi, hg, rfl, BW, AL⟩ := hrel
    obtain ⟨wo, rfl⟩ : ∃ wo : World, wo = wr := ⟨_, rfl⟩
    by_cases hlt : i < g.length
    · obtain ⟨ba, oa, rfl, hRR⟩ := HR.out.at (by have := HIN.out i hlt; omega)
      obtain ⟨bg, og, rfl, kg⟩ := (RdI.below HG.out BW.out).get hlt
      have hii := HIN.out i hlt
      obtain ⟨p, hp⟩ : ∃ p : Nat, el g i = p := ⟨(el g i).toNat, by omega⟩
      rw [hp] at kg hii
      have hpl : p < cs.length := by omega
      have HP := hid hp
      have HRR := hid hRR
      clear hp hii hRR
      go_wp2
      go_loopg [33] g.length (fun gg s wr => ∃ k : Nat, k ≤ g.length ∧ g.length - k ≤ gg ∧ s = .int .i64 k ∧ Aside (Below w1.heap.size w1 wr) ∧ Aside (∀ j, j < k → (decide (el g i < el g j) && folB (stAt cs g i) (stAt cs g j)) = false))
      case atStart => exact ⟨0, Nat.zero_le _, by omega, rfl, BW.out, fun j hj => absurd hj (Nat.not_lt_zero _)⟩
      case round =>
        obtain ⟨k, hk, hg2, rfl, BW2, AL2⟩ := hrel
        clear kg BW
        by_cases hlk : k < g.length
        · obtain ⟨bg', og', e, kk⟩ := (RdI.below HG.out BW2.out).get hlk
          cases e
          have hik := HIN.out k hlk
          obtain ⟨q, hq⟩ : ∃ q : Nat, el g k = q := ⟨(el g k).toNat, by omega⟩
          rw [hq] at kk hik
          have hql : q < cs.length := by omega
          have HC2 := hid (bcell BW2.out HC.out)
          obtain ⟨x0, x1, x2, x3⟩ := (HRR.out p hpl).below BW2.out
          obtain ⟨y0, y1, y2, y3⟩ := (HRR.out q hql).below BW2.out
          have HST : Hid ((decide (el g i < el g k) && folB (stAt cs g i) (stAt cs g k)) = (decide (p < q) && folB (sel cs p) (sel cs q))) := hid (by unfold stAt; rw [HP.out, hq]; simp)
          have HNX : Hid ((decide (p < q) && folB (sel cs p) (sel cs q)) = false → ∀ j, j < k + 1 → (decide (el g i < el g j) && folB (stAt cs g i) (stAt cs g j)) = false) := hid (fun h j hj => by
            by_cases e : j = k
            · subst e; rw [HST.out]; exact h
            · exact AL2.out j (by omega))
          have HNO : Hid ((decide (p < q) && folB (sel cs p) (sel cs q)) = true → res = false) := hid (fun h => by
            rw [HGB.out, show prB cs g = false from allN_false hlt (by rw [show rowB cs g i = false from allN_false hlk (by rw [HST.out, h]; rfl)]; rfl)]; rfl)
          have CF := hid (fun W => i_follows W (sel cs p) (sel cs q))
          have hcx := HC2.out
          clear HST hq hik AL2 HC2
          generalize folB (sel cs p) (sel cs q) = r at *
          generalize sel cs p = x at *
          generalize sel cs q = y at *
          obtain ⟨xo, xd, xa, xb⟩ := x
          obtain ⟨yo, yd, ya, yb⟩ := y
          have x0 := lcell x0
          have x1 := lcell x1
          have x2 := lcell x2
          have x3 := lcell x3
          have y0 := lcell y0
          have y1 := lcell y1
          have y2 := lcell y2
          have y3 := lcell y3
          have hcx := lcell hcx
          by_cases hpq : p < q
          · have hd : decide (p < q) = true := by simpa using hpq
            cases r with
            | true =>
              have HN := hid (HNO.out (by rw [hd]; rfl))
              clear HNO HNX
              go_wp2
              refine wp_region_calm (by kernel_rfl) (by kernel_rfl) ?_
              repeat (go_big_quiet_step (exact calm_of (CF.out _)))
              refine wpQuiet_nil ?_
              intro _ hw'
              obtain ⟨xq, hw''⟩ := hw'
              subst hw''
              have BW3 := hid (bthen BW2.out xq.below)
              go_wp2
              go_ret
              exact ⟨ret_b (by rw [HN.out]), bthen HB.out BW3.out⟩
            | false =>
              have AL3 : Aside _ := HNX.out (by rw [hd]; rfl)
              clear HNO HNX
              go_wp2
              refine wp_region_calm (by kernel_rfl) (by kernel_rfl) ?_
              repeat (go_big_quiet_step (exact calm_of (CF.out _)))
              refine wpQuiet_nil ?_
              intro _ hw'
              obtain ⟨xq, hw''⟩ := hw'
              subst hw''
              have BW3 := hid (bthen BW2.out xq.below)
              go_wp2
              go_roundg (g.length - (k + 1))
              case measure => omega
              case rel => exact ⟨k + 1, by omega, by omega, by go_num, BW3.out, AL3⟩
          · have hd : decide (p < q) = false := by simpa using hpq
            have AL3 : Aside _ := HNX.out (by rw [hd]; rfl)
            clear HNO HNX
            go_wp2
            refine wp_region_calm (by kernel_rfl) (by kernel_rfl) ?_
            repeat (go_big_quiet_step (exact calm_of (CF.out _)))
            refine wpQuiet_nil ?_
            intro _ hw'
            obtain ⟨xq, hw''⟩ := hw'
            subst hw''
            have BW3 := hid (bthen BW2.out xq.below)
            go_wp2
            go_roundg (g.length - (k + 1))
            case measure => omega
            case rel => exact ⟨k + 1, by omega, by omega, by go_num, BW3.out, AL3⟩
        · obtain rfl : k = g.length := by omega
          have hrow : rowB cs g i = true := allN_true fun j hj => by rw [AL2.out j hj]; rfl
          have HROW := hid hrow
          obtain ⟨bg', og', e, kk⟩ := (RdI.below HG.out BW2.out).get (k := 0) (by omega)
          cases e
          have hik := HIN.out 0 (by omega)
          obtain ⟨q, hq⟩ : ∃ q : Nat, el g 0 = q := ⟨(el g 0).toNat, by omega⟩
          rw [hq] at kk hik
          have hql : q < cs.length := by omega
          have HC2 := hid (bcell BW2.out HC.out)
          obtain ⟨x0, x1, x2, x3⟩ := (HRR.out p hpl).below BW2.out
          obtain ⟨y0, y1, y2, y3⟩ := (HRR.out q hql).below BW2.out
          have HST : Hid (opB cs g i = ((sel cs p).o == (sel cs q).o)) := hid (by unfold opB stAt; rw [HP.out, hq]; simp)
          have HNX : Hid (((sel cs p).o == (sel cs q).o) = true → ∀ j, j < i + 1 → (rowB cs g j && opB cs g j) = true) := hid (fun h j hj => by
            by_cases e : j = i
            · subst e; rw [HROW.out, HST.out, h]; rfl
            · exact AL.out j (by omega))
          have HNO : Hid (((sel cs p).o == (sel cs q).o) = false → res = false) := hid (fun h => by
            rw [HGB.out, show prB cs g = false from allN_false hlt (by rw [HROW.out, HST.out, h]; rfl)]; rfl)
          have hcx := HC2.out
          clear HST hq hik AL2 HC2 hrow AL
          generalize (sel cs p).o = xo at *
          generalize (sel cs q).o = yo at *
          have x0 := lcell x0
          have y0 := lcell y0
          have kk : wr.cell? ⟨bg, og, none⟩ = some (.int .i64 (q : Nat)) := by simpa using kk
          have kk := lcell kk
          have hcx := lcell hcx
          clear x1 x2 x3 y1 y2 y3
          by_cases hxy : xo = yo
          · have hd : (xo != yo) = false := by simpa using hxy
            have AL3 : Aside _ := HNX.out (by simpa using hxy)
            clear HNO HNX hxy
            go_wp2
            refine wp_region_calm (by kernel_rfl) (by kernel_rfl) ?_
            repeat (go_big_quiet_step (fail))
            refine wpQuiet_nil ?_
            intro _ hw'
            obtain ⟨xq, hw''⟩ := hw'
            subst hw''
            have BW3 := hid (bthen BW2.out xq.below)
            go_wp2
            go_roundg (g.length - (i + 1))
            case measure => omega
            case rel => exact ⟨i + 1, by omega, by omega, by go_num, BW3.out, AL3⟩
          · have hd : (xo != yo) = true := by simpa using hxy
            have HN := hid (HNO.out (by simpa using hxy))
            clear HNO HNX hxy
            go_wp2
            refine wp_region_calm (by kernel_rfl) (by kernel_rfl) ?_
            repeat (go_big_quiet_step (fail))
            refine wpQuiet_nil ?_
            intro _ hw'
            obtain ⟨xq, hw''⟩ := hw'
            subst hw''
            have BW3 := hid (bthen BW2.out xq.below)
            go_wp2
            go_ret
            exact ⟨ret_b (by rw [HN.out]), bthen HB.out BW3.out⟩
    · obtain rfl : i = g.length := by omega
      have HPR := hid (show prB cs g = true from allN_true AL.out)
      rw [HPR.out, Bool.true_and] at HGB
      clear HPR AL
      replace HM := hid (bcell BW.out HM.out)
      replace HC := hid (bcell BW.out HC.out)
      replace HR := hid (HR.out.below BW.out)
      replace HG := hid (RdI.below HG.out BW.out)
      replace HB : Hid (Below w.heap.size w wo) := hid (bthen HB.out BW.out)
      clear BW hlt hi hg
      have hin := HIN.out
      obtain ⟨W5, hW5⟩ : ∃ W5, wo.alloc (.cells #[.func (.func 184) #[] #[], .func (.func 185) #[] #[]] 174) = W5 := ⟨_, rfl⟩
      have hrow : W5.heap[wo.heap.size]? = some (.cells #[.func (.func 184) #[] #[], .func (.func 185) #[] #[]] 174) := by rw [← hW5]; exact heap_alloc_new _ _
      have HF0 : Hid (W5.cell? ⟨wo.heap.size, 0, none⟩ = some (.func (.func 184) #[] #[])) := hid (cell_of_row _ _ _ _ _ _ hrow)
      have HF1 : Hid (W5.cell? ⟨wo.heap.size, 1, none⟩ = some (.func (.func 185) #[] #[])) := hid (cell_of_row _ _ _ _ _ _ hrow)
      have HB5 := hid (show Below wo.heap.size wo W5 by rw [← hW5]; exact ballocw _ _)
      have HW5 := hid hW5
      clear hrow
      go_wp2
      replace HM := hid (bcell HB5.out HM.out)
      replace HC := hid (bcell HB5.out HC.out)
      replace HR := hid (HR.out.below HB5.out)
      replace HG := hid (RdI.below HG.out HB5.out)
      replace HB : Hid (Below w.heap.size w W5) := hid (bthen HB.out HB5.out)
      clear HB5 hW5 HW5
      go_loopg [68] 2 (fun gg s wr => ∃ k : Nat, k ≤ 2 ∧ 2 - k ≤ gg ∧ s = .int .i64 k ∧ Aside (Below W5.heap.size W5 wr) ∧ Aside ((1 ≤ k → spanB g.length (cls SmV.a cs g) = true) ∧ (2 ≤ k → spanB g.length (cls SmV.b cs g) = true)))
      case atStart => exact ⟨0, Nat.zero_le _, by omega, rfl, Below.refl _ _, ⟨fun h => by omega, fun h => by omega⟩⟩
      case round =>
        obtain ⟨k, hk, hg3, rfl, BW, SP⟩ := hrel
        by_cases hk2 : k < 2
        · have hk2' : (k : Int) < 2 := by omega
          obtain ⟨gf, f, kf, eg, hf, hsm, hyes, hno⟩ : ∃ (gf : Nat) (f : SmV → Int), W5.cell? ⟨wo.heap.size, k, none⟩ = some (.func (.func gf) #[] #[]) ∧ Ent Tryz.prog gf ∧ (∀ W x, Calls Tryz.prog gf #[sv x] W fun e w' => e = .returned (.int .i64 (f x)) ∧ Below W.heap.size W w') ∧
              (∀ j, j < cs.length → 0 ≤ f (sel cs j) ∧ f (sel cs j) ≤ 31) ∧ (spanB g.length (cls f cs g) = true → (1 ≤ k + 1 → spanB g.length (cls SmV.a cs g) = true) ∧ (2 ≤ k + 1 → spanB g.length (cls SmV.b cs g) = true)) ∧ (spanB g.length (cls f cs g) = false → res = false) := by
            rcases (show k = 0 ∨ k = 1 by omega) with rfl | rfl
            · exact ⟨184, SmV.a, HF0.out, enters_of Tryz.func184 (by kernel_rfl) rfl, fun W x => i_cellA W x, fun j hj => (codeB_at HCS.out hj).2.2.1, fun h => ⟨fun _ => h, fun h => by omega⟩, fun h => by rw [HGB.out, h]; rfl⟩
            · exact ⟨185, SmV.b, HF1.out, enters_of Tryz.func185 (by kernel_rfl) rfl, fun W x => i_cellB W x, fun j hj => (codeB_at HCS.out hj).2.2.2, fun h => ⟨fun _ => SP.out.1 (by omega), fun _ => h⟩, fun h => by rw [HGB.out, SP.out.1 (by omega), h]; rfl⟩
          have kf' := bcell BW.out kf
          have hcx := bcell BW.out HC.out
          have CC := hid (i_cellsOf wr gf f A A' c c' cs g hin (by omega) (by omega) eg (HR.out.below BW.out) (RdI.below HG.out BW.out) hf)
          have hsp := span_small (g := g) hin hsm (by omega)
          have HLN := hid (cls_length f cs g)
          have HYES : Hid (Lib.maxOf (cls f cs g) - Lib.minOf (cls f cs g) < 2 * (g.length : Int) → _) := hid (fun h => hyes (by unfold spanB; simpa using h))
          have HNO : Hid (¬ Lib.maxOf (cls f cs g) - Lib.minOf (cls f cs g) < 2 * (g.length : Int) → res = false) := hid (fun h => hno (by unfold spanB; simpa using h))
          have HM6 := hid (bcell BW.out HM.out)
          clear kf eg hf hsm hyes hno SP HR
          generalize cls f cs g = xs at *
          go_wp2_with fail
          refine CC.out.mono ?_
          rintro e w6 ⟨v, rfl, ho, hb6⟩
          obtain ⟨A1, c1, rfl, _, _, ra⟩ := Own.int ho
          have BW6 := hid (bthen BW.out hb6)
          have CM := hid (fun (x : Lat w6) => g_Max x.val A1 c1 xs (by have := HLN.out; omega) (by have := HLN.out; omega) (RdI.below ra x.below))
          have CN := hid (fun (x : Lat w6) => g_Min x.val A1 c1 xs (by have := HLN.out; omega) (by have := HLN.out; omega) (RdI.below ra x.below))
          have hm6 := lcell (bcell hb6 HM6.out)
          obtain ⟨⟨m1, m2⟩, n1, n2⟩ := hsp
          clear ho ra hb6 CC HM6 kf' hcx
          generalize Lib.maxOf xs = M at *
          generalize Lib.minOf xs = N at *
          have e1 : IntKind.i64.wrap (M - N) = M - N := IntWalk.i64_in _ (by omega)
          have e2 : IntKind.i64.wrap (2 * (g.length : Int)) = 2 * (g.length : Int) := IntWalk.i64_in _ (by omega)
          by_cases hlt : M - N < 2 * (g.length : Int)
          · have hd : decide (2 * (g.length : Int) ≤ M - N) = false := by simp; omega
            have SP2 : Aside _ := HYES.out hlt
            clear HYES HNO hlt
            go_wp2_with fail
            refine wp_region_calm (by kernel_rfl) (by kernel_rfl) ?_
            repeat (go_big_quiet_step (first | (go_at_call 187; exact calm_same (CM.out _)) | (go_at_call 131; exact calm_same (CN.out _))))
            refine wpQuiet_nil ?_
            intro _ hw'
            obtain ⟨xq, hw''⟩ := hw'
            subst hw''
            have BW7 := hid (bthen BW6.out xq.below)
            clear e1 e2
            go_wp2_with fail
            go_roundg (2 - (k + 1))
            case measure => omega
            case rel => exact ⟨k + 1, by omega, by omega, by go_num, BW7.out, SP2⟩
          · have hd : decide (2 * (g.length : Int) ≤ M - N) = true := by simp; omega
            have HN := hid (HNO.out (by omega))
            clear HYES HNO hlt
            go_wp2_with fail
            refine wp_region_calm (by kernel_rfl) (by kernel_rfl) ?_
            repeat (go_big_quiet_step (first | (go_at_call 187; exact calm_same (CM.out _)) | (go_at_call 131; exact calm_same (CN.out _))))
            refine wpQuiet_nil ?_
            intro _ hw'
            obtain ⟨xq, hw''⟩ := hw'
            subst hw''
            have BW7 := hid (bthen BW6.out xq.below)
            clear e1 e2
            go_wp2_with fail
            go_ret
            exact ⟨ret_b (by rw [HN.out]), bthen HB.out BW7.out⟩
        · obtain rfl : k = 2 := by omega
          have hk2' : ¬ ((2 : Nat) : Int) < 2 := by omega
          rw [SP.out.1 (by omega), SP.out.2 (by omega), Bool.true_and, Bool.true_and] at HGB
          have hcx := bcell BW.out HC.out
          have hcc := fun j (hj : j < cs.length) => codeB_at HCS.out hj
          have CC := hid (i_cellsOf wr 191 SmV.d A A' c c' cs g hin (by omega) (by omega) (enters_of Tryz.func191 (by kernel_rfl) rfl) (HR.out.below BW.out) (RdI.below HG.out BW.out) (fun W x => i_cellD W x))
          have HDS := hid (cls_mem (f := SmV.d) (lo := 0) (hi := 31) hin fun j hj => (hcc j hj).2.1)
          have HLN := hid (cls_length SmV.d cs g)
          have HB2 := hid (bthen HB.out BW.out)
          have HG2 := hid (RdI.below HG.out BW.out)
          clear hcc SP HR HM HC HG HB BW hk2 hk hg3 HF0 HF1
          generalize cls SmV.d cs g = xs at *
          go_wp2_with fail
          refine CC.out.mono ?_
          rintro e w6 ⟨v, rfl, ho, hb6⟩
          clear CC hcx
          obtain ⟨A1, c1, rfl, _, _, ra⟩ := Own.int ho
          have HB3 := hid (bthen HB2.out hb6)
          have HG3 := hid (RdI.below HG2.out hb6)
          have HRA := hid ra
          have CV := hid (g_values w6 A1 xs.length c1)
          clear ho ra hb6 HB2 HG2
          go_wp2_with fail
          refine CV.out.mono ?_
          rintro e w7 ⟨rfl, h7⟩
          clear CV
          have hb7 : Below w6.heap.size w6 w7 := by rw [h7]; exact ballocw _ _
          have hc7 : w7.cell? ⟨w6.heap.size, 0, none⟩ = some (.slice A1 xs.length c1) := by rw [h7]; exact cell_new _ _ _
          have hz7 : w7.heap.size = w6.heap.size + 1 := by rw [h7]; exact size_one _ _
          have HRA7 := RdI.below HRA.out hb7
          have CS := hid (g_Sorted w7 w6.heap.size c1 A1 xs (by have := HLN.out; omega) (by have := HLN.out; omega) (by omega) hc7 (RdI.lt HRA7 (by have := HLN.out; omega)) HRA7)
          have HB4 := hid (bthen HB3.out hb7)
          have HG4 := hid (RdI.below HG3.out hb7)
          clear h7 hb7 hc7 hz7 HRA7 HB3 HG3 HRA
          go_wp2_with fail
          refine CS.out.mono ?_
          rintro e w8 ⟨v, rfl, ho, hb8⟩
          clear CS
          obtain ⟨A2, c2, rfl, _, _, ra⟩ := Own.int ho
          have HB5 := hid (bthen HB4.out hb8)
          have HG5 := hid (RdI.below HG4.out hb8)
          have hsm : ∀ k, k < (sortI xs).length → -1048576 ≤ el (sortI xs) k ∧ el (sortI xs) k ≤ 1048576 := fun k hk => by
            have hm : el (sortI xs) k ∈ xs := by
              have := el_mem hk
              unfold sortI at this
              exact (List.mergeSort_perm xs _).mem_iff.1 this
            have := HDS.out _ hm; omega
          have CR := hid (i_isRun w8 A2 c2 (sortI xs) (by rw [sortI_length]; have := HLN.out; omega) hsm ra)
          clear ho ra hb8 HB4 HG4 hsm
          cases hr : runB (sortI xs) with
          | false =>
            rw [hr] at CR
            rw [hr] at HGB
            have HN : Hid (res = false) := hid HGB.out
            clear hr HGB
            go_wp2_with fail
            refine CR.out.mono ?_
            rintro e w9 ⟨rfl, rfl⟩
            clear CR
            go_wp2_with fail
            go_ret
            exact ⟨ret_b (by rw [HN.out]), HB5.out⟩
          | true =>
            rw [hr] at CR
            rw [hr, Bool.true_and] at HGB
            clear hr
            go_wp2_with fail
            refine CR.out.mono ?_
            rintro e w9 ⟨rfl, rfl⟩
            clear CR
            have CV := hid (g_values w8 A' g.length c')
            go_wp2_with fail
            refine CV.out.mono ?_
            rintro e wa ⟨rfl, h7⟩
            clear CV
            have hb7 : Below w8.heap.size w8 wa := by rw [h7]; exact ballocw _ _
            have hc7 : wa.cell? ⟨w8.heap.size, 0, none⟩ = some (.slice A' g.length c') := by rw [h7]; exact cell_new _ _ _
            have hz7 : wa.heap.size = w8.heap.size + 1 := by rw [h7]; exact size_one _ _
            have HG6 := RdI.below HG5.out hb7
            have CS := hid (g_Sorted wa w8.heap.size c' A' g (by omega) (by omega) (by omega) hc7 (RdI.lt HG6 (by omega)) HG6)
            have HB6 := hid (bthen HB5.out hb7)
            clear h7 hb7 hc7 hz7 HG6 HG5 HB5
            go_wp2_with fail
            refine CS.out.mono ?_
            rintro e wb ⟨v, rfl, ho, hb8⟩
            clear CS
            obtain ⟨A3, c3, rfl, _, _, ra⟩ := Own.int ho
            have HB7 := hid (bthen HB6.out hb8)
            have CT := hid (i_isSet wb A3 c3 (sortI g) (by rw [sortI_length]; omega) ra)
            rw [sortI_length] at CT
            have HLS := hid (sortI_length g)
            rw [HLS.out]
            have HN : Hid (res = setN (sortI g) g.length) := hid HGB.out
            clear ho ra hb8 HB6 HGB HLS
            generalize setN (sortI g) g.length = r at *
            go_wp2_with fail
            refine CT.out.mono ?_
            rintro e wc ⟨rfl, hb9⟩
            go_wp2_with fail
            go_ret
            exact ⟨ret_b (by rw [HN.out]), bthen HB7.out hb9⟩
theorem i_isGroup (w : World) (la bi : Int) (A A' : Option Addr) (c c' : Nat) (cs : List SmV) (g : List Int) (hla : la ≤ 4) (hm : machB la bi = true) (hcs : codeB cs = true) (hl : g.length ≤ 1048576) (hR : RdC w A cs) (hG : RdI w A' g) :
    Calls Tryz.prog 130 #[mv la bi, .slice A cs.length c, .slice A' g.length c'] w fun e w' => e = .returned (.bool (groupB la cs g)) ∧ Below w.heap.size w w' := by
  have hcl := codeB_len hcs
  by_cases h : ((g.length : Int) == la) = true
  · obtain rfl : (g.length : Int) = la := by simpa using h
    have h24 : g.length = 2 ∨ g.length = 4 := by
      simp only [machB, Bool.and_eq_true] at hm
      have := lanesB_or hm.1; omega
    have hall := fun W (hW : Below (GW w g.length bi A cs.length c).heap.size (GW w g.length bi A cs.length c) W) => areAllI W A' g.length c' (fun k => .int .i64 (el g k)) 182 #[.pointer (some ⟨w.heap.size + 1, 0, none⟩)] (fun k => inB (el g k) 0 ((cs.length : Int) - 1)) (by omega) ((RdI.below hG (GW.bel w g.length bi A cs.length c)).below hW)
      (enters_of Tryz.func182 (by kernel_rfl) rfl) (fun V hV k hk => i_isGroup1 V (w.heap.size + 1) A cs.length c (el g k) (by omega) (bcell hV (bcell hW GW.c)))
    rw [allN_ints g (fun x => inB x 0 ((cs.length : Int) - 1))] at hall
    cases hin : grpIn cs g with
    | false =>
      rw [show (g.all fun x => inB x 0 ((cs.length : Int) - 1)) = false from hin] at hall
      rw [show groupB g.length cs g = false by unfold groupB; rw [hin]; simp]
      exact i_GRb w bi A A' cs.length c g.length c' hl (hid hall)
    | true =>
      rw [show (g.all fun x => inB x 0 ((cs.length : Int) - 1)) = true from hin] at hall
      exact i_GRc w bi A A' c c' cs g hcs (by omega) (by omega) hin hR hG (hid hall)
  · have h' : ((g.length : Int) == la) = false := by simpa using h
    rw [show groupB la cs g = false by unfold groupB; rw [h']; rfl]
    exact i_GRa w la bi A A' cs.length c g.length c' hl (by simpa using h)
end Go.Proofs.YtmpdaafkphpnoaaGreat
