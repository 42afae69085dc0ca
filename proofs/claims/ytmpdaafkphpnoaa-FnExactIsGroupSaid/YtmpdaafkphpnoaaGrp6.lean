import Derived.Test.YtmpdaafkphpnoaaGrp5
set_option linter.unusedVariables false
set_option linter.unusedSimpArgs false
namespace Go.Proofs.Ytmpdaafkphpnoaa
open Go.RowKit

/-! ### Both groups are one -/
theorem folB_comm (x y : SmV) : folB x y = folB y x := by
  unfold folB
  rw [Bool.eq_iff_iff]
  simp only [Bool.or_eq_true, beq_iff_eq]
  constructor <;> (intro h; rcases h with h | h | h | h | h <;> simp [h])
theorem folB_d {x y : SmV} (h : folB x y = false) : x.d ≠ y.d := by
  unfold folB at h; simp at h; exact h.2.2.1
/-- Numbers in order: the last is the greatest, the first the least; one apart and different means a run. -/
theorem sortI_perm (xs : List Int) : (sortI xs).Perm xs := List.mergeSort_perm xs _
theorem sortI_le (xs : List Int) : (sortI xs).Pairwise (· ≤ ·) := by
  have := List.pairwise_mergeSort (le := fun x y : Int => decide (x ≤ y)) (by intro a b c; simp; omega) (by intro a b; simp; omega) xs
  unfold sortI
  exact this.imp (by intro a b h; simpa using h)
theorem sortI_el {xs : List Int} {i j : Nat} (hij : i < j) (hj : j < xs.length) : el (sortI xs) i ≤ el (sortI xs) j := by
  have h := List.pairwise_iff_getElem.1 (sortI_le xs) i j (by rw [sortI_length]; omega) (by rw [sortI_length]; omega) hij
  have e1 := el_get (xs := sortI xs) (k := i) (by rw [sortI_length]; omega)
  have e2 := el_get (xs := sortI xs) (k := j) (by rw [sortI_length]; omega)
  rw [List.getElem?_eq_getElem (by rw [sortI_length]; omega)] at e1 e2
  rw [Option.some.inj e1, Option.some.inj e2] at h
  exact h
theorem el_inj_of_nodup {xs : List Int} (h : xs.Nodup) {i j : Nat} (hi : i < xs.length) (hj : j < xs.length) (e : el xs i = el xs j) : i = j := by
  have h' := List.pairwise_iff_getElem.1 h
  have e1 := el_get hi
  have e2 := el_get hj
  rw [List.getElem?_eq_getElem hi] at e1
  rw [List.getElem?_eq_getElem hj] at e2
  have e3 : xs[i] = xs[j] := by rw [Option.some.inj e1, Option.some.inj e2, e]
  rcases Nat.lt_trichotomy i j with q | q | q
  · exact absurd e3 (h' i j hi hj q)
  · exact q
  · exact absurd e3.symm (h' j i hj hi q)
theorem nodup_of_el {xs : List Int} (h : ∀ i j, i < j → j < xs.length → el xs i ≠ el xs j) : xs.Nodup := by
  apply List.pairwise_iff_getElem.2
  intro i j hi hj hij
  have e1 := el_get hi
  have e2 := el_get hj
  rw [List.getElem?_eq_getElem hi] at e1
  rw [List.getElem?_eq_getElem hj] at e2
  rw [Option.some.inj e1, Option.some.inj e2]
  exact h i j hij hj
theorem setN_iff {xs : List Int} : ∀ k, k ≤ xs.length → (setN xs k = true ↔ ∀ i, i + 1 < k → el xs i < el xs (i + 1)) := by
  intro k
  induction k with
  | zero => intro _; simp [setN]
  | succ k ih =>
    intro hk
    simp only [setN, Bool.and_eq_true, Bool.or_eq_true, decide_eq_true_eq]
    rw [ih (by omega)]
    constructor
    · rintro ⟨h1, h2⟩ i hi
      by_cases e : i + 1 = k
      · rcases h2 with h2 | h2
        · omega
        · rw [show k - 1 = i by omega] at h2; rw [e]; exact h2
      · exact h1 i (by omega)
    · intro h
      refine ⟨fun i hi => h i (by omega), ?_⟩
      by_cases e : k = 0
      · exact .inl e
      · right; have := h (k - 1) (by omega); rwa [show k - 1 + 1 = k by omega] at this
theorem setN_sort (xs : List Int) : setN (sortI xs) xs.length = true ↔ xs.Nodup := by
  rw [setN_iff _ (by rw [sortI_length]; exact Nat.le_refl _), ← (sortI_perm xs).nodup_iff]
  constructor
  · intro h
    have hlt : ∀ d i, i + d + 1 < xs.length → el (sortI xs) i < el (sortI xs) (i + d + 1) := by
      intro d
      induction d with
      | zero => intro i hi; exact h i (by omega)
      | succ d ih =>
        intro i hi
        have h1 := ih i (by omega)
        have h2 := h (i + d + 1) (by omega)
        rw [show i + (d + 1) + 1 = i + d + 1 + 1 by omega]; omega
    refine nodup_of_el fun i j hij hj => ?_
    rw [sortI_length] at hj
    have := hlt (j - i - 1) i (by omega)
    rw [show i + (j - i - 1) + 1 = j by omega] at this; omega
  · intro hn i hi
    have h1 := sortI_el (xs := xs) (i := i) (j := i + 1) (by omega) (by omega)
    have h2 : el (sortI xs) i ≠ el (sortI xs) (i + 1) := fun e => by
      have := el_inj_of_nodup hn (by rw [sortI_length]; omega) (by rw [sortI_length]; omega) e; omega
    omega
theorem run_sort {xs : List Int} (h1 : 1 ≤ xs.length) (hn : xs.Nodup) : runB (sortI xs) = endB xs.length xs := by
  have hmx := maxOf_mem h1
  have hmn := minOf_mem h1
  have hmem : ∀ k, k < xs.length → el (sortI xs) k ∈ xs := fun k hk => (sortI_perm xs).mem_iff.1 (el_mem (by rw [sortI_length]; exact hk))
  have hex : ∀ x ∈ xs, ∃ k, k < xs.length ∧ el (sortI xs) k = x := fun x hx => by
    obtain ⟨k, hk, e⟩ := List.getElem_of_mem ((sortI_perm xs).mem_iff.2 hx)
    have e1 := el_get hk
    rw [List.getElem?_eq_getElem hk] at e1
    exact ⟨k, by rw [sortI_length] at hk; exact hk, by rw [← Option.some.inj e1, e]⟩
  have hlast : el (sortI xs) (xs.length - 1) = Lib.maxOf xs := by
    obtain ⟨k, hk, e⟩ := hex _ hmx.1
    have h2 := hmx.2 _ (hmem (xs.length - 1) (by omega))
    by_cases q : k = xs.length - 1
    · rw [← e, q]
    · have := sortI_el (xs := xs) (i := k) (j := xs.length - 1) (by omega) (by omega); omega
  have hfirst : el (sortI xs) 0 = Lib.minOf xs := by
    obtain ⟨k, hk, e⟩ := hex _ hmn.1
    have h2 := hmn.2 _ (hmem 0 (by omega))
    by_cases q : k = 0
    · rw [← e, q]
    · have := sortI_el (xs := xs) (i := 0) (j := k) (by omega) (by omega); omega
  have hs := (setN_iff xs.length (by rw [sortI_length]; exact Nat.le_refl _)).1 ((setN_sort xs).2 hn)
  rw [Bool.eq_iff_iff, runB_iff, sortI_length]
  unfold endB
  rw [beq_iff_eq, ← hlast, ← hfirst]
  constructor
  · intro h
    have := h (xs.length - 1) (by omega); omega
  · intro h
    have hge : ∀ k, k < xs.length → el (sortI xs) 0 + k ≤ el (sortI xs) k := by
      intro k
      induction k with
      | zero => intro _; omega
      | succ k ih => intro hk; have := ih (by omega); have := hs k (by omega); omega
    have hle : ∀ d, d < xs.length → el (sortI xs) (xs.length - 1 - d) ≤ el (sortI xs) (xs.length - 1) - d := by
      intro d
      induction d with
      | zero => intro _; simp
      | succ d ih =>
        intro hd
        have h1 := ih (by omega)
        have h2 := hs (xs.length - 1 - (d + 1)) (by omega)
        rw [show xs.length - 1 - (d + 1) + 1 = xs.length - 1 - d by omega] at h2; omega
    intro k hk
    have h1 := hge k hk
    have h2 := hle (xs.length - 1 - k) (by omega)
    rw [show xs.length - 1 - (xs.length - 1 - k) = k by omega] at h2
    omega
theorem head_nodup {cs : List SmV} {g : List Int} (h : headB cs g = true) : g.Nodup := nodup_of_el fun i j hij hj e => by
  have := allN_at h hj
  unfold hkB at this
  simp only [Bool.and_eq_true, Bool.not_eq_true'] at this
  have h2 := this.2.1
  rw [← Bool.not_eq_true, hasB_iff] at h2
  apply h2
  rw [← e, ← el_takeN (xs := g) hij]
  exact el_mem (by rw [List.length_take]; omega)
theorem cls_nodup {cs : List SmV} {g : List Int} (h : ∀ i j, i < j → j < g.length → folB (stAt cs g i) (stAt cs g j) = false) : (cls SmV.d cs g).Nodup := nodup_of_el fun i j hij hj => by
  rw [cls_length] at hj
  rw [cls_el (by omega), cls_el hj]
  exact folB_d (h i j hij hj)
theorem grp_eq {la : Int} {cs : List SmV} {g : List Int} (hla : 2 ≤ la) : groupB la cs g = grp2B la cs g := by
  unfold groupB grp2B
  by_cases hl : ((g.length : Int) == la) = true
  · rw [hl, Bool.true_and, Bool.true_and]
    have hle : (g.length : Int) = la := by simpa using hl
    rw [Bool.eq_iff_iff]
    simp only [Bool.and_eq_true]
    have hclen := cls_length SmV.d cs g
    have hend : ∀ hn : (cls SmV.d cs g).Nodup, runB (sortI (cls SmV.d cs g)) = endB la (cls SmV.d cs g) := fun hn => by
      rw [run_sort (by rw [hclen]; omega) hn, hclen, hle]
    constructor
    · rintro ⟨h1, h2, h3, h4, h5, h6⟩
      have hnd := (setN_sort g).1 h6
      have hin := grpIn_at h1
      have hpair : ∀ i j, i < j → j < g.length → folB (stAt cs g i) (stAt cs g j) = false := fun i j hij hj => by
        have hne : el g i ≠ el g j := fun e => by have := el_inj_of_nodup hnd (by omega) hj e; omega
        rcases (show el g i < el g j ∨ el g j < el g i by omega) with q | q
        · have := allN_at h2 (show i < g.length by omega)
          simp only [Bool.and_eq_true] at this
          have := allN_at this.1 hj
          simpa [q] using this
        · have := allN_at h2 hj
          simp only [Bool.and_eq_true] at this
          have := allN_at this.1 (show i < g.length by omega)
          rw [folB_comm]
          simpa [q] using this
      refine ⟨allN_true fun k hk => ?_, h3, h4, by rw [← hend (cls_nodup hpair)]; exact h5⟩
      unfold hkB
      have hik := hin k hk
      have hop := allN_at h2 hk
      simp only [Bool.and_eq_true] at hop
      rw [inB_iff.2 ⟨hik.1, by omega⟩, show ((stAt cs g k).o == (stAt cs g 0).o) = true from hop.2, allN_true fun j hj => by rw [hpair j k hj hk]; rfl, Bool.true_and, Bool.true_and, Bool.and_true, Bool.not_eq_true', ← Bool.not_eq_true, hasB_iff]
      intro hm
      obtain ⟨j, hj, e⟩ := List.getElem_of_mem hm
      have hj' : j < k := by rw [List.length_take] at hj; omega
      have e1 := el_get hj
      rw [List.getElem?_eq_getElem hj] at e1
      have e2 : el g j = el g k := by rw [← el_takeN (xs := g) hj', ← Option.some.inj e1, e]
      have := el_inj_of_nodup hnd (by omega) hk e2; omega
    · rintro ⟨h1, h2, h3, h4⟩
      have hnd := head_nodup h1
      have hin := head_in h1
      have hpair : ∀ i j, i < j → j < g.length → folB (stAt cs g i) (stAt cs g j) = false := fun i j hij hj => by
        have := allN_at h1 hj
        unfold hkB at this
        simp only [Bool.and_eq_true] at this
        have := allN_at this.2.2.2 hij
        simpa using this
      refine ⟨?_, allN_true fun i hi => ?_, h2, h3, by rw [hend (cls_nodup hpair)]; exact h4, (setN_sort g).2 hnd⟩
      · unfold grpIn
        rw [List.all_eq_true]
        intro x hx
        obtain ⟨k, hk, e⟩ := List.getElem_of_mem hx
        have e1 := el_get hk
        rw [List.getElem?_eq_getElem hk] at e1
        rw [← e, Option.some.inj e1]
        have := hin k hk
        exact inB_iff.2 ⟨this.1, by omega⟩
      · have hop := allN_at h1 hi
        unfold hkB at hop
        simp only [Bool.and_eq_true] at hop
        rw [show opB cs g i = true from hop.2.2.1, Bool.and_true]
        refine allN_true fun k hk => ?_
        by_cases q : el g i < el g k
        · have hne : i ≠ k := fun e => by subst e; omega
          rcases (show i < k ∨ k < i by omega) with r | r
          · rw [hpair i k r hk]; simp
          · rw [folB_comm, hpair k i r hi]; simp
        · simp [q]
  · rw [show ((g.length : Int) == la) = false by simpa using hl]; rfl
theorem s_l07Group (w : World) (B : Nat) (la bi : Int) (A A' : Option Addr) (c c' : Nat) (cs : List SmV) (g : List Int) (hla : la ≤ 4) (hm : machB la bi = true) (hcs : codeB cs = true) (hl : g.length ≤ 1048576) (hcap : g.length ≤ c') (h0 : w.cell? ⟨B, 0, none⟩ = some (.int .i64 la)) (hR : RdC w A cs) (hG : RdI w A' g) :
    Calls Try.prog 33 #[.pointer (some ⟨B, 0, none⟩), .slice A cs.length c, .slice A' g.length c'] w fun e w' => e = .returned (.bool (groupB la cs g)) ∧ Below w.heap.size w w' := by
  have h24 : la = 2 ∨ la = 4 := by
    simp only [machB, Bool.and_eq_true] at hm
    have := lanesB_or hm.1; omega
  rw [grp_eq (by omega)]
  by_cases h : ((g.length : Int) == la) = true
  · obtain rfl : (g.length : Int) = la := by simpa using h
    exact s_GRc w B A A' c c' cs g hcs (by omega) (by omega) hcap h0 hR hG
  · have h' : ((g.length : Int) == la) = false := by simpa using h
    rw [show grp2B la cs g = false by unfold grp2B; rw [h']; rfl]
    exact s_GRa w B la A A' cs.length c g.length c' hl h0 (by simpa using h)
theorem sL_IsGroup (w : World) (la bi : Int) (A : Option Addr) (c : Nat) (cs : List SmV) (A' : Option Addr) (c' : Nat) (g : List Int) (hl : cs.length ≤ 1048576) (hR : RdC w A cs) (hl' : g.length ≤ 1048576) (hcap : g.length ≤ c') (hG : RdI w A' g) :
    Calls Try.prog 13 #[mv la bi, .slice A cs.length c, .slice A' g.length c'] w fun e w' => e = .returned (.bool (m_IsGroup la bi cs g)) ∧ Below w.heap.size w w' := by
  unfold m_IsGroup
  have HB := hid (ballocw w (.cells #[.int .i64 la, .int .i64 bi] 39))
  have hrow := heap_alloc_new w (.cells #[.int .i64 la, .int .i64 bi] 39)
  have h0 : (w.alloc (.cells #[.int .i64 la, .int .i64 bi] 39)).cell? ⟨w.heap.size, 0, none⟩ = some (.int .i64 la) := cell_of_row _ _ _ _ _ _ hrow
  have h1 : (w.alloc (.cells #[.int .i64 la, .int .i64 bi] 39)).cell? ⟨w.heap.size, 1, none⟩ = some (.int .i64 bi) := cell_of_row _ _ _ _ _ _ hrow
  have C0 := hid (s_l07Both (w.alloc (.cells #[.int .i64 la, .int .i64 bi] 39)) w.heap.size la bi A c cs hl (hR.below HB.out) h0 h1)
  cases hp : packB la bi cs with
  | false =>
    rw [hp] at C0
    clear hp hR hG h0 h1 hrow
    go_enter Try.func13, Try.ntmps13
    go_wp2_with fail
    refine C0.out.mono ?_
    rintro e w1 ⟨rfl, rfl⟩
    go_wp2_with fail
    go_ret
    exact ⟨rfl, HB.out⟩
  | true =>
    have hp' := hp
    simp only [packB, Bool.and_eq_true, decide_eq_true_eq] at hp'
    have C1 := hid (s_l07Group (w.alloc (.cells #[.int .i64 la, .int .i64 bi] 39)) w.heap.size la bi A A' c c' cs g hp'.2.1 hp'.1 hp'.2.2 hl' hcap h0 (hR.below HB.out) (RdI.below hG HB.out))
    rw [hp] at C0
    clear hp hp' hR hG h0 h1 hrow
    generalize groupB la cs g = r at *
    go_enter Try.func13, Try.ntmps13
    go_wp2_with fail
    refine C0.out.mono ?_
    rintro e w1 ⟨rfl, rfl⟩
    go_wp2_with fail
    refine C1.out.mono ?_
    rintro e w2 ⟨rfl, hb2⟩
    go_wp2_with fail
    go_ret
    exact ⟨rfl, bthen HB.out hb2⟩
theorem iL_IsGroup (w : World) (la bi : Int) (A : Option Addr) (c : Nat) (cs : List SmV) (A' : Option Addr) (c' : Nat) (g : List Int) (hl : cs.length ≤ 1048576) (hR : RdC w A cs) (hl' : g.length ≤ 1048576) (hcap : g.length ≤ c') (hG : RdI w A' g) :
    Calls Try.prog 17 #[mv la bi, .slice A cs.length c, .slice A' g.length c'] w fun e w' => e = .returned (.bool (m_IsGroup la bi cs g)) ∧ Below w.heap.size w w' := i_IsGroup w la bi A A' c c' cs g hl hl' hR hG
end Go.Proofs.Ytmpdaafkphpnoaa
