import Derived.Test.YtmpdaafkphpnoaaGreatSrg
set_option linter.unusedVariables false
set_option linter.unusedSimpArgs false
namespace Go.Proofs.YtmpdaafkphpnoaaGreat
open Go.RowKit Go.Sort Go.Lib

theorem finRange_map (n : Nat) (f : Nat → Value) : (List.finRange n).map (fun i => f i.val) = (List.range n).map f := by
  apply List.ext_getElem?
  intro k
  by_cases hk : k < n
  · simp [hk]
  · rw [List.getElem?_eq_none (by simp; omega), List.getElem?_eq_none (by simp; omega)]
set_option maxRecDepth 100000 in
theorem g_SortU (w : World) (lo hi : Nat) (v : Value) (R : List (List Int)) (mn : Nat → Nat) (hN : 0 < R.length) (hN2 : R.length ≤ 1048576)
    (hm : ∀ k, k < R.length → Lib.minOf (rw_ R k) = mn k ∧ mn k < 16 ∧ 1 ≤ (rw_ R k).length ∧ (rw_ R k).length ≤ 1048576) (hinj : ∀ i j, i < R.length → j < R.length → mn i = mn j → i = j) (h : OR w lo hi v R) :
    Calls Tryz.prog 135 #[v, .func (.func 136) #[] #[]] w fun e w' => e = .returned (.tuple #[]) ∧ ∃ f L, L.Perm (List.range R.length) ∧ L.Pairwise (fun x y => Lib.minOf (rw_ R x) < Lib.minOf (rw_ R y)) ∧ LS w' lo hi f v L ∧ TB w' lo hi R f ∧ Apt R f v ∧ w.grownBy w' v.ownBlock := by
  obtain ⟨f, hL, hT, hA⟩ := h.parts
  obtain ⟨hrow, hlt⟩ := hL
  rcases hrow.2 with ⟨_, hz⟩ | ⟨g, cap, cur, rfl, hbase, hgb, r1, r2, r3, r4⟩
  · rw [List.length_range] at hz; omega
  have hgw : g < w.heap.size := (Array.getElem?_eq_some_iff.1 hgb).1
  letI : Inhabited (Fin R.length) := ⟨⟨0, hN⟩⟩
  let enc : Fin R.length → Value := fun i => f i.val
  let cf : Fin R.length → Fin R.length → Int := fun x y => (mn x.val : Int) - mn y.val
  have henc : ∀ i : Fin R.length, enc i = f i.val := fun i => rfl
  have hone : OneCell enc := fun i => by
    obtain ⟨A, c, e, _, _⟩ := hT.shp i.2
    rw [henc, e]; rfl
  have hlt0 : ∀ x y, ltOf cf x y = decide (mn x.val < mn y.val) := fun x y => by
    show decide ((mn x.val : Int) - mn y.val < 0) = _
    rw [decide_eq_decide]; omega
  have hO : SWO (ltOf cf) := ⟨fun x => by rw [hlt0]; simp, fun x y z h1 h2 => by rw [hlt0] at *; simp at *; omega, fun x y z h1 h2 => by rw [hlt0] at *; simp at *; omega⟩
  have hTt : ∀ x y, ltOf cf x y = false → ltOf cf y x = false → x = y := fun x y h1 h2 => by
    rw [hlt0] at h1 h2
    simp at h1 h2
    exact Fin.ext (hinj _ _ x.2 y.2 (by omega))
  have hmap : (List.finRange R.length).map enc = (List.range R.length).map f := finRange_map R.length f
  have hlen : (List.finRange R.length).length = R.length := by simp
  have hH : Holds enc w g 0 (List.finRange R.length).toArray := holds_of_blockG enc hgb (by rw [hmap, hlen]; rw [List.length_range, Nat.mul_one] at r4; exact r4)
  have hsz : (List.finRange R.length).toArray.size = R.length := by simp
  have hcmp : CmpLays1 Tryz.prog 136 #[] enc cf g 0 (List.finRange R.length).toArray.size w := by
    intro m os dk _ x y
    have hgr : w.grownBy (sortWorld enc w g 0 m dk os) (some g) := grownBy_sortedG enc dk
    have hTW : TB (sortWorld enc w g 0 m dk os) lo hi R f := hT.keep fun k a hk ha => hgr.block a (hT.lt hk ha).2.2 (fun q => hA k g a hk rfl ha (Option.some.inj q).symm)
    generalize sortWorld enc w g 0 m dk os = W at *
    obtain ⟨A, c, e1, _, hr1⟩ := hTW.shp x.2
    obtain ⟨A', c', e2, _, hr2⟩ := hTW.shp y.2
    obtain ⟨x1, x2, x3, x4⟩ := hm _ x.2
    obtain ⟨y1, y2, y3, y4⟩ := hm _ y.2
    have C := i_units2 W A A' c c' _ _ (mn x.val) (mn y.val) x4 y4 x3 y3 x1 y1 x2 y2 hr1 hr2
    rw [henc, henc, e1, e2]
    refine C.mono fun e w' hq => ?_
    obtain ⟨he, rfl⟩ := hq
    exact ⟨he, 0, #[], by rw [grow_empty]; rfl⟩
  have C := Tryz.slices_SortFunc_total enc hone cf hO 136 #[] g 0 cap (List.finRange R.length).toArray w (enters_of Tryz.func136 (by kernel_rfl) rfl) hcmp hH hgw (by rw [hsz]; omega) hTt
  rw [hsz] at C
  rw [List.length_range]
  refine C.mono fun e w' hq => ?_
  obtain ⟨he, n, os, hw⟩ := hq
  have hperm := List.mergeSort_perm (List.finRange R.length).toArray.toList (fun x y => !(ltOf cf) y x)
  have hsorted : ((List.finRange R.length).toArray.toList.mergeSort fun x y => !(ltOf cf) y x).Pairwise (fun x y => mn x.val ≤ mn y.val) := by
    refine (List.pairwise_mergeSort (le := fun x y => !(ltOf cf) y x) (fun a b c h1 h2 => ?_) (fun a b => ?_) _).imp (fun {a b} hab => ?_)
    · rw [hlt0] at *; simp at *; omega
    · rw [hlt0, hlt0]; simp; omega
    · rw [hlt0] at hab; simpa using hab
  generalize (List.finRange R.length).toArray.toList.mergeSort (fun x y => !(ltOf cf) y x) = S at *
  have hSl : S.length = R.length := by rw [hperm.length_eq]; simp
  have hgr : w.grownBy w' (some g) := by rw [hw]; exact grownBy_sortedG enc S.toArray
  have hSp : (S.map fun i => i.val).Perm (List.range R.length) := by
    refine (hperm.map _).trans ?_
    have e : ((List.finRange R.length).toArray.toList.map fun i => i.val) = List.range R.length := by
      show (List.finRange R.length).map (fun i => i.val) = _
      apply List.ext_getElem?
      intro k
      by_cases hk : k < R.length
      · simp [hk]
      · rw [List.getElem?_eq_none (by simp; omega), List.getElem?_eq_none (by simp; omega)]
    rw [e]
  refine ⟨he, f, S.map fun i => i.val, hSp, ?_, ?_, ?_, hA, hgr⟩
  · have hnd : (S.map fun i => i.val).Nodup := hSp.nodup_iff.2 List.nodup_range
    have hle : (S.map fun i => i.val).Pairwise (fun x y => mn x ≤ mn y) := List.pairwise_map.2 hsorted
    refine (List.Pairwise.and hle hnd).imp_of_mem fun {a b} ha hb hab => ?_
    have ha' := List.mem_range.1 (hSp.mem_iff.1 ha)
    have hb' := List.mem_range.1 (hSp.mem_iff.1 hb)
    rw [(hm a ha').1, (hm b hb').1]
    have : mn a ≠ mn b := fun q => hab.2 (hinj a b ha' hb' q)
    have := hab.1
    omega
  · have ho : w'.ownsRow lo 28 1 (.slice (some ⟨g, 0, none⟩) S.length cap) S.length (S.map enc) := by
      rw [hw]
      exact ownsRow_sortedG enc hbase hgb (by rw [hSl]; rw [List.length_range] at r1; exact r1) r2 r3
    unfold LS
    rw [List.length_map, hSl, List.map_map]
    rw [hSl] at ho
    exact ⟨ho, fun k hk => hlt k hk⟩
  · exact hT.keep fun k a hk ha => hgr.block a (hT.lt hk ha).2.2 (fun q => hA k g a hk rfl ha (Option.some.inj q).symm)
theorem g_DeleteU (w : World) (lo hi : Nat) (v : Value) (R : List (List Int)) (f : Nat → Value) (L : List Nat) (k : Nat) (hk : k < L.length) (hL2 : L.length ≤ 1048576) (hLR : ∀ x ∈ L, x < R.length) (hL : LS w lo hi f v L) (hT : TB w lo hi R f) :
    Calls Tryz.prog 140 #[v, .int .i64 k, .int .i64 (k + 1 : Nat)] w fun e w' => ∃ v', e = .returned v' ∧ LS w' lo hi f v' (L.eraseIdx k) ∧ v'.ownBlock = v.ownBlock ∧ w.grownBy w' v.ownBlock := by
  obtain ⟨hrow, hlt⟩ := hL
  rcases hrow.2 with ⟨_, hz⟩ | ⟨g, cap, cur, rfl, hbase, hgb, r1, r2, r3, r4⟩
  · omega
  let enc : Nat → Value := fun i => if i < R.length then f i else .slice none 0 0
  have hone : OneCell enc := fun i => by
    show (if i < R.length then f i else Value.slice none 0 0).oneCell' = true
    by_cases hi' : i < R.length
    · obtain ⟨A, c, e, _, _⟩ := hT.shp hi'
      rw [if_pos hi', e]; rfl
    · rw [if_neg hi']; rfl
  have hzr : enc R.length = .slice none 0 0 := if_neg (Nat.lt_irrefl _)
  have hLe : ∀ M : List Nat, (∀ x ∈ M, x < R.length) → M.map enc = M.map f := fun M hM => List.map_congr_left fun x hx => if_pos (hM x hx)
  have hH : Holds enc w g 0 L.toArray := holds_of_blockG enc hgb (by rw [hLe L hLR]; rw [Nat.mul_one] at r4; exact r4)
  have hinfo : (Tryz.prog.info? 28).map (fun i => (i.zero, i.size, i.bytes)) = some (some (.slice none 0 0), 1, 24) := by kernel_rfl
  obtain ⟨i0, hi0, hz⟩ := Option.map_eq_some_iff.1 hinfo
  simp only [Prod.mk.injEq] at hz
  have C := AnyE.slices_Delete laysDlt enc hone R.length (fun w => by rw [hzr]; exact Tryz.zeroValue28 w) i0 hi0 hz.2.1 g 0 cap k (k + 1) L.toArray w hH (by simpa using r1) (by simpa [maxLen] using r2) (by omega) (by simp; omega)
  have hsz : L.toArray.size = L.length := by simp
  rw [hsz] at C
  refine C.mono fun e w' hq => ?_
  obtain ⟨he, q, hw⟩ := hq
  have e1 : k + 1 - k = 1 := by omega
  rw [e1] at he hw
  have hts : (L.take k ++ L.drop (k + 1) ++ List.replicate 1 R.length).length = L.length := by simp; omega
  have hgr : w.grownBy w' (some g) := by
    have := grownBy_sortedG enc (w := w) (g := g) (n := q) (os := #[]) (L.take k ++ L.drop (k + 1) ++ List.replicate 1 R.length).toArray
    rw [grow_empty] at this
    rw [hw]; exact this
  refine ⟨_, he, ?_, rfl, hgr⟩
  have ho := ownsRow_sortedG enc (n := q) (os := #[]) (ts := L.take k ++ L.drop (k + 1) ++ List.replicate 1 R.length) hbase hgb (by rw [hts]; exact r1) r2 r3
  rw [grow_empty, hts] at ho
  obtain ⟨m, hm⟩ : ∃ m, L.length = m + 1 := ⟨L.length - 1, by omega⟩
  rw [hm] at ho
  have ho2 := ownsRow_init ho
  have hem : (L.eraseIdx k).length = m := by rw [List.length_eraseIdx, if_pos hk]; omega
  have htk : ((L.take k ++ L.drop (k + 1) ++ List.replicate 1 R.length).map enc).take m = (L.eraseIdx k).map f := by
    rw [← List.map_take, ← List.eraseIdx_eq_take_drop_succ, List.take_append_of_le_length (by omega), List.take_of_length_le (by omega)]
    exact hLe _ fun x hx => hLR x (List.mem_of_mem_eraseIdx hx)
  rw [htk] at ho2
  unfold LS
  rw [hem, hm, Nat.add_sub_cancel]
  refine ⟨?_, fun a ha => hlt a ha⟩
  rw [hw]; exact ho2
end Go.Proofs.YtmpdaafkphpnoaaGreat
