import Derived.Test.YtnnioicjmlfllaaGreatDoorShuf5
set_option linter.unusedVariables false
set_option linter.unusedSimpArgs false
namespace Go.Proofs.YtnnioicjmlfllaaGreatDoor
open Go.RowKit

section
variable {P : Program} (w : World)
/-- append(s, make([]T, n)...) at nil. -/
theorem run_append_zeros (t u ty e : TypeId) (i : TypeInfo) (z : Value) (ht : P.underlying t = some (.slice e)) (hu : P.underlying u = some (.int .i64)) (hi : P.info? e = some i) (hz : i.zero = some z) (hs : i.size = 1)
    (n : Nat) (h0 : 0 < n) (h63 : (n : Int) ≤ 9223372036854775807) (h48 : n * i.bytes ≤ 281474976710656) :
    (Builtin.append_ #[t, u] ty #[.slice none 0 0, .int .i64 (n : Nat)]).run P w =
      .ok (.slice (some ⟨w.heap.size, 0, none⟩) n (grownCap w n 0 e)) (w.drew.alloc (.cells (Builtin.zeroCells z.cells n ++ Builtin.zeroCells z.cells (grownCap w n 0 e - n)) e)) := by
  have hn : n ≠ 0 := by omega
  have h63' : ¬ (9223372036854775807 < (n : Int)) := by omega
  have h48' : ¬ (281474976710656 < Builtin.nextslicecap n 0 * i.bytes) := by rw [nextslicecap_zero h0]; omega
  have hw : IntKind.i64.wrap (n : Int) = n := IntWalk.i64_in _ ⟨by omega, by omega⟩
  have hl : ¬ ((n : Int) < 0) := by omega
  have h48'' : ¬ (281474976710656 < (n : Int) * (i.bytes : Int)) := by
    have : ((n * i.bytes : Nat) : Int) ≤ 281474976710656 := by omega
    rw [Int.natCast_mul] at this; omega
  simp [Builtin.append_, run_underlying ht, run_underlying hu, sizeOf, typeInfo, zeroValue, hi, hz, hs, Builtin.lenOf, hn, hw, hl, h63', h48', h48'', Question.forced, run_firstCells_none, newRow, grownCap, asInt, asIntOf]
end
/-- append(v, s...) onto a row of the call's own, s read. -/
theorem wp_appendS {P : Program} {ops : Array Oper} {rest : List Oper} {o : Oper} {a : Act} {Q : Exit → Act → World → Prop} {W : World} (lo : Nat) (hgd : o.guard = none) (s x : Operand) (t e : TypeId) (z : Value) (bytes : Nat)
    (ho : o.op = .call { callee := .builtin .append, args := #[s, x], argTypes := #[t, t] })
    (ht : P.underlying t = some (.slice e)) (hinfo : (P.info? e).map (fun i => (i.zero, i.size, i.bytes)) = some (some z, 1, bytes)) (hz : z.cells.size = 1)
    (v : Value) (n : Nat) (cs : List Value) (A : Option Addr) (c : Nat) (ys : List Int) (hs : a.eval s = v) (hx : a.eval x = .slice A ys.length c)
    (HO : Own W lo W.heap.size e 1 v n cs) (hR : RdI W A ys) (hlo : lo ≤ W.heap.size) (hl : n + ys.length ≤ 9223372036854775807) (hby : (n + ys.length) * bytes ≤ 140737488355328)
    (h : ∀ v1 w1, Own w1 lo w1.heap.size e 1 v1 (n + ys.length) (cs ++ ints ys) → Below lo W w1 → wpList P ops Q rest (a.put o.dst v1) w1) :
    wpList P ops Q (o :: rest) a W := by
  obtain ⟨i0, hi, hzz⟩ := Option.map_eq_some_iff.1 hinfo
  simp only [Prod.mk.injEq] at hzz
  obtain ⟨hz0, hz1, hz2⟩ := hzz
  cases A with
  | some ad =>
    have hnews : ∀ j u, (ints ys)[j]? = some u → W.cell? (ad.add j) = some u := by
      intro j u hu
      have hj : j < ys.length := by have := (List.getElem?_eq_some_iff.1 hu).1; simpa [ints] using this
      obtain ⟨b, off, e', hc⟩ := hR.get hj
      cases e'
      rw [ints_get hj] at hu
      cases hu
      rw [← hc]; congr 1
      unfold Addr.add; split
      · rename_i h; subst h; rfl
      · rfl
    refine wpList_append_own W hgd s x t ho lo e i0 z 1 bytes ht hi hz0 hz1 hz2 hz (by omega) v n cs hs HO.1 ad ys.length c (ints ys) hx (by simp [ints]) hnews (by intro u hu; simp [ints] at hu; obtain ⟨q, _, rfl⟩ := hu; rfl) (by simp only [maxLen]; omega) hby hlo ?_
    intro v1 w1 hown hg _
    refine h v1 w1 (Own.of hown) ((Below.refl lo W).grown hg hlo ?_)
    intro k hk
    exact (HO.1.lt k hk).1
  | none =>
    have hy : ys = [] := by
      cases ys with
      | nil => rfl
      | cons y ys => obtain ⟨b, off, e', _⟩ := hR.get (k := 0) (by simp); cases e'
    subst hy
    have hrun : (Builtin.append_ #[t, t] o.type #[v, .slice none 0 c]).run P W = .ok v W := by
      rcases HO.1.2 with ⟨rfl, rfl⟩ | ⟨g, cap, cur, rfl, _, _, hnc, _⟩
      · simp [Builtin.append_, run_underlying ht, sizeOf, typeInfo, hi, Builtin.lenOf, Builtin.firstCells]
      · simp [Builtin.append_, run_underlying ht, sizeOf, typeInfo, hi, Builtin.lenOf, Builtin.firstCells, hnc, storeCells]
    refine wpList_plain hgd fun K hK => ?_
    unfold Oper.wp execOp
    simp only [ho, resolve, invoke, builtin, Sem.run_bind, Sem.run_pure, Result.andThen_ok, List.map_toArray, List.map_cons, List.map_nil, hs, hx]
    simp only [List.length_nil] at hrun ⊢
    rw [hrun]
    exact hK _ _ (h v W (by simpa [ints] using HO) (Below.refl _ _))

theorem s_l00Own (w : World) (A : Option Addr) (c : Nat) (xs : List Int) (hl : xs.length ≤ 1048576) (hR : RdI w A xs) :
    Calls Tryz.prog 100 #[.slice A xs.length c] w (RetI w 2 xs) := by
  have hown := Own.of (World.ownsRow_lit (base := w.heap.size) (e := 2) (size := 1) w #[] 0 (Nat.le_refl _) (by simp [maxLen]) rfl)
  have hb1 := ballocw w (.cells #[] 2)
  have hr1 := hR.below hb1
  have HO := hid hown
  have HR := hid hr1
  clear hown hr1 hR
  go_enter Tryz.func100, Tryz.ntmps100
  go_wp2_with (at_builtin; refine wp_appendS w.heap.size rfl _ _ 27 2 (.int .i64 0) 8 rfl Tryz.underlying27 infoInt rfl (.slice (some ⟨w.heap.size, 0, none⟩) 0 0) 0 _ A c xs rfl rfl HO.out HR.out hb1.size (by omega) (by omega) ?_; intro v1 w1 hown1 hbel1)
  go_ret
  refine ⟨_, rfl, ?_, (hb1.mono (Nat.le_refl _)).trans hbel1⟩
  simpa [OwnI] using hown1
theorem wp_appendZ {P : Program} {ops : Array Oper} {rest : List Oper} {o : Oper} {a : Act} {Q : Exit → Act → World → Prop} {W : World} (hgd : o.guard = none) (s x : Operand) (t u e : TypeId)
    (ho : o.op = .call { callee := .builtin .append, args := #[s, x], argTypes := #[t, u] })
    (ht : P.underlying t = some (.slice e)) (hu : P.underlying u = some (.int .i64)) (hinfo : (P.info? e).map (fun i => (i.zero, i.size, i.bytes)) = some (some (.int .i64 0), 1, 8))
    (n : Nat) (hs : a.eval s = .slice none 0 0) (hx : a.eval x = .int .i64 (n : Nat)) (h0 : 0 < n) (hn : n ≤ 1048576)
    (h : ∀ cap w1, n ≤ cap → cap ≤ 9223372036854775807 → Own w1 W.heap.size w1.heap.size e 1 (.slice (some ⟨W.heap.size, 0, none⟩) 0 cap) 0 [] → Below W.heap.size W w1 →
      wpList P ops Q rest (a.put o.dst (.slice (some ⟨W.heap.size, 0, none⟩) n cap)) w1) :
    wpList P ops Q (o :: rest) a W := by
  obtain ⟨i0, hi, hzz⟩ := Option.map_eq_some_iff.1 hinfo
  simp only [Prod.mk.injEq] at hzz
  obtain ⟨hz0, hz1, hz2⟩ := hzz
  have hrun := run_append_zeros (P := P) W t u o.type e i0 (.int .i64 0) ht hu hi hz0 hz1 n h0 (by omega) (by rw [hz2]; omega)
  have hcap := grownCap_ge W n 0 e
  have hcm := grownCap_le_maxLen W n 0 e (by simp only [maxLen]; omega)
  have HM := World.ownsRow_made (base := W.heap.size) (e := e) (size := 1) W.drew (Builtin.zeroCells (Value.cells (.int .i64 0)) n ++ Builtin.zeroCells (Value.cells (.int .i64 0)) (grownCap W n 0 e - n)) (grownCap W n 0 e) (Nat.le_refl _) hcm
    (by rw [Array.size_append, size_zeroCells, size_zeroCells]; have : (Value.cells (.int .i64 0)).size = 1 := rfl; rw [this]; omega)
  refine wpList_plain hgd fun K hK => ?_
  unfold Oper.wp execOp
  simp only [ho, resolve, invoke, builtin, Sem.run_bind, Sem.run_pure, Result.andThen_ok, List.map_toArray, List.map_cons, List.map_nil, hs, hx]
  rw [hrun]
  exact hK _ _ (h _ _ hcap (by simpa [maxLen] using hcm) (Own.of HM) (((Below.refl W.heap.size W).drew).alloc (Nat.le_refl _) _))
theorem g_Grow (w : World) (n : Nat) (hn : n ≤ 1048576) :
    Calls Tryz.prog 192 #[.slice none 0 0, .int .i64 (n : Nat)] w fun e w' => ∃ v, e = .returned v ∧ Own w' w.heap.size w'.heap.size 2 1 v 0 [] ∧ Below w.heap.size w w' := by
  by_cases h0 : n = 0
  · subst h0
    go_enter Tryz.func192, Tryz.ntmps192
    go_wp2
    go_ret
    exact ⟨_, rfl, Own.nil _ _ _ _ _, Below.refl _ _⟩
  · have hpos : (0 : Int) < (n : Int) := by omega
    have hpos' : 0 < n := by omega
    clear h0
    go_enter Tryz.func192, Tryz.ntmps192
    go_wp2_with (at_builtin; refine wp_appendZ rfl _ _ 27 3 2 rfl Tryz.underlying27 Tryz.underlying3 infoInt n rfl rfl hpos' hn ?_; intro cap w1 hcap hcm hown hbel)
    go_ret
    exact ⟨_, rfl, hown, hbel⟩
end Go.Proofs.YtnnioicjmlfllaaGreatDoor
