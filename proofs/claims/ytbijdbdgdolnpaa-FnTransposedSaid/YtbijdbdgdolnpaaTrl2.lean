import Derived.Test.YtbijdbdgdolnpaaTrl
set_option linter.unusedVariables false
set_option linter.unusedSimpArgs false
namespace Go.Proofs.Ytbijdbdgdolnpaa
open Go.RowKit

theorem vecB_of' {b : Int} {xs : List Int} {n : Nat} (hl : xs.length = n) (hn : lanesB n = true) (hb : bitsB b = true) (h : xs.all (wordB b) = true) : vecB b xs = true := by unfold vecB; rw [hl, hn, hb, h]; rfl
def ub (xs : List Int) : List Value := xs.map fun x => .int .u8 x
theorem ub_get {xs : List Int} {k : Nat} (h : k < xs.length) : (ub xs)[k]? = some (.int .u8 (el xs k)) := by simp [ub, el_get h]
theorem wp_appendU {P : Program} {ops : Array Oper} {rest : List Oper} {o : Oper} {a : Act} {Q : Exit → Act → World → Prop} {W : World} (lo : Nat) (hgd : o.guard = none) (s x : Operand) (t e : TypeId) (z : Value) (bytes : Nat)
    (ho : o.op = .call { callee := .builtin .append, args := #[s, x], argTypes := #[t, t] })
    (ht : P.underlying t = some (.slice e)) (hinfo : (P.info? e).map (fun i => (i.zero, i.size, i.bytes)) = some (some z, 1, bytes)) (hz : z.cells.size = 1)
    (v : Value) (n : Nat) (cs : List Value) (A : Option Addr) (c : Nat) (ys : List Int) (hs : a.eval s = v) (hx : a.eval x = .slice A ys.length c)
    (HO : Own W lo W.heap.size e 1 v n cs) (hR : RdU W A ys) (hlo : lo ≤ W.heap.size) (hl : n + ys.length ≤ 9223372036854775807) (hby : (n + ys.length) * bytes ≤ 140737488355328)
    (h : ∀ v1 w1, Own w1 lo w1.heap.size e 1 v1 (n + ys.length) (cs ++ ub ys) → Below lo W w1 → wpList P ops Q rest (a.put o.dst v1) w1) :
    wpList P ops Q (o :: rest) a W := by
  obtain ⟨i0, hi, hzz⟩ := Option.map_eq_some_iff.1 hinfo
  simp only [Prod.mk.injEq] at hzz
  obtain ⟨hz0, hz1, hz2⟩ := hzz
  cases A with
  | some ad =>
    have hnews : ∀ j u, (ub ys)[j]? = some u → W.cell? (ad.add j) = some u := by
      intro j u hu
      have hj : j < ys.length := by have := (List.getElem?_eq_some_iff.1 hu).1; simpa [ub] using this
      obtain ⟨b, off, e', hc⟩ := hR.get hj
      cases e'
      rw [ub_get hj] at hu
      cases hu
      rw [← hc]; congr 1
      unfold Addr.add; split
      · rename_i h; subst h; rfl
      · rfl
    refine wpList_append_own W hgd s x t ho lo e i0 z 1 bytes ht hi hz0 hz1 hz2 hz (by omega) v n cs hs HO.1 ad ys.length c (ub ys) hx (by simp [ub]) hnews (by intro u hu; simp [ub] at hu; obtain ⟨q, _, rfl⟩ := hu; rfl) (by simp only [maxLen]; omega) hby hlo ?_
    intro v1 w1 hown hg _
    refine h v1 w1 (Own.of hown) ((Below.refl lo W).grown hg hlo ?_)
    intro k hk
    exact (HO.1.lt k hk).1
  | none =>
    have hy : ys = [] := by
      cases ys with
      | nil => rfl
      | cons y ys => obtain ⟨b, off, e', _⟩ := hR.get (k := 0) (by simp); cases e'
    subst hy
    have hrun : (Builtin.append_ #[t, t] o.type #[v, .slice none 0 c]).run P W = .ok v W := by
      rcases HO.1.2 with ⟨rfl, rfl⟩ | ⟨g, cap, cur, rfl, _, _, hnc, _⟩
      · simp [Builtin.append_, run_underlying ht, sizeOf, typeInfo, hi, Builtin.lenOf, Builtin.firstCells]
      · simp [Builtin.append_, run_underlying ht, sizeOf, typeInfo, hi, Builtin.lenOf, Builtin.firstCells, hnc, storeCells]
    refine wpList_plain hgd fun K hK => ?_
    unfold Oper.wp execOp
    simp only [ho, resolve, invoke, builtin, Sem.run_bind, Sem.run_pure, Result.andThen_ok, List.map_toArray, List.map_cons, List.map_nil, hs, hx]
    simp only [List.length_nil] at hrun ⊢
    rw [hrun]
    exact hK _ _ (h v W (by simpa [ub] using HO) (Below.refl _ _))
theorem el_cons_succ (x : Int) (ys : List Int) (k : Nat) : el (x :: ys) (k + 1) = el ys k := by unfold el; simp
theorem ownU_shape {w : World} {lo hi : Nat} {e : TypeId} {v : Value} {x : Int} {ys : List Int} (h : Own w lo hi e 1 v (1 + ys.length) ([.int .u8 x] ++ ub ys)) (hx0 : 0 ≤ x) (hx1 : x ≤ 255) (hy : ∀ k, k < ys.length → 0 ≤ el ys k ∧ el ys k ≤ 255) :
    ∃ A c, v = .slice A (x :: ys).length c ∧ RdU w A (x :: ys) := by
  obtain ⟨A, c, e1, _, _, hs⟩ := h.shape
  refine ⟨A, c, by rw [e1, List.length_cons, Nat.add_comm], fun k hk => ?_, fun k hk => ?_⟩
  · rw [List.length_cons] at hk
    rcases hs with ⟨_, h0⟩ | ⟨g, rfl, _, _, hc, _⟩
    · omega
    · refine ⟨g, 0, rfl, ?_⟩
      rw [Nat.zero_add]
      refine hc k _ ?_
      have : [Value.int .u8 x] ++ ub ys = ub (x :: ys) := by simp [ub]
      rw [this]
      exact ub_get (by rw [List.length_cons]; exact hk)
  · rw [List.length_cons] at hk
    cases k with
    | zero => exact ⟨hx0, hx1⟩
    | succ k => rw [el_cons_succ]; exact hy k (by omega)
theorem infoU8 : (Try.prog.info? 5).map (fun i => (i.zero, i.size, i.bytes)) = some (some (.int .u8 0), 1, 1) := by kernel_rfl
theorem rd_r8 (w : World) (A B : Option Addr) (c d : Nat) (xs ys : List (List Int)) (hl : rsz xs ≤ 1048576) (hl' : rsz ys ≤ 1048576) (hA : RdR w A xs) (hB : RdR w B ys) (h : xs = ys) :
    Calls Try.prog 19 #[.slice A xs.length c, .slice B ys.length d] w fun e w' => e = .returned (.bool true) ∧ ∃ m, w' = w.drewN m := by
  have := l_r8RowsQ w A B c d xs ys (big_of hl) (big_of hl') hA hB
  rw [show decide (xs = ys) = true by simpa using h] at this
  exact this
theorem l_r8Long (w : World) (A A' : Option Addr) (n c n' c' : Nat) (hn : n ≤ 9223372036854775807) (hn' : n' ≤ 9223372036854775807) :
    Calls Try.prog 14 #[.slice A n c, .slice A' n' c'] w fun e w' => e = .returned (.bool (decide (48 < n) || decide (48 < n'))) ∧ w = w' := by
  by_cases h1 : (48 : Int) < n
  · go_enter Try.func14, Try.ntmps14
    go_wp2
    go_ret
    exact ⟨ret_b (by simp; omega), rfl⟩
  · by_cases h2 : (48 : Int) < n'
    all_goals
      go_enter Try.func14, Try.ntmps14
      go_wp2
      go_ret
      exact ⟨ret_b (by rw [Bool.eq_iff_iff]; simp; omega), rfl⟩
end Go.Proofs.Ytbijdbdgdolnpaa
