import Derived.Test.YtmpdaafkphpnoaaBfs10
set_option linter.unusedVariables false
set_option linter.unusedSimpArgs false
namespace Go.Proofs.Ytmpdaafkphpnoaa
open Go.RowKit

/-! ### The state of the reference's search -/
abbrev ob (v : Value) : Nat → Prop := fun b => v.ownBlock = some b
theorem AQ.re {e : TypeId} {w : World} {lo : Nat} {kb kb' : Nat → Prop} {v : Value} {qs : List PQ} (h : AQ e w lo kb v qs) (hk : ∀ b, b < w.heap.size → kb' b → kb b) : AQ e w lo kb' v qs := by
  obtain ⟨f, h1, h2⟩ := h
  exact ⟨f, h1, fun k hkk => (h2 k hkk).re hk⟩
theorem AQ.ownK {e : TypeId} {w : World} {lo : Nat} {kb : Nat → Prop} {v : Value} {qs : List PQ} (h : AQ e w lo kb v qs) {b : Nat} (hb : v.ownBlock = some b) : lo ≤ b ∧ b < w.heap.size ∧ ∃ cur, w.heap[b]? = some (.cells cur e (0, 0)) := by
  obtain ⟨f, h1, _⟩ := h
  refine ⟨(own_at h1 hb).1, (own_at h1 hb).2.2, ?_⟩
  rcases h1.1.2 with ⟨rfl, _⟩ | ⟨g, cap, cur, rfl, _, hg, _⟩
  · simp [Value.ownBlock] at hb
  · simp only [Value.ownBlock] at hb
    obtain rfl : g = b := by simpa using hb
    exact ⟨cur, hg⟩
theorem OwnI.ownK {w : World} {lo hi : Nat} {e : TypeId} {v : Value} {xs : List Int} (h1 : OwnI w lo hi e v xs) {b : Nat} (hb : v.ownBlock = some b) : lo ≤ b ∧ b < w.heap.size ∧ ∃ cur, w.heap[b]? = some (.cells cur e (0, 0)) := by
  refine ⟨(own_at h1 hb).1, (own_at h1 hb).2.2, ?_⟩
  rcases h1.1.2 with ⟨rfl, _⟩ | ⟨g, cap, cur, rfl, _, hg, _⟩
  · simp [Value.ownBlock] at hb
  · simp only [Value.ownBlock] at hb
    obtain rfl : g = b := by simpa using hb
    exact ⟨cur, hg⟩
/-- append(list, one): the list's own; one is laid into a block of its own right ahead. -/
theorem wp_appQ {P : Program} {ops : Array Oper} {rest : List Oper} {o : Oper} {a : Act} {Q : Exit → Act → World → Prop} {W : World} (t e : TypeId) (he : e ≠ 2) (ht : P.underlying t = some (.slice e)) (hinfo : (P.info? e).map (fun i => (i.zero, i.size, i.bytes)) = some (some (.agg #[.slice none 0 0, .slice none 0 0]), 2, 48))
    (lo : Nat) (kb : Nat → Prop) (hgd : o.guard = none) (s x : Operand) (ho : o.op = .call { callee := .builtin .append, args := #[s, x], argTypes := #[t, t] })
    (v : Value) (qs : List PQ) (p : PQ) (x1 y1 : Value) (ho1 : x1.oneCell' = true) (ho2 : y1.oneCell' = true) (hs : a.eval s = v) (hx : a.eval x = .slice (some ⟨W.heap.size, 0, none⟩) 1 1)
    (HO : AQ e W lo kb v qs) (HP : PK W lo kb x1 y1 p) (hlo : lo ≤ W.heap.size) (hl : qs.length + 1 ≤ 1048576)
    (h : ∀ g cap w1, AQ e w1 lo kb (.slice (some ⟨g, 0, none⟩) (qs.length + 1) cap) (qs ++ [p]) → Kp kb W w1 → (∀ k, k < W.heap.size → v.ownBlock ≠ some k → w1.heap[k]? = W.heap[k]?) → Below lo W w1 → wpList P ops Q rest (a.put o.dst (.slice (some ⟨g, 0, none⟩) (qs.length + 1) cap)) w1) :
    wpList P ops Q (o :: rest) a (W.alloc (.cells #[x1, y1] e)) := by
  obtain ⟨f, h1, h2⟩ := HO
  obtain ⟨i0, hi, hzz⟩ := Option.map_eq_some_iff.1 hinfo
  simp only [Prod.mk.injEq] at hzz
  obtain ⟨hz0, hz1, hz2⟩ := hzz
  refine wpList_append_lies (W.alloc (.cells #[x1, y1] e)) hgd s x t ho lo e i0 (.agg #[.slice none 0 0, .slice none 0 0]) 2 48 ht hi hz0 hz1 hz2 rfl (by omega) v qs.length (qcs f qs.length) hs (h1.1.alloc _) ⟨W.heap.size, 0, none⟩ 1 1 [x1, y1] hx rfl
    (cells_new2 W x1 y1 e) (by intro u hu; simp at hu; rcases hu with rfl | rfl <;> assumption) (by omega) (by simp only [maxLen]; omega) (by omega) (by simp; omega) (W.heap.size + 1) (by simp) ?_
  intro g cap w1 hown hg _ _
  obtain ⟨q1, q2, q3⟩ := appQ_core (p := p) he h1 h2 HP hown hg
  exact h g cap w1 q1 q2 q3 (((Below.refl lo W).alloc hlo _).grown hg (by simp; omega) fun k hk => (h1.1.lt k hk).1)
theorem PK.of {w : World} {lo lo9 n c9 c6 : Nat} {kb : Nat → Prop} {A9 A6 : Option Addr} {p : PQ} (h9 : OwnI w lo9 w.heap.size 2 (.slice A9 n c9) p.1) (hn : n = p.1.length) (hlo : lo ≤ lo9) (hk : ∀ b, lo9 ≤ b → ¬ kb b) (h6 : RdT w kb A6 p.2) : PK w lo kb (.slice A9 n c9) (.slice A6 p.2.length c6) p := by
  subst hn
  exact ⟨A9, c9, A6, c6, rfl, rfl, RdT.of h9 hk, h6, Own.wide h9 hlo (Nat.le_refl _), fun b hb => hk b (own_at h9 hb).1⟩
structure QI (e : TypeId) (W w : World) (lo : Nat) (vo vk : Value) (O : List PQ) : Prop where
  bel : Below lo w W
  o : AQ e W lo (ob vk) vo O
  k : OwnI W lo W.heap.size 2 vk (O.map fun p => keyI p.2)
  z : lo ≤ W.heap.size
theorem QI.below {e : TypeId} {W W' w : World} {lo : Nat} {vo vk : Value} {O : List PQ} (h : QI e W w lo vo vk O) (hb : Below W.heap.size W W') : QI e W' w lo vo vk O :=
  ⟨h.bel.trans (hb.mono h.z), h.o.below hb, Own.wide (own_blk h.k fun b hv => hb.block b (h.k.ownK hv).2.1) (Nat.le_refl _) hb.size, Nat.le_trans h.z hb.size⟩
theorem QI.ne {e : TypeId} (he : e ≠ 2) {W w : World} {lo : Nat} {vo vk : Value} {O : List PQ} (h : QI e W w lo vo vk O) {b : Nat} (hv : vo.ownBlock = some b) : vk.ownBlock ≠ some b := fun q => by
  obtain ⟨_, _, cur, h1⟩ := h.o.ownK hv
  obtain ⟨_, _, cur', h2⟩ := h.k.ownK q
  rw [h1] at h2
  cases h2
  exact he rfl
/-- Both appends, the one's and the key's. -/
theorem QI.app {e : TypeId} (he : e ≠ 2) {W w w1 w2 : World} {lo : Nat} {vo vo' vk vk' : Value} {O : List PQ} {p : PQ} (h : QI e W w lo vo vk O)
    (a1 : AQ e w1 lo (ob vk) vo' (O ++ [p])) (a2 : Kp (ob vk) W w1) (a3 : ∀ k, k < W.heap.size → vo.ownBlock ≠ some k → w1.heap[k]? = W.heap[k]?) (a4 : Below lo W w1)
    (b1 : OwnI w2 lo w2.heap.size 2 vk' ((O.map fun p => keyI p.2) ++ [keyI p.2])) (b2 : Below lo w1 w2) (b3 : ∀ k, k < w1.heap.size → vk.ownBlock ≠ some k → w2.heap[k]? = w1.heap[k]?) (b4 : ∀ k, vk'.ownBlock = some k → vk.ownBlock = some k ∨ w1.heap.size ≤ k) (b5 : w1.heap.size ≤ w2.heap.size) :
    QI e w2 w lo vo' vk' (O ++ [p]) := by
  refine ⟨(h.bel.trans a4).trans b2, ?_, by simpa using b1, Nat.le_trans h.z (Nat.le_trans a2.size b5)⟩
  have hne : ∀ b, vo'.ownBlock = some b → vk.ownBlock ≠ some b := fun b hb q => by
    obtain ⟨_, _, cur, h1⟩ := a1.ownK hb
    obtain ⟨_, hlt, cur', h2⟩ := h.k.ownK q
    have h3 := a3 b hlt fun r => h.ne he r q
    rw [h3, h2] at h1
    cases h1
    exact he rfl
  have c1 : AQ e w1 lo (fun b => ob vk b ∨ ob vk' b) vo' (O ++ [p]) := a1.re fun b hb hk => by
    rcases hk with hk | hk
    · exact hk
    · rcases b4 b hk with r | r
      · exact r
      · omega
  have c2 : Kp (fun b => ob vk b ∨ ob vk' b) w1 w2 := ⟨b5, fun b cs fr hn hb => b3 b (lt_of_heap hb) fun q => hn (.inl q)⟩
  exact (c1.keep c2 fun b hb => b3 b (a1.ownK hb).2.1 (hne b hb)).re fun b _ hk => .inr hk
/-- The keys stay while one is appended to the list. -/
theorem QI.keysO {e : TypeId} (he : e ≠ 2) {W w w1 : World} {lo : Nat} {vo vk : Value} {O : List PQ} (h : QI e W w lo vo vk O) (a2 : W.heap.size ≤ w1.heap.size) (a3 : ∀ k, k < W.heap.size → vo.ownBlock ≠ some k → w1.heap[k]? = W.heap[k]?) : OwnI w1 lo w1.heap.size 2 vk (O.map fun p => keyI p.2) :=
  Own.wide (own_blk h.k fun b hv => a3 b (h.k.ownK hv).2.1 fun q => h.ne he q hv) (Nat.le_refl _) a2
theorem seenB_take {O : List PQ} {s : List Int} {i : Nat} (h : i < O.length) : seenB (O.take (i + 1)) s = (seenB (O.take i) s || decide ((qel O i).2 = s)) := by
  unfold seenB
  rw [List.take_add_one, qel_get h, List.any_append]
  simp
theorem seenB_mono {O : List PQ} {s : List Int} {i : Nat} (h : seenB (O.take i) s = true) : seenB O s = true := by
  unfold seenB at *
  rw [List.any_eq_true] at *
  obtain ⟨p, hp, e⟩ := h
  exact ⟨p, List.mem_of_mem_take hp, e⟩
theorem el_map {O : List PQ} {i : Nat} (h : i < O.length) : el (O.map fun p => keyI p.2) i = keyI (qel O i).2 := by
  have h1 := qel_get h
  unfold el
  rw [List.getD_eq_getElem?_getD, List.getElem?_map, h1]; rfl
theorem exK_snocs (al : List (List Int)) (r : PQ) (k : Nat) (O : List PQ) {f : Nat} (hf : f < O.length) : qel (exK al r k O) f = qel O f ∧ f < (exK al r k O).length := by
  obtain ⟨N, e, _⟩ := exK_pre al r k O
  rw [e]
  exact ⟨qel_app hf, by rw [List.length_append]; omega⟩
end Go.Proofs.Ytmpdaafkphpnoaa
