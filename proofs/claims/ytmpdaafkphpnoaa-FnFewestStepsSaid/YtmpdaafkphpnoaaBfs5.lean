import Derived.Test.YtmpdaafkphpnoaaBfs4
set_option linter.unusedVariables false
set_option linter.unusedSimpArgs false
namespace Go.Proofs.Ytmpdaafkphpnoaa
open Go.RowKit

/-! ### The state of the search: the box of the list of all, the lists of all, of the next level, of this level -/
abbrev kb0 : Nat → Prop := fun _ => False
theorem AQ.own {e : TypeId} {w : World} {lo : Nat} {kb : Nat → Prop} {v : Value} {qs : List PQ} (h : AQ e w lo kb v qs) {b : Nat} (hb : v.ownBlock = some b) : lo ≤ b ∧ b < w.heap.size ∧ ∃ cur, w.heap[b]? = some (.cells cur e (0, 0)) := by
  obtain ⟨f, h1, _⟩ := h
  refine ⟨(own_at h1 hb).1, (own_at h1 hb).2.2, ?_⟩
  rcases h1.1.2 with ⟨rfl, _⟩ | ⟨g, cap, cur, rfl, _, hg, _⟩
  · simp [Value.ownBlock] at hb
  · simp only [Value.ownBlock] at hb
    obtain rfl : g = b := by simpa using hb
    exact ⟨cur, hg⟩
structure RI (e tS : TypeId) (W w1 : World) (lo bo : Nat) (vb vo vn vw : Value) (O N Wl : List PQ) : Prop where
  bel : Below lo w1 W
  lo1 : lo ≤ bo
  box : W.heap[bo]? = some (.cells #[vb] tS (0, 0))
  o : AQ e W lo kb0 vo O
  n : AQ e W lo kb0 vn N
  w : AQ e W lo kb0 vw Wl
  on : ∀ b, vo.ownBlock = some b → vn.ownBlock ≠ some b
  ow : ∀ b, vo.ownBlock = some b → vw.ownBlock ≠ some b
  nw : ∀ b, vn.ownBlock = some b → vw.ownBlock ≠ some b
theorem RI.below {e tS : TypeId} {W W' w1 : World} {lo bo : Nat} {vb vo vn vw : Value} {O N Wl : List PQ} (h : RI e tS W w1 lo bo vb vo vn vw O N Wl) (hlo : lo ≤ W.heap.size) (hb : Below W.heap.size W W') : RI e tS W' w1 lo bo vb vo vn vw O N Wl :=
  ⟨h.bel.trans (hb.mono hlo), h.lo1, (hb.block bo (lt_of_heap h.box)).trans h.box, h.o.below hb, h.n.below hb, h.w.below hb, h.on, h.ow, h.nw⟩
theorem RI.boxne {e tS : TypeId} {W w1 : World} {lo bo : Nat} {vb vo vn vw : Value} {O N Wl : List PQ} (h : RI e tS W w1 lo bo vb vo vn vw O N Wl) (he : e ≠ tS) : vo.ownBlock ≠ some bo ∧ vn.ownBlock ≠ some bo ∧ vw.ownBlock ≠ some bo := by
  have hq : ∀ {v : Value} {qs : List PQ}, AQ e W lo kb0 v qs → v.ownBlock ≠ some bo := fun {v qs} q r => by
    obtain ⟨_, _, cur, hc⟩ := q.own r
    rw [h.box] at hc
    cases hc
    exact he rfl
  exact ⟨hq h.o, hq h.n, hq h.w⟩
/-- What an append says of its world. -/
structure Apd (W w2 : World) (lo : Nat) (v v' : Value) : Prop where
  kp : Kp kb0 W w2
  keep : ∀ k, k < W.heap.size → v.ownBlock ≠ some k → w2.heap[k]? = W.heap[k]?
  at_ : v.ownBlock = v'.ownBlock ∨ v'.ownBlock = some W.heap.size
  bel : Below lo W w2
theorem RI.appO {e tS : TypeId} {W w2 w1 : World} {lo bo : Nat} {vb vo vo' vn vw : Value} {O O' N Wl : List PQ} (he : e ≠ tS) (h : RI e tS W w1 lo bo vb vo vn vw O N Wl) (ha : Apd W w2 lo vo vo') (hq : AQ e w2 lo kb0 vo' O') : RI e tS w2 w1 lo bo vb vo' vn vw O' N Wl := by
  have hb := h.boxne he
  refine ⟨h.bel.trans ha.bel, h.lo1, (ha.keep bo (lt_of_heap h.box) hb.1).trans h.box, hq, ?_, ?_, ?_, ?_, h.nw⟩
  · exact h.n.keep ha.kp fun b hv => ha.keep b (h.n.own hv).2.1 fun q => h.on b q hv
  · exact h.w.keep ha.kp fun b hv => ha.keep b (h.w.own hv).2.1 fun q => h.ow b q hv
  · intro b hv
    rcases ha.at_ with q | q
    · exact h.on b (q.trans hv)
    · rw [q] at hv; cases hv
      intro r; have := (h.n.own r).2.1; omega
  · intro b hv
    rcases ha.at_ with q | q
    · exact h.ow b (q.trans hv)
    · rw [q] at hv; cases hv
      intro r; have := (h.w.own r).2.1; omega
theorem RI.appN {e tS : TypeId} {W w2 w1 : World} {lo bo : Nat} {vb vo vn vn' vw : Value} {O N N' Wl : List PQ} (he : e ≠ tS) (h : RI e tS W w1 lo bo vb vo vn vw O N Wl) (ha : Apd W w2 lo vn vn') (hq : AQ e w2 lo kb0 vn' N') : RI e tS w2 w1 lo bo vb vo vn' vw O N' Wl := by
  have hb := h.boxne he
  refine ⟨h.bel.trans ha.bel, h.lo1, (ha.keep bo (lt_of_heap h.box) hb.2.1).trans h.box, ?_, hq, ?_, ?_, h.ow, ?_⟩
  · exact h.o.keep ha.kp fun b hv => ha.keep b (h.o.own hv).2.1 fun q => h.on b hv q
  · exact h.w.keep ha.kp fun b hv => ha.keep b (h.w.own hv).2.1 fun q => h.nw b q hv
  · intro b hv r
    rcases ha.at_ with q | q
    · exact h.on b hv (q.trans r)
    · rw [q] at r; cases r
      have := (h.o.own hv).2.1; omega
  · intro b hv
    rcases ha.at_ with q | q
    · exact h.nw b (q.trans hv)
    · rw [q] at hv; cases hv
      intro r; have := (h.w.own r).2.1; omega
theorem RI.store {e tS : TypeId} {W w1 : World} {lo bo : Nat} {vb vo vn vw : Value} {O N Wl : List PQ} (he : e ≠ tS) (ht : tS ≠ 2) (h : RI e tS W w1 lo bo vb vo vn vw O N Wl) : RI e tS (W.setCell ⟨bo, 0, none⟩ vo) w1 lo bo vo vo vn vw O N Wl := by
  have hb := h.boxne he
  have hbk : ∀ k, k ≠ bo → (W.setCell ⟨bo, 0, none⟩ vo).heap[k]? = W.heap[k]? := fun k hk => Below.heap_setCell _ _ _ _ hk
  have hsz : (W.setCell ⟨bo, 0, none⟩ vo).heap.size = W.heap.size := by simp [World.setCell]
  have hK : Kp kb0 W (W.setCell ⟨bo, 0, none⟩ vo) := ⟨by omega, fun b cs fr _ hc => hbk b fun q => by
    subst q
    rw [h.box] at hc
    cases hc
    exact ht rfl⟩
  refine ⟨h.bel.setCell h.lo1 vo, h.lo1, ?_, ?_, ?_, ?_, h.on, h.ow, h.nw⟩
  · have := heap_setCell_same _ _ 0 _ _ vo h.box
    simpa using this
  · exact h.o.keep hK fun b hv => hbk b fun q => hb.1 (by rw [← q]; exact hv)
  · exact h.n.keep hK fun b hv => hbk b fun q => hb.2.1 (by rw [← q]; exact hv)
  · exact h.w.keep hK fun b hv => hbk b fun q => hb.2.2 (by rw [← q]; exact hv)
/-- A block of its own that no append touches. -/
structure RX (W : World) (sb : Nat) (ob : Obj) (vo vn : Value) : Prop where
  at_ : W.heap[sb]? = some ob
  o : vo.ownBlock ≠ some sb
  n : vn.ownBlock ≠ some sb
theorem RX.below {W W' : World} {sb : Nat} {ob : Obj} {vo vn : Value} (h : RX W sb ob vo vn) (hb : Below W.heap.size W W') : RX W' sb ob vo vn := ⟨(hb.block sb (lt_of_heap h.at_)).trans h.at_, h.o, h.n⟩
theorem RX.appO {W w2 : World} {sb lo : Nat} {ob : Obj} {vo vo' vn : Value} (h : RX W sb ob vo vn) (ha : Apd W w2 lo vo vo') : RX w2 sb ob vo' vn := by
  refine ⟨(ha.keep sb (lt_of_heap h.at_) h.o).trans h.at_, fun q => ?_, h.n⟩
  rcases ha.at_ with r | r
  · exact h.o (r.trans q)
  · rw [r] at q; cases q; have := lt_of_heap h.at_; omega
theorem RX.appN {W w2 : World} {sb lo : Nat} {ob : Obj} {vo vn vn' : Value} (h : RX W sb ob vo vn) (ha : Apd W w2 lo vn vn') : RX w2 sb ob vo vn' := by
  refine ⟨(ha.keep sb (lt_of_heap h.at_) h.n).trans h.at_, h.o, fun q => ?_⟩
  rcases ha.at_ with r | r
  · exact h.n (r.trans q)
  · rw [r] at q; cases q; have := lt_of_heap h.at_; omega
theorem RX.store {W : World} {sb bo : Nat} {ob : Obj} {vo vn u : Value} (h : RX W sb ob vo vn) (hn : sb ≠ bo) : RX (W.setCell ⟨bo, 0, none⟩ u) sb ob vo vn := ⟨(Below.heap_setCell _ _ _ _ hn).trans h.at_, h.o, h.n⟩
end Go.Proofs.Ytmpdaafkphpnoaa
