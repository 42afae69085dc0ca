import Derived.Test.YtmpdaafkphpnoaaRwsA
import Derived.Test.YtmpdaafkphpnoaaCat
import Derived.Deep.AppendLies
set_option linter.unusedVariables false
set_option linter.unusedSimpArgs false
namespace Go.Proofs.Ytmpdaafkphpnoaa
open Go.RowKit

/-! ### append at a step of a region that draws; rows of which one is older than the others -/
theorem rdi_news {W : World} {b off m : Nat} {ys : List Int} (h : RdI W (some ⟨b, off, none⟩) ys) : ∀ j u, (ints ys)[j]? = some u → W.cell? ((⟨b, off, none⟩ : Addr).add j) = some u := fun j u hu => by
  have hj : j < ys.length := by
    have := (List.getElem?_eq_some_iff.1 hu).1
    rwa [ints_length] at this
  obtain ⟨b', off', e, hc⟩ := h.get hj
  cases e
  rw [ints_get hj] at hu
  cases hu
  rw [← hc]
  congr 1
  unfold Addr.add
  split
  · next q => subst q; rfl
  · rfl
theorem step_appS {ops : Array Oper} {o : Oper} {a : Act} {K : Act → World → Prop} {Q : Exit → Act → World → Prop} {E : Prop} {W : World} (lo : Nat) (hgd : o.guard = none) (s x : Operand)
    (ho : o.op = .call { callee := .builtin .append, args := #[s, x], argTypes := #[27, 27] })
    (v : Value) (n b off m c : Nat) (xs ys : List Int) (hs : a.eval s = v) (hx : a.eval x = .slice (some ⟨b, off, none⟩) m c) (HO : Own W lo W.heap.size 2 1 v n (ints xs)) (hm : ys.length = m) (h0 : 0 < m)
    (HY : RdI W (some ⟨b, off, none⟩) ys) (hl : n + m ≤ 1048576) (hlo : lo ≤ W.heap.size)
    (h : ∀ g cap w', Own w' lo w'.heap.size 2 1 (.slice (some ⟨g, 0, none⟩) (n + m) cap) (n + m) (ints (xs ++ ys)) → Below lo W w' → K (a.put o.dst (.slice (some ⟨g, 0, none⟩) (n + m) cap)) w') :
    if Region.wanted o (yielded ops a.tmps) = true then Oper.wp Try.prog o a W K Q else E := by
  obtain ⟨i0, hi, hzz⟩ := Option.map_eq_some_iff.1 infoInt
  simp only [Prod.mk.injEq] at hzz
  obtain ⟨hz0, hz1, hz2⟩ := hzz
  refine step_append_lies W hgd s x 27 ho lo 2 i0 (.int .i64 0) 1 8 Try.underlying27 hi hz0 hz1 hz2 rfl (by omega) v n (ints xs) hs HO.1 ⟨b, off, none⟩ m c (ints ys) hx (by rw [ints_length, hm]; omega)
    (rdi_news (m := m) HY) (fun u hu => by obtain ⟨y, _, rfl⟩ := List.mem_map.1 hu; rfl) h0 (by simp only [maxLen]; omega) (by omega) hlo W.heap.size rfl ?_
  intro g cap w1 hown hg hat hlt
  refine h g cap w1 (by rw [ints_append]; exact Own.of hown) ((Below.refl lo W).grown hg hlo ?_)
  intro k hk
  rcases HO.1.2 with ⟨rfl, _⟩ | ⟨g', cap', cur, rfl, hb, _⟩
  · simp [Value.ownBlock] at hk
  · simp [Value.ownBlock] at hk; omega
theorem appR_core {W w1 : World} {lo : Nat} {v v1 : Value} {yss : List (List Int)} {f : Nat → Value} {A : Option Addr} {c n : Nat} {row : List Int} (hf : ORf W lo W.heap.size v yss f) (HU : OI W lo W.heap.size (.slice A n c) row)
    (hdis : ∀ j, (Value.slice A n c).ownBlock = some j → v.ownBlock ≠ some j ∧ ∀ k, k < yss.length → (f k).ownBlock ≠ some j)
    (hown : w1.ownsRow lo 27 1 v1 (yss.length + 1) ((List.range yss.length).map f ++ [.slice A n c])) (hg : (W.alloc (.cells #[.slice A n c] 27)).grownBy w1 v.ownBlock)
    (hblk : v1.ownBlock = v.ownBlock ∨ v1.ownBlock = some (W.heap.size + 1)) (hlo : lo ≤ W.heap.size) :
    ORf w1 lo w1.heap.size v1 (yss ++ [row]) (upd f yss.length (.slice A n c)) ∧ Below lo W w1 := by
  obtain ⟨ho1, ho2, ho3, ho4⟩ := hf
  have hsz := hg.size
  simp only [World.alloc] at hsz
  have hsz' : W.heap.size + 1 ≤ w1.heap.size := by simpa using hsz
  have hbl : Below lo W w1 := by
    refine ((Below.refl lo W).alloc (by omega) _).grown hg (by simp; omega) ?_
    intro k hk
    exact (ho1.1.lt k hk).1
  have hkeep : ∀ k, k < W.heap.size → v.ownBlock ≠ some k → w1.heap[k]? = W.heap[k]? := fun k hk hn => by
    rw [hg.block k (by simp; omega) (Ne.symm hn)]
    exact heap_alloc_old _ _ hk
  refine ⟨⟨?_, ?_, ?_, ?_⟩, hbl⟩
  · rw [List.length_append, List.length_singleton, ← range_snoc]
    exact Own.of hown
  · intro k hk
    rw [List.length_append, List.length_singleton] at hk
    by_cases e : k = yss.length
    · subst e
      rw [upd_at, rw_last]
      exact Own.wide (own_blk HU fun j hj => hkeep j (own_at HU hj).2.1 (hdis j hj).1) (Nat.le_refl _) (by omega)
    · rw [upd_ne _ _ e, rw_snoc _ _ _ (by omega)]
      have hk' : k < yss.length := by omega
      exact Own.wide (own_blk (ho2 k hk') fun j hj => hkeep j (by have := (own_at (ho2 k hk') hj).2.1; omega) fun hv => ho4 k j j hk' hv hj rfl) (Nat.le_refl _) (by omega)
  · intro i j a b hij hj ha hb
    rw [List.length_append, List.length_singleton] at hj
    rw [upd_ne _ _ (by omega)] at ha
    by_cases e : j = yss.length
    · rw [e, upd_at] at hb
      intro q
      exact (hdis b hb).2 i (by omega) (by rw [← q]; exact ha)
    · rw [upd_ne _ _ e] at hb
      exact ho3 i j a b hij (by omega) ha hb
  · intro k a b hk ha hb
    rw [List.length_append, List.length_singleton] at hk
    by_cases e : k = yss.length
    · rw [e, upd_at] at hb
      have h2 := own_at HU hb
      rcases hblk with e1 | e1
      · intro q
        exact (hdis b hb).1 (by rw [← e1, ← q]; exact ha)
      · rw [e1] at ha; cases ha; omega
    · rw [upd_ne _ _ e] at hb
      have h2 := own_at (ho2 k (by omega)) hb
      rcases hblk with e1 | e1
      · exact ho4 k a b (by omega) (by rw [← e1]; exact ha) hb
      · rw [e1] at ha; cases ha; omega
/-- Rows of the call's own, none of them in block b; the outer slice lies in block b0 or later. -/
def ORx (w : World) (lo hi : Nat) (v : Value) (xss : List (List Int)) (b b0 : Nat) : Prop := ∃ f, ORf w lo hi v xss f ∧ v.ownBlock ≠ some b ∧ (∀ k, k < xss.length → (f k).ownBlock ≠ some b) ∧ ∀ j, v.ownBlock = some j → b0 ≤ j
theorem ORx.or {w : World} {lo hi : Nat} {v : Value} {xss : List (List Int)} {b b0 : Nat} (h : ORx w lo hi v xss b b0) : OR w lo hi v xss := by
  obtain ⟨f, a, _⟩ := h; exact ⟨f, a⟩
theorem ORf.wide {w : World} {lo hi lo' hi' : Nat} {v : Value} {xss : List (List Int)} {f : Nat → Value} (h : ORf w lo hi v xss f) (h1 : lo' ≤ lo) (h2 : hi ≤ hi') : ORf w lo' hi' v xss f :=
  ⟨h.1.wide h1 h2, fun k hk => Own.wide (h.2.1 k hk) h1 h2, h.2.2.1, h.2.2.2⟩
theorem ORx.eqv {w w' : World} {lo hi : Nat} {v : Value} {xss : List (List Int)} {b b0 : Nat} (h : ORx w lo hi v xss b b0) (hq : Eqv lo hi w w') : ORx w' lo hi v xss b b0 := by
  obtain ⟨f, ⟨h1, h2, h3, h4⟩, h5⟩ := h
  exact ⟨f, ⟨h1.eqv hq, fun k hk => (h2 k hk).eqv hq, h3, h4⟩, h5⟩
theorem ORx.wide {w : World} {lo hi lo' hi' : Nat} {v : Value} {xss : List (List Int)} {b b0 : Nat} (h : ORx w lo hi v xss b b0) (h1 : lo' ≤ lo) (h2 : hi ≤ hi') : ORx w lo' hi' v xss b b0 := by
  obtain ⟨f, a, c⟩ := h
  exact ⟨f, a.wide h1 h2, c⟩
/-- A literal of one row. -/
theorem ORx.one {w : World} {lo b b0 : Nat} {A : Option Addr} {n c : Nat} {xs : List Int} (hn : n = xs.length) (h : OI w lo w.heap.size (.slice A n c) xs) (hlo : lo ≤ w.heap.size) (hb : (Value.slice A n c).ownBlock ≠ some b) (hbw : b < w.heap.size) (hb0 : b0 ≤ w.heap.size) :
    ORx (w.alloc (.cells #[.slice A n c] 27)) lo (w.heap.size + 1) (.slice (some ⟨w.heap.size, 0, none⟩) 1 1) [xs] b b0 := by
  have ho := World.ownsRow_lit (base := w.heap.size) (e := 27) (size := 1) w #[.slice A n c] 1 (Nat.le_refl _) (by simp [maxLen]) rfl
  have h2 := Own.wide (Own.of ho) hlo (Nat.le_of_eq (show (w.alloc (.cells #[Value.slice A n c] 27)).heap.size = w.heap.size + 1 by simp))
  refine ⟨fun _ => .slice A n c, ⟨?_, fun k hk => ?_, fun i j a b hij hj => ?_, fun k a b hk ha hb => ?_⟩, by simp [Value.ownBlock]; omega, fun k hk => hb, fun j hj => by simp [Value.ownBlock] at hj; omega⟩
  · simpa using h2
  · obtain rfl : k = 0 := by simpa using hk
    exact Own.wide (h.eqv (Eqv.of (ballocw w _) (Nat.le_refl _))) (Nat.le_refl _) (by omega)
  · simp at hj; omega
  · have := h.2 b hb
    simp [Value.ownBlock] at ha; omega
theorem cell_new_add (W : World) (u : Value) (t : TypeId) : ∀ j x, ([u] : List Value)[j]? = some x → (W.alloc (.cells #[u] t)).cell? ((⟨W.heap.size, 0, none⟩ : Addr).add j) = some x := fun j x hx => by
  match j, hx with
  | 0, hx => simp at hx; subst hx; simp [Addr.add]
  | j + 1, hx => simp at hx
theorem step_appRx {ops : Array Oper} {o : Oper} {a : Act} {K : Act → World → Prop} {Q : Exit → Act → World → Prop} {E : Prop} {W : World} (lo B b b0 : Nat) (hgd : o.guard = none) (s x : Operand)
    (ho : o.op = .call { callee := .builtin .append, args := #[s, x], argTypes := #[25, 25] })
    (v : Value) (yss : List (List Int)) (A : Option Addr) (c n : Nat) (row : List Int) (hs : a.eval s = v) (hx : a.eval x = .slice (some ⟨W.heap.size, 0, none⟩) 1 1)
    (HO : ORx W lo B v yss b b0) (hb0 : b0 ≤ W.heap.size) (HU : OI W B W.heap.size (.slice A n c) row) (hbB : b < B) (hlo : lo ≤ B) (hB : B ≤ W.heap.size) (hl : yss.length + 1 ≤ 1048576)
    (h : ∀ v1 w1, ORx w1 lo w1.heap.size v1 (yss ++ [row]) b b0 → Below b0 W w1 → K (a.put o.dst v1) w1) :
    if Region.wanted o (yielded ops a.tmps) = true then Oper.wp Try.prog o a (W.alloc (.cells #[.slice A n c] 27)) K Q else E := by
  obtain ⟨f, hf, hv, hk, hvb⟩ := HO
  obtain ⟨i0, hi, hzz⟩ := Option.map_eq_some_iff.1 infoRow
  simp only [Prod.mk.injEq] at hzz
  obtain ⟨hz0, hz1, hz2⟩ := hzz
  have hae : (W.alloc (.cells #[.slice A n c] 27)).heap.size = W.heap.size + 1 := by simp
  refine step_append_lies (W.alloc (.cells #[.slice A n c] 27)) hgd s x 25 ho lo 27 i0 (.slice none 0 0) 1 24 Try.underlying25 hi hz0 hz1 hz2 rfl (by omega) v yss.length _ hs (hf.1.1.alloc _) ⟨W.heap.size, 0, none⟩ 1 1 [.slice A n c] hx rfl
    (cell_new_add W _ _) (by intro u hu; simp at hu; subst hu; rfl) (by omega) (by simp only [maxLen]; omega) (by omega) (by omega) (W.heap.size + 1) hae ?_
  intro g cap w1 hown hg hat hlt
  have hc := appR_core (hf.wide (Nat.le_refl _) hB) (Own.wide HU hlo (Nat.le_refl _)) (fun j hj => by
    have h1 := (own_at HU hj).1
    exact ⟨fun q => by have := (own_at hf.1 q).2.1; omega, fun k hk q => by have := (own_at (hf.2.1 k hk) q).2.1; omega⟩) hown hg (by
      rcases hat with q | q
      · exact .inl (by rw [q]; rfl)
      · exact .inr (by rw [q]; rfl)) (by omega)
  refine h _ w1 ⟨_, hc.1, ?_, fun k hk' => ?_, fun j hj => ?_⟩ (((Below.refl b0 W).alloc hb0 _).grown hg (by simp; omega) fun k hk => hvb k hk)
  · rcases hat with q | q
    · intro e; exact hv (by rw [q]; exact e)
    · intro e; have : g = b := by simpa [Value.ownBlock] using e
      omega
  · rw [List.length_append, List.length_singleton] at hk'
    by_cases e : k = yss.length
    · subst e
      rw [upd_at]
      intro q; have := (own_at HU q).1; omega
    · rw [upd_ne _ _ e]; exact hk k (by omega)
  · have hj' : g = j := by simpa [Value.ownBlock] using hj
    rcases hat with q | q
    · exact hvb j (by rw [q, hj'])
    · omega
theorem wp_appRlast {ops : Array Oper} {rest : List Oper} {o : Oper} {a : Act} {Q : Exit → Act → World → Prop} {W : World} (lo b b0 : Nat) (hgd : o.guard = none) (s x : Operand)
    (ho : o.op = .call { callee := .builtin .append, args := #[s, x], argTypes := #[25, 25] })
    (v : Value) (yss : List (List Int)) (A : Option Addr) (c n : Nat) (row : List Int) (hs : a.eval s = v) (hx : a.eval x = .slice (some ⟨W.heap.size, 0, none⟩) 1 1)
    (HO : ORx W lo W.heap.size v yss b b0) (HU : OI W b (b + 1) (.slice A n c) row) (hlo : lo ≤ b) (hB : b < W.heap.size) (hl : yss.length + 1 ≤ 1048576)
    (h : ∀ v1 w1, OR w1 lo w1.heap.size v1 (yss ++ [row]) → Below lo W w1 → wpList Try.prog ops Q rest (a.put o.dst v1) w1) :
    wpList Try.prog ops Q (o :: rest) a (W.alloc (.cells #[.slice A n c] 27)) := by
  obtain ⟨f, hf, hv, hk, hvb⟩ := HO
  obtain ⟨i0, hi, hzz⟩ := Option.map_eq_some_iff.1 infoRow
  simp only [Prod.mk.injEq] at hzz
  obtain ⟨hz0, hz1, hz2⟩ := hzz
  have hae : (W.alloc (.cells #[.slice A n c] 27)).heap.size = W.heap.size + 1 := by simp
  refine wpList_append_lies (W.alloc (.cells #[.slice A n c] 27)) hgd s x 25 ho lo 27 i0 (.slice none 0 0) 1 24 Try.underlying25 hi hz0 hz1 hz2 rfl (by omega) v yss.length _ hs (hf.1.1.alloc _) ⟨W.heap.size, 0, none⟩ 1 1 [.slice A n c] hx rfl
    (cell_new_add W _ _) (by intro u hu; simp at hu; subst hu; rfl) (by omega) (by simp only [maxLen]; omega) (by omega) (by omega) (W.heap.size + 1) hae ?_
  intro g cap w1 hown hg hat hlt
  have hc := appR_core hf (Own.wide HU hlo (by omega)) (fun j hj => by
    have h1 := own_at HU hj
    obtain rfl : j = b := by omega
    exact ⟨hv, hk⟩) hown hg (by
      rcases hat with q | q
      · exact .inl (by rw [q]; rfl)
      · exact .inr (by rw [q]; rfl)) (by omega)
  exact h _ w1 ⟨_, hc.1⟩ hc.2
end Go.Proofs.Ytmpdaafkphpnoaa
