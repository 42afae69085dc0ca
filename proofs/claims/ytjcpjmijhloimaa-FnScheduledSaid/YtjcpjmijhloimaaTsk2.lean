import Derived.Test.YtjcpjmijhloimaaTskA
import Derived.Test.YtjcpjmijhloimaaSrc3
set_option linter.unusedVariables false
set_option linter.unusedSimpArgs false
namespace Go.Proofs.Ytjcpjmijhloimaa
open Go.RowKit

/-- Tasks of the call's own that grow while a source in block B is drawn from. -/
structure GrwT (w0 w wr : World) (B N : Nat) (A : Option Addr) (c : Nat) (bs : List Int) (v : Value) (ts : List TaskV) : Prop where
  src : SrcE w0 wr B N A c bs
  chg : Chg B (B + 1) w wr
  own : OT wr w.heap.size wr.heap.size v ts
theorem GrwT.drew {w0 w wr w1 : World} {B N M c : Nat} {A : Option Addr} {bs : List Int} {v : Value} {ts : List TaskV} (h : GrwT w0 w wr B N A c bs v ts) (hB : B < w.heap.size) (hs : SrcE w0 w1 B M A c bs) (hc : Chg B (B + 1) wr w1) :
    GrwT w0 w w1 B M A c bs v ts := ⟨hs, h.chg.trans hc, OT.wide (OT.eqv h.own (hc.eqv (by omega) (Nat.le_refl _))) (Nat.le_refl _) hc.size⟩
theorem GrwT.app {w0 w wr w1 : World} {B N c : Nat} {A : Option Addr} {bs : List Int} {v1 : Value} {ts : List TaskV} {t : TaskV} (hsrc : SrcE w0 wr B N A c bs) (hchg : Chg B (B + 1) w wr) (hB : B < w.heap.size) (hb : Below w.heap.size wr w1) (ho : OT w1 w.heap.size w1.heap.size v1 (ts ++ [t])) :
    GrwT w0 w w1 B N A c bs v1 (ts ++ [t]) := by
  have hz := hchg.size
  refine ⟨?_, ⟨hb.os.trans hchg.os, hb.tape.trans hchg.tape, hb.output.trans hchg.output, Nat.le_trans hchg.size hb.size, fun j hj hn => (hb.block j hj).trans (hchg.block j hj hn)⟩, ho⟩
  obtain ⟨k, sd, s⟩ := hsrc
  have hw0 : w0.heap.size ≤ w.heap.size := Nat.le_trans s.ge (Nat.le_of_lt hB)
  exact ⟨k, sd, s.ge, s.bel.trans (hb.mono hw0), (hb.block B hB).trans s.hp, s.at_le, s.sd0, s.sd1⟩
/-- append of one number, where each other block stays. -/
theorem wp_append1b {P : Program} {ops : Array Oper} {rest : List Oper} {o : Oper} {a : Act} {Q : Exit → Act → World → Prop} {W : World} (lo : Nat) (hgd : o.guard = none) (s x : Operand) (t e : TypeId) (z : Value) (bytes : Nat)
    (ho : o.op = .call { callee := .builtin .append, args := #[s, x], argTypes := #[t, t] })
    (ht : P.underlying t = some (.slice e)) (hinfo : (P.info? e).map (fun i => (i.zero, i.size, i.bytes)) = some (some z, 1, bytes)) (hz : z.cells.size = 1)
    (v : Value) (xs : List Int) (y : Int) (hs : a.eval s = v) (hx : a.eval x = .slice (some ⟨W.heap.size, 0, none⟩) 1 1)
    (HO : OwnI W lo W.heap.size e v xs) (hlo : lo ≤ W.heap.size) (hl : xs.length + 1 ≤ 9223372036854775807) (hby : (xs.length + 1) * bytes ≤ 140737488355328)
    (h : ∀ v1 w1, OwnI w1 lo w1.heap.size e v1 (xs ++ [y]) → Below lo W w1 → (∀ k, k < W.heap.size → v.ownBlock ≠ some k → w1.heap[k]? = W.heap[k]?) → (∀ k, v1.ownBlock = some k → v.ownBlock = some k ∨ W.heap.size ≤ k) → wpList P ops Q rest (a.put o.dst v1) w1) :
    wpList P ops Q (o :: rest) a (W.alloc (.cells #[.int .i64 y] e)) := by
  obtain ⟨i0, hi, hzz⟩ := Option.map_eq_some_iff.1 hinfo
  simp only [Prod.mk.injEq] at hzz
  obtain ⟨hz0, hz1, hz2⟩ := hzz
  refine wpList_append_own_at (W.alloc (.cells #[.int .i64 y] e)) hgd s x t ho lo e i0 z 1 bytes ht hi hz0 hz1 hz2 hz (by omega) v xs.length (ints xs) hs (HO.1.alloc _) ⟨W.heap.size, 0, none⟩ 1 1 [.int .i64 y] hx rfl
    (cell_one_new _ _ _) (by intro u hu; simp at hu; subst hu; rfl) (by simp only [maxLen]; omega) hby (by simp; omega) ?_
  intro v1 w1 hown hg _ hblk
  refine h v1 w1 ?_ ?_ ?_ ?_
  · have := Own.of hown
    unfold OwnI; rw [ints_append, List.length_append]; exact this
  · refine ((Below.refl lo W).alloc hlo _).grown hg (by simp; omega) ?_
    intro k hk
    exact (HO.1.lt k hk).1
  · intro k hk hn
    rw [hg.block k (by simp; omega) (Ne.symm hn)]
    exact heap_alloc_old _ _ hk
  · intro k hk
    rcases hblk with e | e
    · exact .inl (by rw [← e]; exact hk)
    · rw [e] at hk; cases hk; right; simp
/-- A task that is being made: its box at b1 + 1, what it needs from b1 on. -/
structure TkB (w0 w wr : World) (B N : Nat) (A : Option Addr) (c : Nat) (bs : List Int) (v : Value) (ts : List TaskV) (b1 : Nat) (p l : Int) (v7 : Value) (ns : List Int) : Prop where
  src : SrcE w0 wr B N A c bs
  chg : Chg B (B + 1) w wr
  own : OT wr w.heap.size b1 v ts
  box : wr.heap[b1 + 1]? = some (.cells #[.int .i64 p, .int .i64 l, v7] 74)
  nd : OwnI wr b1 wr.heap.size 2 v7 ns
  ne : v7.ownBlock ≠ some (b1 + 1)
  lt : b1 + 1 < wr.heap.size
  ge : w.heap.size ≤ b1
theorem TkB.drew {w0 w wr w1 : World} {B N M c b1 : Nat} {A : Option Addr} {bs : List Int} {v v7 : Value} {ts : List TaskV} {p l : Int} {ns : List Int} (h : TkB w0 w wr B N A c bs v ts b1 p l v7 ns) (hB : B < w.heap.size) (hs : SrcE w0 w1 B M A c bs) (hc : Chg B (B + 1) wr w1) :
    TkB w0 w w1 B M A c bs v ts b1 p l v7 ns := by
  have hge := h.ge
  have hlt := h.lt
  have hz := hc.size
  exact ⟨hs, h.chg.trans hc, OT.eqv h.own (hc.eqv (.inr (by omega)) (by omega)), (hc.block _ hlt (.inr (by omega))).trans h.box, Own.wide (Own.eqv h.nd (hc.eqv (.inr (by omega)) (Nat.le_refl _))) (Nat.le_refl _) hz, h.ne, by omega, hge⟩
theorem SrcE.set {w0 w : World} {B N c : Nat} {A : Option Addr} {bs : List Int} (h : SrcE w0 w B N A c bs) {g : Nat} (hg : B < g) (k : Nat) (u : Value) : SrcE w0 (w.setCell ⟨g, k, none⟩ u) B N A c bs := by
  obtain ⟨k', sd, s⟩ := h
  have := s.ge
  exact ⟨k', sd, s.ge, bset s.bel (p := ⟨g, k, none⟩) (by show _ ≤ g; omega) u, (heap_setCell_other _ _ _ _ (by show B ≠ g; omega)).trans s.hp, s.at_le, s.sd0, s.sd1⟩
theorem Chg.far {B g : Nat} {w wr : World} (h : Chg B (B + 1) w wr) (hg : w.heap.size ≤ g) (k : Nat) (u : Value) : Chg B (B + 1) w (wr.setCell ⟨g, k, none⟩ u) :=
  ⟨h.os, h.tape, h.output, by have := h.size; simp [World.setCell]; omega, fun j hj hn => (heap_setCell_other _ _ _ _ (by show j ≠ g; omega)).trans (h.block j hj hn)⟩
theorem TkB.lat {w0 w wr : World} {B N c b1 : Nat} {A : Option Addr} {bs : List Int} {v v7 : Value} {ts : List TaskV} {p l : Int} {ns : List Int} (h : TkB w0 w wr B N A c bs v ts b1 p l v7 ns) (hB : B < w.heap.size) (l' : Int) :
    TkB w0 w (wr.setCell ⟨b1 + 1, 1, none⟩ (.int .i64 l')) B N A c bs v ts b1 p l' v7 ns := by
  have hge := h.ge
  have hlt := h.lt
  have hz : (wr.setCell ⟨b1 + 1, 1, none⟩ (.int .i64 l')).heap.size = wr.heap.size := by simp [World.setCell]
  have hq : ∀ j, j ≠ b1 + 1 → (wr.setCell ⟨b1 + 1, 1, none⟩ (.int .i64 l')).heap[j]? = wr.heap[j]? := fun j hj => heap_setCell_other _ _ _ _ hj
  exact ⟨h.src.set (by omega) 1 _, h.chg.far (by omega) 1 _, OT.eqv h.own fun j _ h2 => hq j (by omega), heap_setCell_same _ _ 1 _ _ (.int .i64 l') h.box, Own.wide (own_blk h.nd fun j hj => hq j fun e => h.ne (e ▸ hj)) (Nat.le_refl _) (by omega), h.ne, by omega, hge⟩
theorem TkB.app {w0 w wr w1 : World} {B N c b1 : Nat} {A : Option Addr} {bs : List Int} {v v7 v8 : Value} {ts : List TaskV} {p l x : Int} {ns : List Int} (h : TkB w0 w wr B N A c bs v ts b1 p l v7 ns) (hB : B < w.heap.size)
    (ho : OwnI w1 b1 w1.heap.size 2 v8 (ns ++ [x])) (hb : Below b1 wr w1) (hk : ∀ k, k < wr.heap.size → v7.ownBlock ≠ some k → w1.heap[k]? = wr.heap[k]?) (hn : ∀ k, v8.ownBlock = some k → v7.ownBlock = some k ∨ wr.heap.size ≤ k) :
    TkB w0 w (w1.setCell ⟨b1 + 1, 2, none⟩ v8) B N A c bs v ts b1 p l v8 (ns ++ [x]) := by
  have hge := h.ge
  have hlt := h.lt
  have hsz := hb.size
  have hbox : w1.heap[b1 + 1]? = some (.cells #[.int .i64 p, .int .i64 l, v7] 74) := (hk _ hlt h.ne).trans h.box
  have hz : (w1.setCell ⟨b1 + 1, 2, none⟩ v8).heap.size = w1.heap.size := by simp [World.setCell]
  have hq : ∀ j, j ≠ b1 + 1 → (w1.setCell ⟨b1 + 1, 2, none⟩ v8).heap[j]? = w1.heap[j]? := fun j hj => heap_setCell_other _ _ _ _ hj
  have hne : v8.ownBlock ≠ some (b1 + 1) := fun e => by
    rcases hn _ e with h1 | h1
    · exact h.ne h1
    · omega
  have hsrc : SrcE w0 w1 B N A c bs := by
    obtain ⟨k, sd, s⟩ := h.src
    have := s.ge
    exact ⟨k, sd, s.ge, s.bel.trans (hb.mono (by omega)), (hb.block B (by omega)).trans s.hp, s.at_le, s.sd0, s.sd1⟩
  have hchg : Chg B (B + 1) w w1 := ⟨hb.os.trans h.chg.os, hb.tape.trans h.chg.tape, hb.output.trans h.chg.output, Nat.le_trans h.chg.size hsz, fun j hj hjn => (hb.block j (by omega)).trans (h.chg.block j hj hjn)⟩
  exact ⟨hsrc.set (by omega) 2 _, hchg.far (by omega) 2 _, OT.eqv (OT.eqv h.own (Eqv.of hb (Nat.le_refl _))) fun j _ h2 => hq j (by omega), heap_setCell_same _ _ 2 _ _ v8 hbox, Own.wide (own_blk ho fun j hj => hq j fun e => hne (e ▸ hj)) (Nat.le_refl _) (by omega), hne, by omega, hge⟩
theorem GrwT.make {w0 w wr : World} {B N c : Nat} {A : Option Addr} {bs : List Int} {v : Value} {ts : List TaskV} (h : GrwT w0 w wr B N A c bs v ts) (hB : B < w.heap.size) (p : Int) :
    TkB w0 w ((wr.alloc (.cells #[] 2)).alloc (.cells #[.int .i64 p, .int .i64 0, .slice (some ⟨wr.heap.size, 0, none⟩) 0 0] 74)) B N A c bs v ts wr.heap.size p 0 (.slice (some ⟨wr.heap.size, 0, none⟩) 0 0) [] := by
  have hb : Below wr.heap.size wr ((wr.alloc (.cells #[] 2)).alloc (.cells #[.int .i64 p, .int .i64 0, .slice (some ⟨wr.heap.size, 0, none⟩) 0 0] 74)) := balloc (ballocw _ _) _
  have hown := Own.of (World.ownsRow_lit (base := wr.heap.size) (e := 2) (size := 1) wr #[] 0 (Nat.le_refl _) (by simp [maxLen]) rfl)
  refine ⟨h.src.below hb, h.chg.trans (Chg.of hb (Nat.le_refl _)), OT.eqv h.own (Eqv.of hb (Nat.le_refl _)), ?_, ?_, by simp [Value.ownBlock], by simp, h.chg.size⟩
  · have := heap_alloc_new (wr.alloc (.cells #[] 2)) (.cells #[.int .i64 p, .int .i64 0, .slice (some ⟨wr.heap.size, 0, none⟩) 0 0] 74)
    rwa [show (wr.alloc (.cells #[] 2)).heap.size = wr.heap.size + 1 by simp] at this
  · have h2 : OwnI (wr.alloc (.cells #[] 2)) wr.heap.size (wr.alloc (.cells #[] 2)).heap.size 2 (.slice (some ⟨wr.heap.size, 0, none⟩) 0 0) [] := by simpa [OwnI, ints] using hown
    exact Own.wide (Own.eqv h2 (Eqv.of (ballocw _ _) (Nat.le_refl _))) (Nat.le_refl _) (by simp)
theorem risN_snoc {xs : List Int} {x lo hi : Int} {k : Nat} (hk : k ≤ xs.length) : risN (xs ++ [x]) lo hi k = risN xs lo hi k := by
  have ea : ∀ j, j < xs.length → el (xs ++ [x]) j = el xs j := fun j hj => by unfold el; rw [List.getD_eq_getElem?_getD, List.getD_eq_getElem?_getD, List.getElem?_append_left hj]
  induction k with
  | zero => rfl
  | succ k ih => simp only [risN]; rw [ih (by omega), ea k (by omega), ea (k - 1) (by omega)]
/-- Numbers below k that rise, one more. -/
theorem ris_next {xs : List Int} {hi k : Int} (h : risN xs 0 hi xs.length = true) (hb : ∀ j, j < xs.length → el xs j < k) (h0 : 0 ≤ k) (h1 : k ≤ hi) :
    risN (xs ++ [k]) 0 hi (xs ++ [k]).length = true ∧ ∀ j, j < (xs ++ [k]).length → el (xs ++ [k]) j < k + 1 := by
  have ea : ∀ j, j < xs.length → el (xs ++ [k]) j = el xs j := fun j hj => by unfold el; rw [List.getD_eq_getElem?_getD, List.getD_eq_getElem?_getD, List.getElem?_append_left hj]
  have el_ : el (xs ++ [k]) xs.length = k := by unfold el; rw [List.getD_eq_getElem?_getD]; simp
  rw [List.length_append, List.length_singleton]
  constructor
  · simp only [risN]
    rw [risN_snoc (Nat.le_refl _), h, el_, inB_iff.2 ⟨h0, h1⟩]
    by_cases e : xs.length = 0
    · simp [e]
    · rw [ea _ (by omega)]
      have := hb (xs.length - 1) (by omega)
      simp [this]
  · intro j hj
    by_cases e : j = xs.length
    · subst e; rw [el_]; omega
    · rw [ea j (by omega)]; have := hb j (by omega); omega
set_option maxRecDepth 100000 in
set_option maxHeartbeats 1000000 in
theorem s_R8Tasks (w : World) (A : Option Addr) (c : Nat) (bs : List Int) (hl : bs.length ≤ 1048576) (hR : RdU w A bs) :
    Calls Try.prog 44 #[.slice A bs.length c] w fun e w' => ∃ v ts, e = .returned v ∧ (tasksB ts = true ∧ tsz ts ≤ 1048576) ∧ OT w' w.heap.size w'.heap.size v ts ∧ Below w.heap.size w w' := by
  have C1 := hid (s_l00From w A c bs)
  have CP := hid (fun W B N n (hN : N ≤ 1073741824) (hn : n ≤ 65536) hS => s_pick w W B N A c bs n hl hN hn hR hS)
  have CO := hid (fun W B N n (hN : N ≤ 1073741824) (hn : n ≤ 65536) hS => s_one w W B N A c bs n hl hN hn hR hS)
  clear hR
  go_enter Try.func44, Try.ntmps44
  go_wp2_with fail
  refine C1.out.mono ?_
  rintro e w1 ⟨rfl, hs1, hz⟩
  have hown := Own.of (World.ownsRow_lit (base := w1.heap.size) (e := 74) (size := 3) w1 #[] 0 (Nat.le_refl _) (by simp [maxLen]) rfl)
  have hlt : w.heap.size < w1.heap.size := hs1.lt
  have HG : Hid (GrwT w w1 (w1.alloc (.cells #[] 74)) w.heap.size 0 A c bs (.slice (some ⟨w1.heap.size, 0, none⟩) 0 0) []) := hid ⟨hs1.below (ballocw _ _), Chg.of (ballocw _ _) (Nat.le_refl _), fun _ => .slice none 0 0, by simpa [tcs] using hown, fun k hk => absurd hk (Nat.not_lt_zero _), fun i j a b _ hj => absurd hj (Nat.not_lt_zero _), fun k a b hk => absurd hk (Nat.not_lt_zero _)⟩
  have C2 := hid (CP.out (w1.alloc (.cells #[] 74)) w.heap.size 0 7 (by omega) (by omega) HG.out.src)
  have HZ := hid hz
  clear hown C1 hs1 hz
  go_wp2_with fail
  refine C2.out.mono ?_
  rintro e w2 ⟨n, rfl, ⟨hn0, hn1, _⟩, hs2, hc2⟩
  have HG2 := hid (HG.out.drew hlt hs2 hc2)
  obtain ⟨n, rfl⟩ : ∃ m : Nat, n = m := ⟨n.toNat, by omega⟩
  have hn8 : n ≤ 6 := by have := hn1 (by omega); omega
  clear HG C2 hs2 hc2 hn1 hn0
  go_wp2_with fail
  go_loopg [4, 6] n (fun gg v s wr => ∃ i : Nat, i ≤ n ∧ n - i ≤ gg ∧ s = .int .i64 i ∧ Aside (∃ ts M, (ts.length = i ∧ tasksN ts ts.length = true ∧ ttot ts ts.length ≤ 8 * i) ∧ M ≤ 2 + 20 * i ∧ GrwT w w1 wr w.heap.size M A c bs v ts))
  case atStart => exact ⟨0, Nat.zero_le _, by omega, rfl, ⟨[], 2, ⟨rfl, rfl, by simp [ttot]⟩, by omega, HG2.out⟩⟩
  case round =>
    obtain ⟨i, hi, hg, rfl, GG⟩ := hrel
    clear HG2
    obtain ⟨ts, M, ⟨hx1, hx2, hx3⟩, hM, hG⟩ := GG.out
    clear GG
    by_cases hlti : i < n
    · have hlti' : (i : Int) < (n : Int) := by omega
      have hC := hid (CP.out wr w.heap.size M 2 (by omega) (by omega) hG.src)
      have HG := hid hG
      clear hG
      go_wp2_with fail
      refine hC.out.mono ?_
      rintro e w3 ⟨x, rfl, ⟨h0, h1, _⟩, hs1, hc1⟩
      have hg3 := HG.out.drew hlt hs1 hc1
      have hT := hg3.make hlt x
      have hC2 := hid (CP.out ((w3.alloc (.cells #[] 2)).alloc (.cells #[.int .i64 x, .int .i64 0, .slice (some ⟨w3.heap.size, 0, none⟩) 0 0] 74)) w.heap.size (M + 2) 3 (by omega) (by omega) hT.src)
      have HT := hid hT
      have hx1' := h1 (by omega)
      clear hC hs1 hc1 hT hg3 HG h1
      go_wp2_with fail
      refine hC2.out.mono ?_
      rintro e w4 ⟨y, rfl, ⟨h2, h3, _⟩, hs1, hc1⟩
      have h3 := h3 (by omega)
      have hT4 := HT.out.drew hlt hs1 hc1
      have kf := frozen_of_row _ _ 1 _ _ hT4.box
      have kc : w4.cell? ⟨w3.heap.size + 1, 1, none⟩ = some (.int .i64 0) := by rw [cell_of_row _ _ _ _ _ _ hT4.box]; rfl
      have HT5 := hid (hT4.lat hlt (1 + y))
      clear HT hT4 hs1 hc1 hC2
      generalize w3.heap.size = b1 at *
      go_wp2_with fail
      go_loopg [8] i (fun gg s wr => ∃ k : Nat, k ≤ i ∧ i - k ≤ gg ∧ s = .int .i64 k ∧ Aside (∃ ns M5 v7, (ns.length ≤ k ∧ risN ns 0 ((i : Int) - 1) ns.length = true ∧ ∀ j, j < ns.length → el ns j < k) ∧ M5 ≤ M + 4 + 2 * k ∧ TkB w w1 wr w.heap.size M5 A c bs u4 ts b1 x (1 + y) v7 ns))
      case atStart => exact ⟨0, Nat.zero_le _, by omega, rfl, [], M + 4, _, ⟨by simp, rfl, fun j hj => absurd hj (Nat.not_lt_zero _)⟩, by omega, HT5.out⟩
      case round =>
        obtain ⟨k, hk, hgk, rfl, TT⟩ := hrel
        clear HT5 kf kc
        obtain ⟨ns, M5, v7, ⟨n1, n2, n3⟩, hM5, hT⟩ := TT.out
        clear TT
        by_cases hlk : k < i
        · have hlk' : (k : Int) < (i : Int) := by omega
          have C5 := hid (CO.out wr w.heap.size M5 3 (by omega) (by omega) hT.src)
          have HT := hid hT
          clear hT
          go_wp2_with fail
          refine C5.out.mono ?_
          rintro e w5 ⟨b, rfl, hs5, hc5⟩
          have hT5 := HT.out.drew hlt hs5 hc5
          clear HT C5 hs5 hc5
          cases b with
          | false =>
            have TT5 : Aside (∃ ns M5 v7, (ns.length ≤ k + 1 ∧ risN ns 0 ((i : Int) - 1) ns.length = true ∧ ∀ j, j < ns.length → el ns j < ((k + 1 : Nat) : Int)) ∧ M5 ≤ M + 4 + 2 * (k + 1) ∧ TkB w w1 w5 w.heap.size M5 A c bs u4 ts b1 x (1 + y) v7 ns) :=
              ⟨ns, M5 + 2, v7, ⟨by omega, n2, fun j hj => by have := n3 j hj; omega⟩, by omega, hT5⟩
            clear hT5 n1 n2 n3
            go_wp2
            go_roundg (i - (k + 1))
            case measure => omega
            case rel => exact ⟨k + 1, by omega, by omega, by go_num, TT5⟩
          | true =>
            have kc2 : w5.cell? ⟨b1 + 1, 2, none⟩ = some v7 := by rw [cell_of_row _ _ _ _ _ _ hT5.box]; rfl
            have HT := hid hT5
            have hz5 := hT5.lt
            obtain ⟨A7, c7, rfl, _, _, _⟩ := Own.int hT5.nd
            have HN := hid (ris_next (k := (k : Int)) n2 n3 (by omega) (by omega))
            have hnl : (ns ++ [(k : Int)]).length ≤ k + 1 := by simp; omega
            clear hT5 n2 n3
            go_wp2_with (at_builtin; refine wp_append1b b1 rfl _ _ 25 2 (.int .i64 0) 8 rfl Try.underlying25 infoInt rfl (.slice A7 ns.length c7) ns (k : Nat) rfl rfl HT.out.nd (by omega) (by omega) (by omega) ?_; intro v8 w8 hown8 hbel8 hkeep8 hnew8; have hT8 := HT.out.app hlt hown8 hbel8 hkeep8 hnew8; have hbox8 := (hkeep8 _ hz5 HT.out.ne).trans HT.out.box; have kf2 : w8.frozen? ⟨b1 + 1, 2, none⟩ = false := frozen_of_row _ _ 2 _ _ hbox8; have kc3 : w8.cell? ⟨b1 + 1, 2, none⟩ = some (.slice A7 ns.length c7) := (by rw [cell_of_row _ _ _ _ _ _ hbox8]; rfl); clear hbox8 hkeep8 hnew8 hbel8; obtain ⟨A8, c8, rfl, _, _, _⟩ := Own.int hown8; clear hown8)
            have TT5 : Aside (∃ ms M5 v7, (ms.length ≤ k + 1 ∧ risN ms 0 ((i : Int) - 1) ms.length = true ∧ ∀ j, j < ms.length → el ms j < ((k + 1 : Nat) : Int)) ∧ M5 ≤ M + 4 + 2 * (k + 1) ∧ TkB w w1 (w8.setCell ⟨b1 + 1, 2, none⟩ (.slice A8 (ns ++ [(k : Int)]).length c8)) w.heap.size M5 A c bs u4 ts b1 x (1 + y) v7 ms) :=
              ⟨_, M5 + 2, _, ⟨hnl, HN.out.1, fun j hj => by have := HN.out.2 j hj; omega⟩, by omega, hT8⟩
            rw [show (ns ++ [(k : Int)]).length = ns.length + 1 by simp] at TT5
            clear HT hT8 kc2 HN hnl
            go_wp2
            go_roundg (i - (k + 1))
            case measure => omega
            case rel => exact ⟨k + 1, by omega, by omega, by go_num, TT5⟩
        · have hki : k = i := by omega
          subst hki
          have hlk' : ¬ (k : Int) < (k : Int) := by omega
          have HT := hid hT
          have hz5 := hT.lt
          have hge5 := hT.ge
          obtain ⟨A7, c7, rfl, _, _, _⟩ := Own.int hT.nd
          have q0 : wr.cell? ⟨b1 + 1, 0, none⟩ = some (.int .i64 x) := by rw [cell_of_row _ _ _ _ _ _ hT.box]; rfl
          have q1 : wr.cell? ⟨b1 + 1, 1, none⟩ = some (.int .i64 (1 + y)) := by rw [cell_of_row _ _ _ _ _ _ hT.box]; rfl
          have q2 : wr.cell? ⟨b1 + 1, 2, none⟩ = some (.slice A7 ns.length c7) := by rw [cell_of_row _ _ _ _ _ _ hT.box]; rfl
          have HTB : Hid (taskB ts.length ⟨x, 1 + y, ns⟩ = true) := hid (by
            unfold taskB
            rw [hx1, n2, inB_iff.2 ⟨by show (0 : Int) ≤ x; omega, by show x ≤ (2 : Int); omega⟩, inB_iff.2 ⟨by show (1 : Int) ≤ 1 + y; omega, by show 1 + y ≤ (6 : Int); omega⟩]; rfl)
          clear hT n2 n3
          go_wp2_with (at_builtin; refine wp_appendT w1.heap.size b1 rfl _ _ rfl u4 ts x (1 + y) A7 c7 ns rfl rfl HT.out.own HT.out.nd (by omega) (by omega) (by omega) ?_; intro v8 w8 hown8 hbel8)
          have hg8 := GrwT.app HT.out.src HT.out.chg hlt hbel8 hown8
          have GG : Aside (∃ ts M, (ts.length = k + 1 ∧ tasksN ts ts.length = true ∧ ttot ts ts.length ≤ 8 * (k + 1)) ∧ M ≤ 2 + 20 * (k + 1) ∧ GrwT w w1 w8 w.heap.size M A c bs v8 ts) :=
            ⟨_, M5, ⟨by simp [hx1], by rw [tasksN_next, hx2, HTB.out]; rfl, by rw [ttot_next]; show _ + ns.length ≤ _; omega⟩, by omega, hg8⟩
          clear HT hown8 hbel8 hg8 HTB q0 q1 q2
          go_wp2
          go_roundg (n - (k + 1))
          case measure => omega
          case rel => exact ⟨k + 1, by omega, by omega, by go_num, GG⟩
    · have hin : i = n := by omega
      subst hin
      have hlti' : ¬ (i : Int) < (i : Int) := by omega
      have HX : Hid (tasksB ts = true ∧ tsz ts ≤ 1048576) := hid ⟨by unfold tasksB; rw [hx2, decide_eq_true (by omega)]; rfl, by unfold tsz; omega⟩
      have HG := hid hG
      clear hG hx2 hx3 CP CO
      go_wp2
      go_ret
      exact ⟨_, rfl, ts, HX.out, OT.wide HG.out.own (by have := HZ.out; omega) (Nat.le_refl _), HG.out.src.bel'⟩
end Go.Proofs.Ytjcpjmijhloimaa
