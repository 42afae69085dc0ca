import Derived.Test.YtmpdaafkphpnoaaGreatMach
import Derived.Test.YtmpdaafkphpnoaaGreatLawO
import Derived.Test.YtmpdaafkphpnoaaGreatCalm
import Derived.Test.YtmpdaafkphpnoaaGreatSz
import Derived.Test.YtmpdaafkphpnoaaGreatRange
set_option linter.unusedVariables false
set_option linter.unusedSimpArgs false
namespace Go.Proofs.YtmpdaafkphpnoaaGreat
open Go.RowKit

/-! ### Statements: an operation and three cells -/
structure SmV where
  o : Int
  d : Int
  a : Int
  b : Int
deriving DecidableEq
instance : Inhabited SmV := ⟨⟨0, 0, 0, 0⟩⟩
def sel (xs : List SmV) (k : Nat) : SmV := xs.getD k default
theorem sel_get {xs : List SmV} {k : Nat} (h : k < xs.length) : xs[k]? = some (sel xs k) := by
  unfold sel; rw [List.getD_eq_getElem?_getD, List.getElem?_eq_getElem h]; simp
theorem sel_mem {xs : List SmV} {k : Nat} (h : k < xs.length) : sel xs k ∈ xs := List.mem_of_getElem? (sel_get h)
theorem sel_drop {xs : List SmV} {k : Nat} (h : k < xs.length) : xs.drop k = sel xs k :: xs.drop (k + 1) := by
  rw [List.drop_eq_getElem_cons h]; congr 1; have := sel_get h; rw [List.getElem?_eq_getElem h] at this; exact Option.some.inj this
theorem sel_take {xs : List SmV} {k : Nat} (h : k < xs.length) : xs.take (k + 1) = xs.take k ++ [sel xs k] := by
  rw [List.take_add_one, sel_get h]; rfl
theorem sel_ext {xs ys : List SmV} (h : xs.length = ys.length) (he : ∀ k, k < xs.length → sel xs k = sel ys k) : xs = ys := by
  apply List.ext_getElem? ; intro k
  by_cases hk : k < xs.length
  · rw [sel_get hk, sel_get (by omega), he k hk]
  · rw [List.getElem?_eq_none (by omega), List.getElem?_eq_none (by omega)]
abbrev sv (x : SmV) : Value := .agg #[.int .i64 x.o, .int .i64 x.d, .int .i64 x.a, .int .i64 x.b]
abbrev scs (x : SmV) : Array Value := #[.int .i64 x.o, .int .i64 x.d, .int .i64 x.a, .int .i64 x.b]
/-- The statement at off in block b. -/
structure SAt (w : World) (b off : Nat) (x : SmV) : Prop where
  o : w.cell? ⟨b, off, none⟩ = some (.int .i64 x.o)
  d : w.cell? ⟨b, off + 1, none⟩ = some (.int .i64 x.d)
  a : w.cell? ⟨b, off + 2, none⟩ = some (.int .i64 x.a)
  b : w.cell? ⟨b, off + 3, none⟩ = some (.int .i64 x.b)
theorem SAt.below {w W : World} {b off : Nat} {x : SmV} (h : SAt w b off x) (hb : Below w.heap.size w W) : SAt W b off x := ⟨bcell hb h.o, bcell hb h.d, bcell hb h.a, bcell hb h.b⟩
/-- The slice at A reads as the statements xs. -/
def RdC (w : World) (A : Option Addr) (xs : List SmV) : Prop := ∀ k, k < xs.length → ∃ b off, A = some ⟨b, off, none⟩ ∧ SAt w b (off + k * 4) (sel xs k)
theorem RdC.below {w W : World} {A : Option Addr} {xs : List SmV} (h : RdC w A xs) (hb : Below w.heap.size w W) : RdC W A xs := fun k hk => by
  obtain ⟨b, off, e, h0⟩ := h k hk
  exact ⟨b, off, e, h0.below hb⟩
theorem RdC.get {w : World} {A : Option Addr} {xs : List SmV} (h : RdC w A xs) {k : Nat} (hk : k < xs.length) : ∃ b off, A = some ⟨b, off, none⟩ ∧ SAt w b (off + k * 4) (sel xs k) := h k hk
/-- .. with its block and offset told once. -/
theorem RdC.at {w : World} {A : Option Addr} {xs : List SmV} (h : RdC w A xs) (hn : 0 < xs.length) : ∃ b off, A = some ⟨b, off, none⟩ ∧ ∀ k, k < xs.length → SAt w b (off + k * 4) (sel xs k) := by
  obtain ⟨b, off, rfl, _⟩ := h 0 hn
  refine ⟨b, off, rfl, fun k hk => ?_⟩
  obtain ⟨b', off', e, h1⟩ := h k hk
  cases e; exact h1
def eqS (x y : SmV) : Bool := x.o == y.o && (x.d == y.d && (x.a == y.a && x.b == y.b))
theorem eqS_eq (x y : SmV) : eqS x y = decide (x = y) := by
  obtain ⟨o, d, a, b⟩ := x; obtain ⟨o', d', a', b'⟩ := y
  unfold eqS; rw [Bool.eq_iff_iff]; simp
theorem l_toStmt (w : World) (x : SmV) : Calls Tryz.prog 81 #[sv x] w fun e w' => e = .returned (sv x) ∧ Below w.heap.size w w' := by
  obtain ⟨o, d, a, b⟩ := x
  go_enter Tryz.func81, Tryz.ntmps81
  go_wp2
  refine bodyPost_ret (results_cell_row rfl _ _ (w.heap.size + 1) 109 #[.int .i64 o, .int .i64 d, .int .i64 a, .int .i64 b] (0, 0) _ rfl (blk0 _ _ _ _) Tryz.underlying109 rfl (by kernel_rfl)) rfl ?_
  exact ⟨rfl, machine3 _ _ _ _⟩
theorem l_szStmtSO (w : World) (A : Option Addr) (c : Nat) (xs : List SmV) (left : Int) (hl : xs.length ≤ 9223372036854775807) (h0 : 0 ≤ left) (h1 : left ≤ 1048576) (hR : RdC w A xs) :
    Calls Tryz.prog 23 #[.slice A xs.length c, .int .i64 left] w fun e w' => e = .returned (.int .i64 (szR left xs.length)) ∧ Below w.heap.size w w' := by
  unfold szR
  clear hR
  by_cases h : left < xs.length
  · have h' : left - xs.length < 0 := by omega
    go_enter Tryz.func23, Tryz.ntmps23
    go_wp2
    go_ret
    exact ⟨ret_i (by simp [h]), Below.refl _ _⟩
  · have h' : ¬ left - xs.length < 0 := by omega
    go_enter Tryz.func23, Tryz.ntmps23
    go_wp2
    go_ret
    exact ⟨ret_i (by simp [h]), Below.refl _ _⟩

theorem l_eqStmt (w : World) (x y : SmV) : Calls Tryz.prog 86 #[sv x, sv y] w fun e w' => e = .returned (.bool (eqS x y)) ∧ Below w.heap.size w w' := by
  obtain ⟨o, d, a, b⟩ := x; obtain ⟨o', d', a', b'⟩ := y
  unfold eqS
  by_cases h0 : o = o'
  · subst h0
    by_cases h1 : d = d'
    · subst h1
      by_cases h2 : a = a'
      · subst h2
        by_cases h3 : b = b'
        · subst h3
          go_enter Tryz.func86, Tryz.ntmps86
          go_wp2
          go_ret
          exact ⟨ret_b (by simp []), balloc (ballocw _ _) _⟩
        · have hn : (b != b') = true := by simpa using h3
          go_enter Tryz.func86, Tryz.ntmps86
          go_wp2
          go_ret
          exact ⟨ret_b (by simp [h3]), balloc (ballocw _ _) _⟩
      · have hn : (a != a') = true := by simpa using h2
        go_enter Tryz.func86, Tryz.ntmps86
        go_wp2
        go_ret
        exact ⟨ret_b (by simp [h2]), balloc (ballocw _ _) _⟩
    · have hn : (d != d') = true := by simpa using h1
      go_enter Tryz.func86, Tryz.ntmps86
      go_wp2
      go_ret
      exact ⟨ret_b (by simp [h1]), balloc (ballocw _ _) _⟩
  · have hn : (o != o') = true := by simpa using h0
    go_enter Tryz.func86, Tryz.ntmps86
    go_wp2
    go_ret
    exact ⟨ret_b (by simp [h0]), balloc (ballocw _ _) _⟩
set_option maxRecDepth 100000 in
theorem l_eqStmtS (w : World) (A B : Option Addr) (c d : Nat) (xs ys : List SmV) (hl : xs.length ≤ 9223372036854775807) (hl' : ys.length ≤ 9223372036854775807) (hA : RdC w A xs) (hB : RdC w B ys) :
    Calls Tryz.prog 30 #[.slice A xs.length c, .slice B ys.length d] w fun e w' => e = .returned (.bool (decide (xs = ys))) ∧ Below w.heap.size w w' := by
  by_cases hlen : xs.length = ys.length
  · have hne : ((xs.length : Int) != (ys.length : Int)) = false := by simp [hlen]
    have HL := hid hlen
    clear hlen
    go_enter Tryz.func30, Tryz.ntmps30
    go_wp2
    go_loopg [5] xs.length (fun gg s wr => ∃ k : Nat, k ≤ xs.length ∧ xs.length - k ≤ gg ∧ s = .int .i64 k ∧ Aside (Below w.heap.size w wr) ∧ Aside (∀ j, j < k → sel xs j = sel ys j))
    case atStart => exact ⟨0, Nat.zero_le _, by omega, rfl, Below.refl _ _, fun j hj => absurd hj (Nat.not_lt_zero _)⟩
    case round =>
      obtain ⟨k, hk, hg, rfl, BW, EQ⟩ := hrel
      by_cases hlt : k < xs.length
      · obtain ⟨b, off, rfl, g1⟩ := (hA.below BW.out).get hlt
        obtain ⟨b', off', rfl, g2⟩ := (hB.below BW.out).get (k := k) (by have := HL.out; omega)
        obtain ⟨e1, e2, e3, e4⟩ := g1
        obtain ⟨i1, i2, i3, i4⟩ := g2
        have hlt' : (k : Int) < (ys.length : Int) := by have := HL.out; omega
        have hq := fun W => l_eqStmt W (sel xs k) (sel ys k)
        rw [eqS_eq] at hq
        clear hA hB
        by_cases hx : sel xs k = sel ys k
        · have hx' : decide (sel xs k = sel ys k) = true := by simpa using hx
          rw [hx'] at hq
          have NX : Aside (∀ j, j < k + 1 → sel xs j = sel ys j) := fun j hj => by
            by_cases e : j = k
            · subst e; exact hx
            · exact EQ.out j (by omega)
          have HQ := hid hq
          clear hx hx' hq EQ
          generalize sel xs k = x at e1 e2 e3 e4 HQ
          generalize sel ys k = y at i1 i2 i3 i4 HQ
          obtain ⟨xo, xd, xa, xb⟩ := x
          obtain ⟨yo, yd, ya, yb⟩ := y
          have e1 := lcell e1
          have e2 := lcell e2
          have e3 := lcell e3
          have e4 := lcell e4
          have i1 := lcell i1
          have i2 := lcell i2
          have i3 := lcell i3
          have i4 := lcell i4
          go_wp2
          refine wp_region_calm (by kernel_rfl) (by kernel_rfl) ?_
          repeat (go_big_quiet_step (exact calm_of (HQ.out _)))
          refine wpQuiet_nil ?_
          intro _ hw'
          obtain ⟨xq, hw''⟩ := hw'
          subst hw''
          have BW3 := bthen BW.out xq.below
          go_wp2_with fail
          go_roundg (xs.length - (k + 1))
          case measure => omega
          case rel => exact ⟨k + 1, by omega, by omega, by go_num, BW3, NX⟩
        · have hx' : decide (sel xs k = sel ys k) = false := by simpa using hx
          rw [hx'] at hq
          have hne' : decide (xs = ys) = false := by simp; rintro rfl; exact hx rfl
          have HN := hid hne'
          have HQ := hid hq
          clear hx hx' hne' hq EQ
          generalize sel xs k = x at e1 e2 e3 e4 HQ
          generalize sel ys k = y at i1 i2 i3 i4 HQ
          obtain ⟨xo, xd, xa, xb⟩ := x
          obtain ⟨yo, yd, ya, yb⟩ := y
          have e1 := lcell e1
          have e2 := lcell e2
          have e3 := lcell e3
          have e4 := lcell e4
          have i1 := lcell i1
          have i2 := lcell i2
          have i3 := lcell i3
          have i4 := lcell i4
          go_wp2
          refine wp_region_calm (by kernel_rfl) (by kernel_rfl) ?_
          repeat (go_big_quiet_step (exact calm_of (HQ.out _)))
          refine wpQuiet_nil ?_
          intro _ hw'
          obtain ⟨xq, hw''⟩ := hw'
          subst hw''
          have BW3 := bthen BW.out xq.below
          go_wp2_with fail
          go_ret
          exact ⟨by rw [HN.out]; rfl, BW3⟩
      · have : k = xs.length := by omega
        subst this
        have he : xs = ys := sel_ext HL.out (fun k hk => EQ.out k hk)
        have HE : Aside (decide (xs = ys) = true) := by simp [Aside, he]
        clear he
        go_wp2
        go_ret
        exact ⟨by rw [HE.out]; rfl, BW.out⟩
  · have hne : ((xs.length : Int) != (ys.length : Int)) = true := by simp; omega
    have hn : decide (xs = ys) = false := by simp; rintro rfl; exact hlen rfl
    have HN := hid hn
    clear hn hlen
    go_enter Tryz.func30, Tryz.ntmps30
    go_wp2
    go_ret
    exact ⟨by rw [HN.out]; rfl, Below.refl _ _⟩
def sfl (xs : List SmV) : List Int := xs.flatMap fun p => [p.o, p.d, p.a, p.b]
theorem sfl_length (xs : List SmV) : (sfl xs).length = xs.length * 4 := by induction xs with | nil => rfl | cons a t ih => simp [sfl, List.flatMap_cons] at ih ⊢; omega
theorem sfl_append (xs ys : List SmV) : sfl (xs ++ ys) = sfl xs ++ sfl ys := by simp [sfl]
theorem sfl_get {xs : List SmV} {k : Nat} (h : k < xs.length) : (sfl xs)[k * 4]? = some (sel xs k).o ∧ (sfl xs)[k * 4 + 1]? = some (sel xs k).d ∧ (sfl xs)[k * 4 + 2]? = some (sel xs k).a ∧ (sfl xs)[k * 4 + 3]? = some (sel xs k).b := by
  have e : xs = xs.take k ++ (sel xs k :: xs.drop (k + 1)) := by rw [← sel_drop h, List.take_append_drop]
  have hl : (sfl (xs.take k)).length = k * 4 := by rw [sfl_length]; simp; omega
  have e2 : sfl xs = sfl (xs.take k) ++ ((sel xs k).o :: (sel xs k).d :: (sel xs k).a :: (sel xs k).b :: sfl (xs.drop (k + 1))) := by
    conv => lhs; rw [e]
    rw [sfl_append]; simp [sfl]
  rw [e2, List.getElem?_append_right (by omega), List.getElem?_append_right (by omega), List.getElem?_append_right (by omega), List.getElem?_append_right (by omega), hl]
  simp
theorem scopy_step {xs : List SmV} {k : Nat} (h : k < xs.length) :
    ((((sfl (xs.take k) ++ List.replicate ((xs.length - k) * 4) 0).set (k * 4) (sel xs k).o).set (k * 4 + 1) (sel xs k).d).set (k * 4 + 2) (sel xs k).a).set (k * 4 + 3) (sel xs k).b = sfl (xs.take (k + 1)) ++ List.replicate ((xs.length - (k + 1)) * 4) 0 := by
  have hl : (sfl (xs.take k)).length = k * 4 := by rw [sfl_length]; simp; omega
  obtain ⟨m, hm⟩ : ∃ m, xs.length - k = m + 1 := ⟨xs.length - k - 1, by omega⟩
  rw [sel_take h, sfl_append, hm, show xs.length - (k + 1) = m from by omega, show (m + 1) * 4 = m * 4 + 1 + 1 + 1 + 1 from by omega, List.replicate_succ, List.replicate_succ, List.replicate_succ, List.replicate_succ,
    List.set_append_right _ _ (by omega), List.set_append_right _ _ (by omega), List.set_append_right _ _ (by omega), List.set_append_right _ _ (by omega), hl]
  simp [sfl]
theorem toList_made4 (z : Value) (n : Nat) : (madeCells #[z, z, z, z] n).toList = List.replicate n z := by
  apply List.ext_getElem?
  intro k
  by_cases hk : k < n
  · rcases (show k % 4 = 0 ∨ k % 4 = 1 ∨ k % 4 = 2 ∨ k % 4 = 3 by omega) with h | h | h | h <;> simp [madeCells, hk, h]
  · simp [madeCells, hk]
theorem makeStmt (n : Nat) (hn : n ≤ 1048576) (W : World) : (Instr.makeSlice 56 (.int .i64 (n : Int)) (.int .i64 (n : Int))).run Tryz.prog W = .ok (.slice (some ⟨W.heap.size, 0, none⟩) n n) (W.alloc (.cells (madeCells #[.int .i64 0, .int .i64 0, .int .i64 0, .int .i64 0] (n * 4)) 109)) := by
  have hi : (Tryz.prog.info? 109).map (fun i => (i.zero, i.size, i.bytes)) = some (some (.agg #[.int .i64 0, .int .i64 0, .int .i64 0, .int .i64 0]), 4, 32) := by kernel_rfl
  obtain ⟨i, hi, hzz⟩ := Option.map_eq_some_iff.1 hi
  simp only [Prod.mk.injEq] at hzz
  obtain ⟨hz, hs, hb⟩ := hzz
  have := run_make (P := Tryz.prog) W 56 109 i _ Tryz.underlying56 hi hz .i64 .i64 (n : Int) (n : Int) (by omega) (by omega) (by rw [hb]; omega) (by omega)
  rw [hs] at this
  simpa [Value.cells] using this
theorem own_made4 (w : World) (e : TypeId) (n : Nat) (hn : n ≤ 1048576) :
    Own (w.alloc (.cells (madeCells #[.int .i64 0, .int .i64 0, .int .i64 0, .int .i64 0] (n * 4)) e)) w.heap.size (w.heap.size + 1) e 4 (.slice (some ⟨w.heap.size, 0, none⟩) n n) n (ints (List.replicate (n * 4) 0)) := by
  refine ⟨?_, by simp [Value.ownBlock]⟩
  have := World.ownsRow_lit (base := w.heap.size) (e := e) (size := 4) w (madeCells #[.int .i64 0, .int .i64 0, .int .i64 0, .int .i64 0] (n * 4)) n (Nat.le_refl _) (by simp [maxLen]; omega) (by simp [size_madeCells])
  rwa [toList_made4, ints_replicate] at this
/-- Statements of the call's own. -/
def OC (w : World) (lo hi : Nat) (v : Value) (xs : List SmV) : Prop := Own w lo hi 109 4 v xs.length (ints (sfl xs))
theorem OC.eqv {w w' : World} {lo hi : Nat} {v : Value} {xs : List SmV} (h : OC w lo hi v xs) (hq : Eqv lo hi w w') : OC w' lo hi v xs := Own.eqv h hq
theorem OC.shp {w : World} {lo hi : Nat} {v : Value} {xs : List SmV} (h : OC w lo hi v xs) : ∃ A c, v = .slice A xs.length c ∧ xs.length ≤ c ∧ c ≤ 9223372036854775807 ∧ RdC w A xs := by
  obtain ⟨A, c, rfl, h1, h2, h3⟩ := Own.shape h
  refine ⟨A, c, rfl, h1, h2, fun k hk => ?_⟩
  rcases h3 with ⟨_, h0⟩ | ⟨g, rfl, _, _, hc, _⟩
  · omega
  · have hg := sfl_get hk
    have q : ∀ (j : Nat) (z : Int), (sfl xs)[j]? = some z → w.cell? ⟨g, 0 + j, none⟩ = some (.int .i64 z) := fun j z hz => by
      simpa using hc j (.int .i64 z) (by unfold ints; rw [List.getElem?_map, hz]; rfl)
    exact ⟨g, 0, rfl, q _ _ hg.1, q _ _ hg.2.1, q _ _ hg.2.2.1, q _ _ hg.2.2.2⟩
theorem OC.rd {w : World} {lo hi c : Nat} {A : Option Addr} {xs : List SmV} (h : OC w lo hi (.slice A xs.length c) xs) : RdC w A xs := by
  obtain ⟨A', c', e, _, _, hr⟩ := h.shp; cases e; exact hr
set_option maxRecDepth 100000 in
theorem l_toStmtSO (w : World) (A : Option Addr) (c : Nat) (xs : List SmV) (hl : xs.length ≤ 1048576) (hR : RdC w A xs) :
    Calls Tryz.prog 27 #[.slice A xs.length c] w fun e w' => ∃ v, e = .returned v ∧ OC w' w.heap.size w'.heap.size v xs ∧ Below w.heap.size w w' := by
  have hmk := makeStmt xs.length hl
  go_enter Tryz.func27, Tryz.ntmps27
  go_wp2_with fail
  clear hmk
  go_loopg [4] xs.length (fun gg s wr => ∃ k : Nat, k ≤ xs.length ∧ xs.length - k ≤ gg ∧ s = .int .i64 k ∧ Aside (Below w.heap.size w wr) ∧
    Aside (w.heap.size + 1 ≤ wr.heap.size ∧ Own wr w.heap.size (w.heap.size + 1) 109 4 (.slice (some ⟨w.heap.size, 0, none⟩) xs.length xs.length) xs.length (ints (sfl (xs.take k) ++ List.replicate ((xs.length - k) * 4) 0))))
  case atStart => exact ⟨0, Nat.zero_le _, by omega, rfl, ballocw w _, by unfold Aside; exact ⟨by simp, by simpa [sfl] using own_made4 w 109 xs.length hl⟩⟩
  case round =>
    obtain ⟨k, hk, hg, rfl, BW, OW⟩ := hrel
    by_cases hlt : k < xs.length
    · obtain ⟨b, off, rfl, g1⟩ := hR.below BW.out k hlt
      obtain ⟨e1, e2, e3, e4⟩ := g1
      have hto := fun W => l_toStmt W (sel xs k)
      have hst := scopy_step hlt
      clear hR
      generalize sel xs k = x at *
      obtain ⟨xo, xd, xa, xb⟩ := x
      go_wp2_with fail
      refine (hto _).mono ?_
      rintro e w1 ⟨rfl, hb1⟩
      clear hto e1 e2 e3 e4
      have OW1 : Own w1 _ _ _ _ _ _ _ := OW.out.2.eqv (Eqv.of hb1 OW.out.1)
      obtain ⟨A', c', e', _, _, hs⟩ := OW1.shape
      obtain ⟨rfl, rfl⟩ : A' = some ⟨w.heap.size, 0, none⟩ ∧ c' = xs.length := by cases e'; exact ⟨rfl, rfl⟩
      rcases hs with ⟨h0, _⟩ | ⟨g, hg', _, _, hcells, hfr⟩
      · cases h0
      obtain rfl : g = w.heap.size := by cases hg'; rfl
      have hll : (sfl (xs.take k) ++ List.replicate ((xs.length - k) * 4) 0).length = xs.length * 4 := by simp [sfl_length]; omega
      have hck := hcells (k * 4) _ (ints_get (by omega))
      have hck1 := hcells (k * 4 + 1) _ (ints_get (by omega))
      have hck2 := hcells (k * 4 + 2) _ (ints_get (by omega))
      have hck3 := hcells (k * 4 + 3) _ (ints_get (by omega))
      have hfk := hfr (k * 4)
      have hfk1 := hfr (k * 4 + 1)
      have hfk2 := hfr (k * 4 + 2)
      have hfk3 := hfr (k * 4 + 3)
      have hle := Nat.le_trans OW.out.1 hb1.size
      have OW' : Aside (w.heap.size + 1 ≤ ((((w1.setCell ⟨w.heap.size, k * 4, none⟩ (.int .i64 xo)).setCell ⟨w.heap.size, k * 4 + 1, none⟩ (.int .i64 xd)).setCell ⟨w.heap.size, k * 4 + 2, none⟩ (.int .i64 xa)).setCell ⟨w.heap.size, k * 4 + 3, none⟩ (.int .i64 xb)).heap.size ∧
          Own ((((w1.setCell ⟨w.heap.size, k * 4, none⟩ (.int .i64 xo)).setCell ⟨w.heap.size, k * 4 + 1, none⟩ (.int .i64 xd)).setCell ⟨w.heap.size, k * 4 + 2, none⟩ (.int .i64 xa)).setCell ⟨w.heap.size, k * 4 + 3, none⟩ (.int .i64 xb)) w.heap.size (w.heap.size + 1) 109 4 (.slice (some ⟨w.heap.size, 0, none⟩) xs.length xs.length) xs.length (ints (sfl (xs.take (k + 1)) ++ List.replicate ((xs.length - (k + 1)) * 4) 0))) := by
        have := (((OW1.set (k * 4) (.int .i64 xo)).set (k * 4 + 1) (.int .i64 xd)).set (k * 4 + 2) (.int .i64 xa)).set (k * 4 + 3) (.int .i64 xb); rw [ints_set, ints_set, ints_set, ints_set, hst] at this; exact ⟨by simpa [World.setCell] using hle, this⟩
      have BW' : Aside (Below w.heap.size w ((((w1.setCell ⟨w.heap.size, k * 4, none⟩ (.int .i64 xo)).setCell ⟨w.heap.size, k * 4 + 1, none⟩ (.int .i64 xd)).setCell ⟨w.heap.size, k * 4 + 2, none⟩ (.int .i64 xa)).setCell ⟨w.heap.size, k * 4 + 3, none⟩ (.int .i64 xb))) := bset (bset (bset (bset (bthen BW.out hb1) (Nat.le_refl _) _) (Nat.le_refl _) _) (Nat.le_refl _) _) (Nat.le_refl _) _
      clear hll e' hg' hcells hfr OW1 OW BW hle hst
      go_wp2_with fail
      go_roundg (xs.length - (k + 1))
      case measure => omega
      case rel => exact ⟨k + 1, by omega, by omega, by go_num, BW', OW'⟩
    · have : k = xs.length := by omega
      subst this
      go_wp2
      go_ret
      refine ⟨_, rfl, ?_, BW.out⟩
      have hlt := OW.out.1
      have := OW.out.2
      simp only [List.take_length, Nat.sub_self, Nat.zero_mul, List.replicate_zero, List.append_nil] at this
      exact Own.wide this (Nat.le_refl _) hlt
theorem l_eqStmtSO (w : World) (lo hi lo' hi' : Nat) (v v' : Value) (xs ys : List SmV) (hl : xs.length ≤ 1048576) (hl' : ys.length ≤ 1048576) (h : OC w lo hi v xs) (h' : OC w lo' hi' v' ys) :
    Calls Tryz.prog 30 #[v, v'] w fun e w' => e = .returned (.bool (decide (xs = ys))) ∧ Below w.heap.size w w' := by
  obtain ⟨A, c, rfl, _, _, hr⟩ := h.shp
  obtain ⟨A', c', rfl, _, _, hr'⟩ := h'.shp
  exact l_eqStmtS w A A' c c' xs ys (by omega) (by omega) hr hr'
end Go.Proofs.YtmpdaafkphpnoaaGreat
