import Derived.Test.YtolcmehndambmaaRtn4
set_option linter.unusedVariables false
set_option linter.unusedSimpArgs false
namespace Go.Proofs.Ytolcmehndambmaa
open Go.RowKit

structure RtS (W : World) (A Ac : Option Addr) (c cc n h : Nat) (g cm : List Int) (b0 bc bh : Nat) : Prop where
  kg : W.cell? ⟨b0, 0, none⟩ = some (.slice A n c)
  kc : W.cell? ⟨bc, 0, none⟩ = some (.slice Ac n cc)
  kh : W.cell? ⟨bh, 0, none⟩ = some (.int .i64 h)
  rg : RdI W A g
  rc : RdI W Ac cm
theorem RtS.below {W W' : World} {A Ac : Option Addr} {c cc n h : Nat} {g cm : List Int} {b0 bc bh : Nat} (s : RtS W A Ac c cc n h g cm b0 bc bh) (hb : Below W.heap.size W W') : RtS W' A Ac c cc n h g cm b0 bc bh :=
  ⟨bcell hb s.kg, bcell hb s.kc, bcell hb s.kh, s.rg.below hb, s.rc.below hb⟩
def catT (a b : List (List Int)) (k : Nat) : List (List Int) := (List.range k).map fun s => rw_ a s ++ rw_ b s
theorem catT_succ (a b : List (List Int)) (k : Nat) : catT a b (k + 1) = catT a b k ++ [rw_ a k ++ rw_ b k] := by unfold catT; rw [List.range_succ, List.map_append]; rfl
theorem catT_all (a b : List (List Int)) : cat2 a b = catT a b a.length := rfl
theorem OR.rdn {w : World} {lo hi n c : Nat} {A : Option Addr} {xss : List (List Int)} (h : OR w lo hi (.slice A n c) xss) : RdR w A xss := by
  obtain ⟨A', c', e, _, _, hr⟩ := h.shp; cases e; exact hr
theorem RdR.twon {w : World} {A B : Option Addr} {c d q : Nat} {xs ys : List Int} (hx : xs.length = q) (hy : ys.length = q) (hc : q ≤ c) (hd : q ≤ d) (h1 : RdI w A xs) (h2 : RdI w B ys) :
    RdR (w.alloc (.cells #[.slice A q c, .slice B q d] 29)) (some ⟨w.heap.size, 0, none⟩) [xs, ys] := by
  have := RdR.two (w := w) (A := A) (B := B) (c := c) (d := d) (by rw [hx]; exact hc) (by rw [hy]; exact hd) h1 h2
  rw [hx, hy] at this; exact this
theorem wp_appendRn {ops : Array Oper} {rest : List Oper} {o : Oper} {a : Act} {Q : Exit → Act → World → Prop} {W : World} (lo B : Nat) (hgd : o.guard = none) (s x : Operand)
    (ho : o.op = .call { callee := .builtin .append, args := #[s, x], argTypes := #[35, 35] })
    (v : Value) (yss : List (List Int)) (A : Option Addr) (c n : Nat) (row : List Int) (hn : row.length = n) (hs : a.eval s = v) (hx : a.eval x = .slice (some ⟨W.heap.size, 0, none⟩) 1 1)
    (HO : OR W lo B v yss) (HU : OI W B W.heap.size (.slice A n c) row) (hlo : lo ≤ B) (hB : B ≤ W.heap.size) (hl : yss.length + 1 ≤ 1048576)
    (h : ∀ v1 w1, OR w1 lo w1.heap.size v1 (yss ++ [row]) → Below lo W w1 → wpList Try.prog ops Q rest (a.put o.dst v1) w1) :
    wpList Try.prog ops Q (o :: rest) a (W.alloc (.cells #[.slice A n c] 29)) := by
  subst hn
  exact wp_appendR lo B hgd s x ho v yss A c row hs hx HO HU hlo hB hl h
/-- Pieces of contracts with the count that the caller knows. -/
theorem g_CloneN (h : Nat) (hh : h ≤ 8) (W : World) (A : Option Addr) (c : Nat) (xs : List Int) (hl : xs.length = h) (hr : RdI W A xs) :
    Calls Try.prog 75 #[.slice A h c] W fun e w' => ∃ A' c', e = .returned (.slice A' h c') ∧ OI w' W.heap.size w'.heap.size (.slice A' h c') xs ∧ Below W.heap.size W w' := by
  subst hl
  refine (g_Clone W A c xs (by omega) hr).mono fun e w' hq => ?_
  obtain ⟨v, rfl, ho, hb⟩ := hq
  obtain ⟨A', c', rfl, _, _, _⟩ := Own.int ho
  exact ⟨A', c', rfl, ho, hb⟩
theorem g_Concat2 (W : World) (A : Option Addr) (c n : Nat) (xs ys : List Int) (hn : xs.length + ys.length = n) (hn8 : n ≤ 16) (hr : RdR W A [xs, ys]) :
    Calls Try.prog 131 #[.slice A 2 c] W fun e w' => ∃ A' c', e = .returned (.slice A' n c') ∧ OI w' W.heap.size w'.heap.size (.slice A' n c') (xs ++ ys) ∧ Below W.heap.size W w' := by
  have e : [xs, ys].flatten = xs ++ ys := by simp
  have hc := g_Concat W A c [xs, ys] (by simp) (by rw [e, List.length_append]; omega) hr
  rw [e] at hc
  refine hc.mono fun e w' hq => ?_
  obtain ⟨v, rfl, ho, hb⟩ := hq
  obtain ⟨A', c', rfl, _, _, _⟩ := Own.int ho
  have el : (xs ++ ys).length = n := by rw [List.length_append, hn]
  rw [el] at ho ⊢
  exact ⟨A', c', rfl, ho, hb⟩
/-- An array of two cells. -/
structure AR (b : Nat) (f : Nat → Value) (W : World) : Prop where
  at_ : ∀ j, j < 2 → W.cell? ⟨b, j, none⟩ = some (f j)
  fr : ∀ j, W.frozen? ⟨b, j, none⟩ = false
  lt : b < W.heap.size
theorem AR.below {b : Nat} {f : Nat → Value} {W W' : World} (h : AR b f W) (hb : Below W.heap.size W W') : AR b f W' :=
  ⟨fun j hj => bcell hb (h.at_ j hj), fun j => (hb.frozen (p := ⟨b, j, none⟩) h.lt).trans (h.fr j), Nat.lt_of_lt_of_le h.lt hb.size⟩
theorem AR.set {b : Nat} {f : Nat → Value} {W : World} (h : AR b f W) {k : Nat} (hk : k < 2) (u : Value) : AR b (upd f k u) (W.setCell ⟨b, k, none⟩ u) := by
  refine ⟨fun j hj => ?_, fun j => by rw [World.frozen?_setCell]; exact h.fr j, by have := h.lt; simpa [World.setCell] using this⟩
  unfold upd
  split
  · next e => subst e; exact World.cell?_setCell_same _ _ _ (h.at_ j hj)
  · next e => exact (World.cell?_setCell_other _ _ _ _ (by intro q; cases q; exact e rfl)).trans (h.at_ j hj)
set_option maxRecDepth 100000 in
set_option maxHeartbeats 2000000 in
theorem i_routeS (w : World) (A : Option Addr) (c n h d : Nat) (g : List Int) (hh : 0 < h) (h8 : h ≤ 8) (hn : n = 2 * h) (h2 : n ≠ 2) (hp : Prm g n) (hR : RdI w A g) (hd : h = 2 ^ (d + 1))
    (IH : Hid (∀ W A' c' g', Prm g' h → RdI W A' g' → Calls Try.prog 69 #[.slice A' h c'] W (RetRO W (rtN d g')))) :
    Calls Try.prog 69 #[.slice A n c] w (RetRO w (rtN (d + 1) g)) := by
  have hb0 := ballocw w (.cells #[.slice A n c] 29)
  have kg : (w.alloc (.cells #[.slice A n c] 29)).cell? ⟨w.heap.size, 0, none⟩ = some (.slice A n c) := by simp
  have hgl := hp.len
  have HC := sdN_spec (h := h) (hn ▸ hp)
  have hs0 : (w.alloc (.cells #[.slice A n c] 29)).heap.size = w.heap.size + 1 := by simp
  have C0 := hid (i_sides (w.alloc (.cells #[.slice A n c] 29)) A c g n h hh h8 hn hp (hR.below hb0))
  have HRT : Hid (rtN (d + 1) g = [(goN g (sdN g)).take h] ++ cat2 (rtN d (sbN g (sdN g) h 0)) (rtN d (sbN g (sdN g) h 1)) ++ [(sdN g).take h]) := hid (by
    have : g.length / 2 = h := by omega
    simp only [rtN, this])
  have HP := hid hp
  have HN := hid hn
  have HGL := hid hgl
  have HD := hid hd
  have HCL : Hid ((sdN g).length = n) := hid (by rw [HC.len, hn])
  have HS := hid HC
  have he : ((n : Int) == 2) = false := by simp; omega
  have hn16 : n ≤ 16 := by omega
  have HR0 := hid (hR.below hb0)
  have HB0 := hid hb0
  clear hb0 HC hgl hp h2 hn hR hd
  generalize rtN (d + 1) g = RT at *
  generalize sdN g = cm at *
  go_enter Try.func69, Try.ntmps69
  go_wp2_with fail
  refine C0.out.mono ?_
  generalize w.alloc (.cells #[.slice A n c] 29) = V0 at *
  rintro e w2 ⟨v2, rfl, ho2, hb2⟩
  obtain ⟨Ac, cc, rfl, hccl, _, hrc⟩ := Own.int ho2
  have hhc : h ≤ cc := by have := HCL.out; have := HN.out; omega
  have hcl := HCL.out
  rw [hcl]
  have HRC := hid hrc
  have HB2 := hid hb2
  have HZ2 := hb2.size
  have kg2 := bcell hb2 kg
  clear C0 ho2 hb2 hrc hcl kg hccl
  have hnh : (n : Int) / 2 = (h : Int) := by have := HN.out; omega
  have hmk := makeInt n (by omega)
  go_wp2
  have hbx := balloc (ballocw w2 (.cells #[.slice Ac n cc] 29)) (.cells #[.int .i64 h] 3)
  have S3 : Hid (RtS ((w2.alloc (.cells #[.slice Ac n cc] 29)).alloc (.cells #[.int .i64 h] 3)) A Ac c cc n h g cm w.heap.size w2.heap.size (w2.heap.size + 1)) := hid
    ⟨bcell hbx kg2, by simp, by simp, (HR0.out.below HB2.out).below hbx, HRC.out.below hbx⟩
  have B3 := hid (bthen (bthen HB0.out HB2.out) hbx)
  have hz3 := hbx.size
  have hV3 : ((w2.alloc (.cells #[.slice Ac n cc] 29)).alloc (.cells #[.int .i64 h] 3)).heap.size = w2.heap.size + 1 + 1 := by simp
  clear hbx kg2 HRC HR0 HB0 HB2
  generalize (w2.alloc (.cells #[.slice Ac n cc] 29)).alloc (.cells #[.int .i64 h] 3) = V3 at *
  generalize w2.heap.size + 1 + 1 = z3 at *
  subst hV3
  generalize w2.heap.size + 1 = bh at *
  generalize w2.heap.size = bc at *
  have HON : Hid (ON (V3.alloc (.cells (madeCells #[.int .i64 0] n) 2)) V3.heap.size (V3.heap.size + 1) V3.heap.size n n (goT g cm 0)) := hid (by
    have := own_made V3 2 (.int .i64 0) n (by omega)
    rw [ints_replicate] at this
    have e : goT g cm 0 = List.replicate n 0 := by show List.replicate _ _ = _; rw [HGL.out]
    rw [e]
    exact ⟨by simp, by unfold OwnI; rw [List.length_replicate]; exact this⟩)
  have hb4 := ballocw V3 (.cells (madeCells #[.int .i64 0] n) 2)
  have HB4 := hid hb4
  clear hb4
  go_loopg [31] n (fun gg s wr => ∃ k : Nat, k ≤ n ∧ n - k ≤ gg ∧ s = .int .i64 k ∧ Aside (Below V3.heap.size V3 wr) ∧ Aside (V3.heap.size + 1 ≤ wr.heap.size) ∧ Aside (ON wr V3.heap.size (V3.heap.size + 1) V3.heap.size n n (goT g cm k)))
  case atStart => exact ⟨0, Nat.zero_le _, by omega, rfl, HB4.out, by simp [Aside], HON.out⟩
  case round =>
    obtain ⟨k, hk, hg, rfl, BW, SW, OW⟩ := hrel
    clear HON HB4 hmk
    by_cases hlt : k < n
    · have hlt' : (k : Int) < (n : Int) := by omega
      have S4 := S3.out.below BW.out
      obtain ⟨b1, o1, rfl, hc1⟩ := S4.rc.get (k := k) (by rw [HCL.out]; exact hlt)
      obtain ⟨b2, o2, rfl, hc2⟩ := S4.rg.get (k := k) (by rw [HGL.out]; exact hlt)
      have kg := S4.kg
      have hgk := HP.out.lt hlt
      rw [hgk.2] at hc2
      have hgkl := hgk.1
      obtain ⟨k5, k5f⟩ := OW.out.at_ hgkl
      have HO5 := hid (OW.out.set (gN g k) (el cm k))
      have HT : Hid (goT g cm (k + 1) = (goT g cm k).set (gN g k) (el cm k)) := hid rfl
      have HB5 := hid (bset BW.out (p := ⟨V3.heap.size, gN g k, none⟩) (Nat.le_refl _) (.int .i64 (el cm k)))
      have HZ5 : Hid (V3.heap.size + 1 ≤ (wr.setCell ⟨V3.heap.size, gN g k, none⟩ (.int .i64 (el cm k))).heap.size) := hid (by have := SW.out; simpa [World.setCell] using this)
      clear S4 hgk OW BW SW IH
      generalize gN g k = q at *
      generalize el cm k = x at *
      generalize el (goT g cm k) q = y at *
      go_wp2
      go_roundg (n - (k + 1))
      case measure => omega
      case rel => exact ⟨k + 1, by omega, by omega, by go_num, HB5.out, HZ5.out, by unfold Aside; rw [HT.out]; exact HO5.out⟩
    · have : k = n := by omega
      subst this
      have HGO := goT_eq HP.out cm
      rw [HGO] at OW
      clear HGO
      have HX0 := hid (IH.out)
      have hbA := ballocw wr (.cells #[.slice none 0 0, .slice none 0 0] 130)
      have HW6 := hid (bthen BW.out hbA)
      have HO6 := hid (ON.eqv OW.out (Eqv.of hbA SW.out))
      have hz6 := BW.out.size
      have HA6 : Hid (AR wr.heap.size (fun _ => .slice none 0 0) (wr.alloc (.cells #[.slice none 0 0, .slice none 0 0] 130))) := hid ⟨fun j hj => by
        match j, hj with
        | 0, _ => simp
        | 1, _ => simp
        | j + 2, hj => omega, fun j => by simp, by simp⟩
      obtain ⟨wz, rfl⟩ : ∃ wz : World, wz = wr := ⟨_, rfl⟩
      clear OW BW hbA IH
      go_wp2
      go_loopg [44] 2 (fun gg s wr => ∃ j : Nat, ∃ f : Nat → Value, j ≤ 2 ∧ 2 - j ≤ gg ∧ s = .int .i64 j ∧ Aside (Below V3.heap.size V3 wr) ∧ Aside (ON wr V3.heap.size (V3.heap.size + 1) V3.heap.size k k (goN g cm)) ∧ Aside (AR wz.heap.size f wr) ∧ Aside (∀ i, i < j → ∃ A8 c8, f i = .slice A8 (2 * d + 1) c8 ∧ OR wr (wz.heap.size + 1) wr.heap.size (f i) (rtN d (sbN g cm h (i : Nat)))))
      case atStart => exact ⟨0, _, Nat.zero_le _, by omega, rfl, HW6.out, HO6.out, HA6.out, fun i hi => absurd hi (Nat.not_lt_zero _)⟩
      case round =>
        obtain ⟨j, f, hj, hgj, rfl, BJ, OJ, AJ, RJ⟩ := hrel
        clear HW6 HO6 HA6
        by_cases hj2 : j < 2
        · have hj' : (j : Int) < 2 := by omega
          have hbS := ballocw wr (.cells #[.int .i64 j] 3)
          have S7 := S3.out.below (bthen BJ.out hbS)
          have hb7 := bthen hbS (bdrewL (wr.alloc (.cells #[.int .i64 j] 3)))
          have S7d := S7.below (bdrewL _)
          have ks : (wr.alloc (.cells #[.int .i64 j] 3)).drew.cell? ⟨wr.heap.size, 0, none⟩ = some (.int .i64 j) := by
            show (wr.alloc (.cells #[.int .i64 j] 3)).cell? _ = _; simp
          have hz7 := BJ.out.size
          have AJd := AJ.out.below hb7
          have hlz := AJ.out.lt
          have hbh := World.block_lt_of_cell? _ _ S3.out.kh
          simp only at hbh
          have hSB : Prm (sbN g cm h (j : Nat)) h := sbN_prm (by rw [← HN.out]; exact HP.out) HS.out _ (by omega)
          have c7 := i_lanesOf (wr.alloc (.cells #[.int .i64 j] 3)).drew h 130 #[.pointer (some ⟨bc, 0, none⟩), .pointer (some ⟨wr.heap.size, 0, none⟩), .pointer (some ⟨bh, 0, none⟩), .pointer (some ⟨w.heap.size, 0, none⟩)] (sbEl g cm h (j : Nat)) (by omega)
            (enters_of Try.func130 (by kernel_rfl) rfl) (fun W hW i hi => i_route1 W bc wr.heap.size bh w.heap.size Ac A cc c k h i (j : Nat) g cm HN.out h8 hi HGL.out HCL.out (fun i hi => HP.out.bel hi) (S7d.below hW).kc (bcell hW ks) (S7d.below hW).kh (S7d.below hW).kg (S7d.below hW).rg (S7d.below hW).rc)
          have C7 := hid (c7.mono (R' := fun e w' => ∃ A7 c7, e = .returned (.slice A7 h c7) ∧ RdI w' A7 (sbN g cm h (j : Nat)) ∧ Below (wr.alloc (.cells #[.int .i64 j] 3)).drew.heap.size (wr.alloc (.cells #[.int .i64 j] 3)).drew w') fun e w' hq => by
            obtain ⟨v, rfl, ho, hb⟩ := hq
            obtain ⟨A7, c7, rfl, _, _, hr⟩ := Own.int ho
            exact ⟨A7, c7, by simp, hr, hb⟩)
          have C8 : Hid (∀ W A7 c7, RdI W A7 (sbN g cm h (j : Nat)) → Calls Try.prog 69 #[.slice A7 h c7] W fun e w' => ∃ A8 c8, e = .returned (.slice A8 (2 * d + 1) c8) ∧ OR w' W.heap.size w'.heap.size (.slice A8 (2 * d + 1) c8) (rtN d (sbN g cm h (j : Nat))) ∧ Below W.heap.size W w') := hid fun W A7 c7 hr => (HX0.out W A7 c7 _ hSB hr).mono fun e w' hq => by
            obtain ⟨v, rfl, ho, hb⟩ := hq
            obtain ⟨A8, c8, e8, _, _, _⟩ := OR.shp ho
            rw [rtN_length] at e8
            exact ⟨A8, c8, by rw [e8], by rw [← e8]; exact ho, hb⟩
          have KS := hid ks
          have KH := hid S7d.kh
          have HB7 := hid hb7
          have HAJ := hid AJd
          have HSJ := hid S7d
          have HXS : Hid (wr.heap.size + 1 = (wr.alloc (.cells #[.int .i64 j] 3)).drew.heap.size) := hid (by show _ = (wr.alloc _).heap.size; simp)
          clear c7 hSB hbS S7 hb7 S7d ks AJd HX0
          go_wp2_with fail
          go_region_held3 (fun W => W.cell? ⟨wr.heap.size, 0, none⟩ = some (.int .i64 j) ∧ W.cell? ⟨bh, 0, none⟩ = some (.int .i64 h))
            (first | exact ⟨KS.out, KH.out⟩ | exact ⟨bcell HB8.out KS.out, bcell HB8.out KH.out⟩ | exact ⟨bcell HB9.out KS.out, bcell HB9.out KH.out⟩ | exact HT9.out)
            (first
              | (go_at_call 59; refine C7.out.mono ?_; rintro e w8 ⟨A7, c7, rfl, hr8, hb8⟩; have HB8 := hid hb8; have HR8 := hid hr8; clear hr8)
              | (go_at_call 69; refine (C8.out _ _ _ HR8.out).mono ?_; rintro e w9 ⟨A9, c9, rfl, ho9, hb9⟩; have HB9 := hid (bthen HB8.out hb9); have HO9 := hid ho9; have HA9 := hid (HAJ.out.below HB9.out); have a9 := HA9.out.at_ j hj2; have f9 := HA9.out.fr j; have HT9 := hid (show (w9.setCell ⟨wz.heap.size, j, none⟩ (.slice A9 (2 * d + 1) c9)).cell? ⟨wr.heap.size, 0, none⟩ = some (.int .i64 j) ∧ (w9.setCell ⟨wz.heap.size, j, none⟩ (.slice A9 (2 * d + 1) c9)).cell? ⟨bh, 0, none⟩ = some (.int .i64 h) from ⟨(World.cell?_setCell_far _ _ _ _ (by show wz.heap.size ≠ wr.heap.size; omega)).trans (bcell HB9.out KS.out), (World.cell?_setCell_far _ _ _ _ (by show wz.heap.size ≠ bh; omega)).trans (bcell HB9.out KH.out)⟩); clear ho9))
          have hz8 := HB8.out.size
          have hz9 := HB9.out.size
          have hz89 := hb9.size
          have hxs := HXS.out
          have BT := bthen BJ.out (bthen HB7.out HB9.out)
          have QN : Hid (Aside (Below V3.heap.size V3 (w9.setCell ⟨wz.heap.size, j, none⟩ (.slice A9 (2 * d + 1) c9)))) := hid (bset BT (p := ⟨wz.heap.size, j, none⟩) hz6 _)
          have QO : Hid (Aside (ON (w9.setCell ⟨wz.heap.size, j, none⟩ (.slice A9 (2 * d + 1) c9)) V3.heap.size (V3.heap.size + 1) V3.heap.size k k (goN g cm))) := hid (by
            have hsw := SW.out
            have q1 := ON.eqv OJ.out (Eqv.of (bthen HB7.out HB9.out) (by omega))
            exact ON.eqv q1 (Chg.eqv (chg_set w9 (lo := wz.heap.size) (hi := wz.heap.size + 1) (Nat.le_refl _) (by omega) j _) (.inl hsw) (by omega)))
          have QA : Hid (Aside (AR wz.heap.size (upd f j (.slice A9 (2 * d + 1) c9)) (w9.setCell ⟨wz.heap.size, j, none⟩ (.slice A9 (2 * d + 1) c9)))) := hid (AR.set HA9.out hj2 _)
          have QR : Hid (Aside (∀ i, i < j + 1 → ∃ A8 c8, upd f j (.slice A9 (2 * d + 1) c9) i = .slice A8 (2 * d + 1) c8 ∧ OR (w9.setCell ⟨wz.heap.size, j, none⟩ (.slice A9 (2 * d + 1) c9)) (wz.heap.size + 1) (w9.setCell ⟨wz.heap.size, j, none⟩ (.slice A9 (2 * d + 1) c9)).heap.size (upd f j (.slice A9 (2 * d + 1) c9) i) (rtN d (sbN g cm h (i : Nat))))) := hid (fun i hi => by
            have hq : (w9.setCell ⟨wz.heap.size, j, none⟩ (.slice A9 (2 * d + 1) c9)).heap.size = w9.heap.size := by simp [World.setCell]
            have hch := chg_set w9 (lo := wz.heap.size) (hi := wz.heap.size + 1) (Nat.le_refl _) (by omega) j (.slice A9 (2 * d + 1) c9)
            rw [hq]
            by_cases e : i = j
            · subst e
              rw [upd_at]
              exact ⟨A9, c9, rfl, OR.wide (HO9.out.eqv (hch.eqv (.inr (by omega)) (Nat.le_refl _))) (by omega) (Nat.le_refl _)⟩
            · rw [upd_ne _ _ e]
              obtain ⟨A8, c8, e8, o8⟩ := RJ.out i (by omega)
              exact ⟨A8, c8, e8, OR.wide ((o8.eqv (Eqv.of (bthen HB7.out HB9.out) (Nat.le_refl _))).eqv (hch.eqv (.inr (Nat.le_refl _)) (by omega))) (Nat.le_refl _) (by omega)⟩)
          clear BT hb9 HO9 HA9 a9 f9 HT9 RJ AJ OJ BJ HB8 HR8 HB9 hb8
          go_wp2
          go_roundg (2 - (j + 1))
          case measure => omega
          case rel => exact ⟨j + 1, _, by omega, by omega, by go_num, QN.out, QO.out, QA.out, QR.out⟩
        · have : j = 2 := by omega
          subst this
          obtain ⟨A0, c0, e0, hx0⟩ := RJ.out 0 (by omega)
          obtain ⟨A1, c1, e1, hx1⟩ := RJ.out 1 (by omega)
          have haj := AJ.out
          obtain ⟨wp, rfl⟩ : ∃ wp : World, wp = wr := ⟨_, rfl⟩
          rw [e0] at hx0
          rw [e1] at hx1
          have SP := hid (S3.out.below BJ.out)
          have RGO := hid (RdI.take (OwnI.rd OJ.out.2) h)
          have HTL : Hid (((goN g cm).take h).length = h) := hid (by rw [List.length_take, OJ.out.1]; have := HN.out; omega)
          have HTC : Hid ((cm.take h).length = h) := hid (by rw [List.length_take, HCL.out]; have := HN.out; omega)
          have HRT2 : Hid (RT = [(goN g cm).take h] ++ catT (rtN d (sbN g cm h (0 : Nat))) (rtN d (sbN g cm h (1 : Nat))) (2 * d + 1) ++ [cm.take h]) := hid (by
            rw [HRT.out, catT_all, rtN_length]; rfl)
          have HR0 : Hid (∀ s, s < 2 * d + 1 → (rw_ (rtN d (sbN g cm h (0 : Nat))) s).length = 2 ^ d) := hid fun s hs => rtN_rw (by rw [sbN_length, HD.out]) hs
          have HR1 : Hid (∀ s, s < 2 * d + 1 → (rw_ (rtN d (sbN g cm h (1 : Nat))) s).length = 2 ^ d) := hid fun s hs => rtN_rw (by rw [sbN_length, HD.out]) hs
          have HL0 : Hid ((rtN d (sbN g cm h (0 : Nat))).length = 2 * d + 1) := hid (rtN_length _ _)
          have HL1 : Hid ((rtN d (sbN g cm h (1 : Nat))).length = 2 * d + 1) := hid (rtN_length _ _)
          have hq2 : 2 ^ d + 2 ^ d = h := by have := HD.out; rw [Nat.pow_succ] at this; omega
          have hd3 : 2 * d + 1 ≤ 7 := by
            have h4 : 2 ^ d ≤ 4 := by omega
            by_cases hdd : d < 3
            · omega
            · have := Nat.pow_le_pow_right (show 0 < 2 by omega) (show 3 ≤ d by omega); omega
          have SG := hid (g_CloneN h h8 wp _ k _ HTL.out RGO.out)
          have kh := SP.out.kh
          have BB := hid (bthen B3.out BJ.out)
          have HX0' := hid hx0
          have HX1' := hid hx1
          have HAJ := hid haj
          have hhk : h ≤ k := by have := HN.out; omega
          clear RJ HRT HX0 RGO OJ AJ BJ HS HGL HTL hx0 hx1 haj
          have HRC := hid (RdI.take SP.out.rc h)
          generalize rtN d (sbN g cm h (0 : Nat)) = X0 at *
          generalize rtN d (sbN g cm h (1 : Nat)) = X1 at *
          generalize (goN g cm).take h = T0 at *
          generalize cm.take h = T1 at *
          go_wp2_with fail
          refine SG.out.mono ?_
          rintro e w10 ⟨Ag, cg, rfl, ho10, hb10⟩
          have hbA := bthen hb10 (ballocw w10 (.cells #[.slice Ag h cg] 29))
          have HAA := hid (HAJ.out.below hbA)
          have a0 := HAA.out.at_ 0 (by omega)
          rw [e0] at a0
          have HOA := hid (OR.one (lo := wp.heap.size) (w := w10) (xs := T0) (by obtain ⟨_, _, e, _⟩ := OI.shp ho10; cases e; rfl) ho10 hb10.size)
          have hza := hbA.size
          have hz10 := hb10.size
          have HBA := hid hbA
          have hzp : wz.heap.size + 1 ≤ wp.heap.size := HAJ.out.lt
          clear SG ho10 hb10 hbA kh
          generalize hm : 2 * d + 1 = m at *
          generalize hq : 2 ^ d = q at *
          have hq4 : q ≤ 4 := by omega
          go_wp2
          have hzA1 : (w10.alloc (.cells #[.slice Ag h cg] 29)).heap.size = w10.heap.size + 1 := by simp
          generalize w10.alloc (.cells #[.slice Ag h cg] 29) = WA at *
          go_loopg [11, 62] m (fun gg v s wr => ∃ s' : Nat, s' ≤ m ∧ m - s' ≤ gg ∧ s = .int .i64 s' ∧ Aside (Below wp.heap.size wp wr) ∧ Aside (OR wr wp.heap.size wr.heap.size v ([T0] ++ catT X0 X1 s')))
          case atStart => exact ⟨0, Nat.zero_le _, by omega, rfl, HBA.out, by have := HOA.out; rw [← hzA1] at this; simpa [catT, Aside] using this⟩
          case round =>
            obtain ⟨s, hs, hgs, rfl, BS, OS⟩ := hrel
            clear HOA HAA a0 HBA
            obtain ⟨ws, rfl⟩ : ∃ ws : World, ws = wr := ⟨_, rfl⟩
            have hzs := BS.out.size
            by_cases hlt : s < m
            · have hlt' : (s : Int) < (m : Int) := by omega
              have AS := HAJ.out.below BS.out
              have b1 := AS.at_ 1 (by omega)
              rw [e1] at b1
              obtain ⟨ba, oa, Ar, cr, rfl, hca, hcc, hra⟩ := (OR.rdn (HX0'.out.eqv (Eqv.of BS.out (Nat.le_refl _)))).get (k := s) (by rw [HL0.out]; exact hlt)
              obtain ⟨bb, ob, Br, dr, rfl, hcb, hcd, hrb⟩ := (OR.rdn (HX1'.out.eqv (Eqv.of BS.out (Nat.le_refl _)))).get (k := s) (by rw [HL1.out]; exact hlt)
              have hl0 := HR0.out s hlt
              have hl1 := HR1.out s hlt
              rw [hl0] at hca hcc
              rw [hl1] at hcb hcd
              have HRR := hid (RdR.twon hl0 hl1 hcc hcd hra hrb)
              have CC := hid (g_Concat2 _ _ 2 h _ _ (by omega) (by omega) HRR.out)
              have HRL : Hid ((rw_ X0 s ++ rw_ X1 s).length = h) := hid (by rw [List.length_append]; omega)
              have HSU := hid (catT_succ X0 X1 s)
              have HBP := ballocw ws (.cells #[.slice Ar q cr, .slice Br q dr] 29)
              have HLN : Hid (([T0] ++ catT X0 X1 s).length + 1 ≤ 1048576) := hid (by simp [catT]; omega)
              have HOS := hid OS.out
              have HBS := hid BS.out
              clear hl0 hl1 hra hrb HRR AS OS BS
              generalize rw_ X0 s ++ rw_ X1 s = row at *
              go_wp2_with fail
              refine CC.out.mono ?_
              rintro e w12 ⟨A12, c12, rfl, ho12, hb12⟩
              have hz12 := hb12.size
              have hzb := HBP.size
              have HO12 := hid (HOS.out.eqv (Eqv.of (bthen HBP hb12) (Nat.le_refl _)))
              have HU12 := hid (Own.wide ho12 hzb (Nat.le_refl _))
              have HB12 := hid (bthen HBS.out (bthen HBP hb12))
              have hzt := Nat.le_trans hzb hz12
              clear CC ho12 hb12 HBP HOS
              go_wp2_with (at_builtin; refine wp_appendRn wp.heap.size ws.heap.size rfl _ _ rfl u11 _ A12 c12 h row HRL.out rfl rfl HO12.out HU12.out hzs hzt HLN.out ?_; intro v1 w13 ho13 hb13)
              go_roundg (m - (s + 1))
              case measure => omega
              case rel => exact ⟨s + 1, by omega, by omega, by go_num, HB12.out.trans hb13, by unfold Aside; rw [HSU.out, ← List.append_assoc]; exact ho13⟩
            · have : s = m := by omega
              subst this
              have SS := SP.out.below BS.out
              have kc := SS.kc
              have kh := SS.kh
              have CG := hid (g_CloneN h h8 ws _ cc _ HTC.out (HRC.out.below BS.out))
              have HOS := hid OS.out
              have HBS := hid BS.out
              have HLN : Hid (([T0] ++ catT X0 X1 s).length + 1 ≤ 1048576) := hid (by simp [catT]; omega)
              clear SS OS BS
              go_wp2_with fail
              refine CG.out.mono ?_
              rintro e w12 ⟨A12, c12, rfl, ho12, hb12⟩
              have hz12 := hb12.size
              have HO12 := hid (HOS.out.eqv (Eqv.of hb12 (Nat.le_refl _)))
              have HU12 := hid ho12
              have HB12 := hid (bthen HBS.out hb12)
              clear CG ho12 hb12 HOS
              go_wp2_with (at_builtin; refine wp_appendRn wp.heap.size ws.heap.size rfl _ _ rfl u11 _ A12 c12 h T1 HTC.out rfl rfl HO12.out HU12.out hzs hz12 HLN.out ?_; intro v1 w13 ho13 hb13)
              go_ret
              rw [HRT2.out]
              exact ⟨_, rfl, OR.wide ho13 BB.out.size (Nat.le_refl _), bthen BB.out (HB12.out.trans hb13)⟩
theorem i_route : ∀ d, d ≤ 3 → ∀ (w : World) (A : Option Addr) (c n : Nat) (g : List Int), n = 2 ^ (d + 1) → Prm g n → RdI w A g → Calls Try.prog 69 #[.slice A n c] w (RetRO w (rtN d g)) := by
  intro d
  induction d with
  | zero => intro _ w A c n g hn hp hR; exact i_route0 w A c n g (by simpa using hn) hp.len hR
  | succ d ih =>
    intro hd w A c n g hn hp hR
    have h4 : 2 ^ d ≤ 4 := Nat.le_trans (Nat.pow_le_pow_right (by omega) (show d ≤ 2 by omega)) (by decide)
    have h1 : 0 < 2 ^ d := Nat.pow_pos (by omega)
    have e1 : 2 ^ (d + 1) = 2 * 2 ^ d := by rw [Nat.pow_succ]; omega
    have e2 : 2 ^ (d + 1 + 1) = 2 * 2 ^ (d + 1) := by rw [Nat.pow_succ]; omega
    exact i_routeS w A c n (2 ^ (d + 1)) d g (by omega) (by omega) (by omega) (by omega) hp hR rfl (hid fun W A' c' g' hp' hr' => ih (by omega) W A' c' _ g' rfl hp' hr')
end Go.Proofs.Ytolcmehndambmaa
