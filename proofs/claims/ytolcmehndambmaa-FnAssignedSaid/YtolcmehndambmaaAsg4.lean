import Derived.Test.YtolcmehndambmaaAsg3
set_option linter.unusedVariables false
set_option linter.unusedSimpArgs false
namespace Go.Proofs.Ytolcmehndambmaa
open Go.RowKit

theorem tkn_order {rs : List PI} {out : List Int} {i : Nat} {r : Int} :
    decide (0 ≤ idxN (fun k => decide (el out (el (ordR rs) k).toNat = r) && meetB (pel rs (el (ordR rs) k).toNat) (pel rs i)) rs.length rs.length) = tknN rs out i r rs.length := by
  have h := idxN_all (fun k => !(decide (el out (el (ordR rs) k).toNat = r) && meetB (pel rs (el (ordR rs) k).toNat) (pel rs i))) rs.length
  simp only [Bool.not_not] at h
  rw [h, Bool.eq_iff_iff, tkn_iff]
  unfold allN
  rw [Bool.not_eq_true', List.all_eq_false]
  constructor
  · rintro ⟨k, hk, h2⟩
    rw [List.mem_range] at hk
    simp only [Bool.not_eq_true', Bool.not_eq_false, Bool.and_eq_true, decide_eq_true_eq, Bool.not_eq_true] at h2
    obtain ⟨j, hj, hjn⟩ := ord_in rs hk
    rw [hj, Int.toNat_natCast] at h2
    exact ⟨j, hjn, h2.1, h2.2⟩
  · rintro ⟨j, hj, h1, h2⟩
    obtain ⟨k, hk, hkj⟩ := ord_sur rs hj
    refine ⟨k, List.mem_range.2 hk, ?_⟩
    rw [hkj, Int.toNat_natCast, h1, h2]
    simp
set_option maxRecDepth 100000 in
theorem i_insertionSort0 (w : World) (A : Option Addr) (c : Nat) (g : Nat) (lb : Array Value) :
    Calls Try.prog 158 #[.slice A 0 c, .int .i64 0, .int .i64 0, .func (.func g) #[] lb] w fun e w' => e = .returned (.tuple #[]) ∧ w = w' := by
  go_enter Try.func158, Try.ntmps158
  go_wp2
  go_loopg [8] 0 (fun gg s wr => s = .int .i64 1 ∧ Aside (w = wr))
  case atStart => exact ⟨rfl, rfl⟩
  case round =>
    obtain ⟨rfl, BW⟩ := hrel
    obtain rfl := BW.out
    go_wp2
    go_end0
    exact ⟨rfl, rfl⟩
/-- The order, sorted. -/
theorem i_insSort (w : World) (lo hi : Nat) (A : Option Addr) (c : Nat) (g : Nat) (lb : Array Value) (rs : List PI) (hr : rngsB rs = true) (hhi : hi ≤ w.heap.size) (eg : Ent Try.prog g) (hC : CmpC w lo hi g lb rs)
    (ho : OwnI w lo hi 2 (.slice A rs.length c) (idl rs.length)) :
    Calls Try.prog 158 #[.slice A rs.length c, .int .i64 0, .int .i64 (rs.length : Nat), .func (.func g) #[] lb] w fun e w' =>
      e = .returned (.tuple #[]) ∧ Chg lo hi w w' ∧ OwnI w' lo hi 2 (.slice A rs.length c) (ordR rs) := by
  by_cases h0 : 0 < rs.length
  · obtain ⟨g', rfl, _⟩ := OwnI.at ho (k := 0) (by rw [idl_length]; exact h0)
    exact i_insertionSort w lo hi g' c g lb rs hr h0 hhi eg hC ho
  · have hz : rs.length = 0 := by omega
    have e1 : ordR rs = idl 0 := by unfold ordR; rw [hz]; rfl
    rw [e1]
    rw [hz] at ho ⊢
    exact (i_insertionSort0 w A c g lb).mono fun e w' ⟨h1, h2⟩ => by subst h2; exact ⟨h1, Chg.refl _ _ _, ho⟩
set_option maxRecDepth 100000 in
theorem i_SortStable (w : World) (lo hi : Nat) (A : Option Addr) (c : Nat) (g : Nat) (lb : Array Value) (rs : List PI) (hr : rngsB rs = true) (hhi : hi ≤ w.heap.size) (eg : Ent Try.prog g) (hC : CmpC w lo hi g lb rs)
    (ho : OwnI w lo hi 2 (.slice A rs.length c) (idl rs.length)) :
    Calls Try.prog 57 #[.slice A rs.length c, .func (.func g) #[] lb] w fun e w' =>
      e = .returned (.tuple #[]) ∧ Chg lo hi w w' ∧ OwnI w' lo hi 2 (.slice A rs.length c) (ordR rs) := by
  have hn := rngs_len hr
  have c0 := i_insSort w lo hi A c g lb rs hr hhi eg hC ho
  clear hC ho hr
  have c1 : Calls Try.prog 122 #[.slice A rs.length c, .int .i64 (rs.length : Nat), .func (.func g) #[] lb] w fun e w' =>
      e = .returned (.tuple #[]) ∧ Chg lo hi w w' ∧ OwnI w' lo hi 2 (.slice A rs.length c) (ordR rs) := by
    have C0 := hid c0
    clear c0
    have h20 : ¬ (20 : Int) ≤ (rs.length : Int) := by omega
    have h21 : ¬ (20 : Int) < (rs.length : Int) := by omega
    generalize rs.length = n at *
    go_enter Try.func122, Try.ntmps122
    go_wp2
    go_loopg [7, 8] 0 (fun gg a s wr => a = .int .i64 0 ∧ s = .int .i64 20 ∧ Aside (w = wr))
    case atStart => exact ⟨rfl, rfl, rfl⟩
    case round =>
      obtain ⟨rfl, rfl, BW⟩ := hrel
      obtain rfl := BW.out
      go_wp2_with fail
      refine C0.out.mono ?_
      rintro e w1 ⟨rfl, h1, h2⟩
      have HR := hid (And.intro h1 h2)
      clear h1 h2 C0
      go_wp2_with fail
      go_loopg [6] 0 (fun gg s wr => s = .int .i64 20 ∧ Aside (w1 = wr))
      case atStart => exact ⟨rfl, rfl⟩
      case round =>
        obtain ⟨rfl, BW⟩ := hrel
        obtain rfl := BW.out
        go_wp2
        go_end0
        exact ⟨rfl, HR.out⟩
  have C1 := hid c1
  clear c0 c1
  generalize rs.length = n at *
  go_enter Try.func57, Try.ntmps57
  go_wp2_with fail
  refine C1.out.mono ?_
  rintro e w1 ⟨rfl, h1, h2⟩
  have HR := hid (And.intro h1 h2)
  clear h1 h2 C1
  go_wp2_with fail
  go_end0
  exact ⟨rfl, HR.out⟩
set_option maxRecDepth 100000 in
theorem i_same1 (W : World) (k : Nat) : Calls Try.prog 121 #[.int .i64 (k : Nat)] W fun e w' => e = .returned (.int .i64 (k : Nat)) ∧ Below W.heap.size W w' := by
  go_enter Try.func121, Try.ntmps121
  go_wp2
  go_ret
  exact ⟨rfl, Below.refl _ _⟩
set_option maxRecDepth 100000 in
theorem i_same (w : World) (n : Nat) (hn : n ≤ 1048576) : Calls Try.prog 56 #[.int .i64 (n : Nat)] w (RetI w 2 (idl n)) := by
  have c0 := i_lanesOf w n 121 #[] (fun k => (k : Int)) (by omega) (enters_of Try.func121 (by kernel_rfl) rfl) (fun W hW k hk => i_same1 W k)
  have C0 : Hid (Calls Try.prog 59 #[.int .i64 (n : Nat), .func (.func 121) #[] #[]] w (RetI w 2 (idl n))) := hid c0
  clear c0
  go_enter Try.func56, Try.ntmps56
  go_wp2_with fail
  refine C0.out.mono ?_
  rintro e w1 ⟨v, rfl, h1, h2⟩
  have HR := hid (And.intro h1 h2)
  clear h1 h2 C0
  go_wp2_with fail
  go_ret
  exact ⟨_, rfl, HR.out⟩
set_option maxRecDepth 100000 in
theorem i_AR2 (W : World) (k : Nat) : Calls Try.prog 60 #[.int .i64 (k : Nat)] W fun e w' => e = .returned (.int .i64 (-1)) ∧ Below W.heap.size W w' := by
  go_enter Try.func60, Try.ntmps60
  go_wp2
  go_ret
  exact ⟨rfl, Below.refl _ _⟩
set_option maxRecDepth 100000 in
theorem i_meet (w : World) (x y x' y' : Int) : Calls Try.prog 62 #[mv x y, mv x' y'] w fun e w' => e = .returned (.bool (meetB (x, y) (x', y'))) ∧ Below w.heap.size w w' := by
  have hb : Below w.heap.size w ((w.alloc (.cells #[.int .i64 x, .int .i64 y] 34)).alloc (.cells #[.int .i64 x', .int .i64 y'] 34)) := balloc (ballocw _ _) _
  have HM : Hid (meetB (x, y) (x', y') = decide (max x x' < min y y')) := hid rfl
  generalize meetB (x, y) (x', y') = r at *
  go_enter Try.func62, Try.ntmps62
  go_wp2
  all_goals go_ret
  all_goals exact ⟨ret_b (by rw [HM.out, decide_eq_decide]; omega), hb⟩
/-- The boxes of a round: the list at O, the register at G, the ranges at D, the index at I. -/
structure TkW (W : World) (O G D I : Nat) (Ao : Option Addr) (co : Nat) (out : List Int) (r : Int) (A : Option Addr) (c : Nat) (rs : List PI) (i : Nat) : Prop where
  out_ : W.cell? ⟨O, 0, none⟩ = some (.slice Ao rs.length co)
  reg : W.cell? ⟨G, 0, none⟩ = some (.int .i64 r)
  rngs : W.cell? ⟨D, 0, none⟩ = some (.slice A rs.length c)
  idx : W.cell? ⟨I, 0, none⟩ = some (.int .i64 (i : Nat))
  rd : RdI W Ao out
  rp : RdP W A rs
theorem TkW.below {W W' : World} {O G D I : Nat} {Ao : Option Addr} {co : Nat} {out : List Int} {r : Int} {A : Option Addr} {c : Nat} {rs : List PI} {i : Nat} (h : TkW W O G D I Ao co out r A c rs i) (hb : Below W.heap.size W W') : TkW W' O G D I Ao co out r A c rs i :=
  ⟨bcell hb h.out_, bcell hb h.reg, bcell hb h.rngs, bcell hb h.idx, h.rd.below hb, h.rp.below hb⟩
set_option maxRecDepth 100000 in
theorem i_AR3 (W : World) (O G D I : Nat) (Ao A : Option Addr) (co c : Nat) (out : List Int) (r : Int) (rs : List PI) (i k : Nat) (hlo : out.length = rs.length) (hn : rs.length ≤ 12) (hi : i < rs.length) (hk : k < rs.length) (hT : TkW W O G D I Ao co out r A c rs i) :
    Calls Try.prog 61 #[.int .i64 (k : Nat), .pointer (some ⟨O, 0, none⟩), .pointer (some ⟨G, 0, none⟩), .pointer (some ⟨D, 0, none⟩), .pointer (some ⟨I, 0, none⟩)] W fun e w' =>
      e = .returned (.bool (decide (el out k = r) && meetB (pel rs k) (pel rs i))) ∧ Below W.heap.size W w' := by
  obtain ⟨bo, oo, rfl, ho⟩ := hT.rd.get (k := k) (by omega)
  obtain ⟨b, off, rfl, k0, k1⟩ := hT.rp.get hk
  obtain ⟨b', off', e', i0, i1⟩ := hT.rp.get hi
  cases e'
  have l0 := lcell ho
  have l1 := lcell hT.out_
  have l2 := lcell hT.reg
  have l3 := lcell hT.rngs
  have l4 := lcell hT.idx
  have l5 := lcell k0
  have l6 := lcell k1
  have l7 := lcell i0
  have l8 := lcell i1
  have hki : (k : Int) < (rs.length : Int) := by omega
  have hii : (i : Int) < (rs.length : Int) := by omega
  have HM := hid (fun (x : Lat W) => i_meet x.val (pel rs k).1 (pel rs k).2 (pel rs i).1 (pel rs i).2)
  have HE : Hid (meetB ((pel rs k).1, (pel rs k).2) ((pel rs i).1, (pel rs i).2) = meetB (pel rs k) (pel rs i)) := hid rfl
  clear hT ho k0 k1 i0 i1 hlo
  generalize meetB ((pel rs k).1, (pel rs k).2) ((pel rs i).1, (pel rs i).2) = mb at *
  rw [← HE.out]
  clear HE
  generalize (pel rs k).1 = x at *
  generalize (pel rs k).2 = y at *
  generalize (pel rs i).1 = x' at *
  generalize (pel rs i).2 = y' at *
  generalize el out k = o at *
  by_cases hor : o = r
  · subst hor
    go_enter Try.func61, Try.ntmps61
    go_wp2
    refine wp_region_calm (by kernel_rfl) (by kernel_rfl) ?_
    repeat (go_big_quiet_step (exact calm_of (HM.out _)))
    refine wpQuiet_nil ?_
    intro _ hw'
    obtain ⟨xq, hw''⟩ := hw'
    subst hw''
    have hb := xq.below
    go_wp2
    go_ret
    exact ⟨ret_b (by simp), hb⟩
  · have hob : (o == r) = false := by simpa using hor
    clear HM
    go_enter Try.func61, Try.ntmps61
    go_wp2
    refine wp_region_calm (by kernel_rfl) (by kernel_rfl) ?_
    repeat (go_big_quiet_step (fail))
    refine wpQuiet_nil ?_
    intro _ hw'
    obtain ⟨xq, hw''⟩ := hw'
    subst hw''
    have hb := xq.below
    go_wp2
    go_ret
    exact ⟨ret_b (by rw [decide_eq_false hor]; rfl), hb⟩
set_option maxRecDepth 100000 in
theorem i_AR4 (W : World) (F O G D I : Nat) (k : Nat) (b : Bool) (hF : W.cell? ⟨F, 0, none⟩ = some (.func (.func 61) #[] #[.pointer (some ⟨O, 0, none⟩), .pointer (some ⟨G, 0, none⟩), .pointer (some ⟨D, 0, none⟩), .pointer (some ⟨I, 0, none⟩)]))
    (hC : Calls Try.prog 61 #[.int .i64 (k : Nat), .pointer (some ⟨O, 0, none⟩), .pointer (some ⟨G, 0, none⟩), .pointer (some ⟨D, 0, none⟩), .pointer (some ⟨I, 0, none⟩)] W fun e w' => e = .returned (.bool b) ∧ Below W.heap.size W w') :
    Calls Try.prog 64 #[.int .i64 (k : Nat), .pointer (some ⟨F, 0, none⟩)] W fun e w' => e = .returned (.bool b) ∧ Below W.heap.size W w' := by
  have eg : Ent Try.prog 61 := enters_of Try.func61 (by kernel_rfl) rfl
  have HC := hid hC
  clear hC
  go_enter Try.func64, Try.ntmps64
  go_wp2_with fail
  refine HC.out.mono ?_
  rintro e w' ⟨rfl, hb'⟩
  clear HC
  go_wp2_with fail
  go_ret
  exact ⟨rfl, hb'⟩
/-- Is the register taken? -/
theorem i_taken (W : World) (F O G D I : Nat) (Ao A Ar : Option Addr) (co c cr : Nat) (out : List Int) (r : Int) (rs : List PI) (i : Nat) (hlo : out.length = rs.length) (hn : rs.length ≤ 12) (hi : i < rs.length) (hT : TkW W O G D I Ao co out r A c rs i)
    (hF : W.cell? ⟨F, 0, none⟩ = some (.func (.func 61) #[] #[.pointer (some ⟨O, 0, none⟩), .pointer (some ⟨G, 0, none⟩), .pointer (some ⟨D, 0, none⟩), .pointer (some ⟨I, 0, none⟩)])) (hR : RdI W Ar (ordR rs)) :
    Calls Try.prog 63 #[.slice Ar rs.length cr, .func (.func 64) #[] #[.pointer (some ⟨F, 0, none⟩)]] W fun e w' => e = .returned (.bool (tknN rs out i r rs.length)) ∧ Below W.heap.size W w' := by
  have hR' : Rd W Ar rs.length (fun k => .int .i64 (el (ordR rs) k)) := by have := hR; unfold RdI at this; rw [ordR_length] at this; exact this
  have h := containsFuncI W Ar rs.length cr (fun k => .int .i64 (el (ordR rs) k)) 64 #[.pointer (some ⟨F, 0, none⟩)] (fun k => decide (el out (el (ordR rs) k).toNat = r) && meetB (pel rs (el (ordR rs) k).toNat) (pel rs i)) (by omega) hR'
    (enters_of Try.func64 (by kernel_rfl) rfl) (fun V hV k hk => by
      obtain ⟨j, hj, hjn⟩ := ord_in rs hk
      simp only [hj, Int.toNat_natCast]
      exact i_AR4 V F O G D I j _ (bcell hV hF) (i_AR3 V O G D I Ao A co c out r rs i j hlo hn hi hjn (hT.below hV)))
  rw [tkn_order] at h
  exact h
end Go.Proofs.Ytolcmehndambmaa
