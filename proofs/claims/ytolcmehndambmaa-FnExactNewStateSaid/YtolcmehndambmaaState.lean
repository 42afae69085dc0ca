import Derived.Test.YtolcmehndambmaaTrans
import Derived.Test.YtolcmehndambmaaMach
set_option linter.unusedVariables false
set_option linter.unusedSimpArgs false
namespace Go.Proofs.Ytolcmehndambmaa
open Go.RowKit

/-! ### States: vectors, masks, a memory -/
structure StV where
  vec : List (List Int)
  msk : List (List Int)
  mem : List Int
deriving DecidableEq
abbrev stv (A1 : Option Addr) (n1 c1 : Nat) (A2 : Option Addr) (n2 c2 : Nat) (A3 : Option Addr) (n3 c3 : Nat) : Value := .agg #[.slice A1 n1 c1, .slice A2 n2 c2, .slice A3 n3 c3]
structure RdS (w : World) (A1 A2 A3 : Option Addr) (s : StV) : Prop where
  vec : RdR w A1 s.vec
  msk : RdR w A2 s.msk
  mem : RdI w A3 s.mem
theorem RdS.below {w W : World} {A1 A2 A3 : Option Addr} {s : StV} (h : RdS w A1 A2 A3 s) (hb : Below w.heap.size w W) : RdS W A1 A2 A3 s := ⟨h.vec.below hb, h.msk.below hb, h.mem.below hb⟩
def ssz (s : StV) : Nat := rsz s.vec + rsz s.msk + s.mem.length
structure BigS (s : StV) : Prop where
  vec : BigR s.vec
  msk : BigR s.msk
  mem : s.mem.length ≤ 9223372036854775807
theorem bigS_of {s : StV} (h : ssz s ≤ 1048576) : BigS s := by
  have h1 : rsz s.vec ≤ 1048576 := by unfold ssz at h; omega
  have h2 : rsz s.msk ≤ 1048576 := by unfold ssz at h; omega
  have h3 : s.mem.length ≤ 1048576 := by unfold ssz at h; omega
  exact ⟨⟨by have := rsz_len h1; omega, fun k hk => by have := rsz_row h1 hk; omega⟩, ⟨by have := rsz_len h2; omega, fun k hk => by have := rsz_row h2 hk; omega⟩, by omega⟩
theorem st_eq (a b : StV) : decide (a = b) = (decide (a.vec = b.vec) && (decide (a.msk = b.msk) && decide (a.mem = b.mem))) := by
  cases a; cases b; rw [Bool.eq_iff_iff]; simp
theorem box_at (w : World) (cs : Array Value) (t : TypeId) : (w.alloc (.cells cs t)).heap[w.heap.size]? = some (.cells cs t) := heap_alloc_new w _
/-- A state of the call's own: its parts in ranges of blocks apart. -/
def OS (w : World) (lo hi : Nat) (v : Value) (s : StV) : Prop := ∃ v1 v2 v3 a1 b1 a2 b2 a3 b3, v = .agg #[v1, v2, v3] ∧ OR w a1 b1 v1 s.vec ∧ OR w a2 b2 v2 s.msk ∧ OI w a3 b3 v3 s.mem ∧
  (lo ≤ a1 ∧ b1 ≤ hi ∧ lo ≤ a2 ∧ b2 ≤ hi ∧ lo ≤ a3 ∧ b3 ≤ hi) ∧ (b1 ≤ a2 ∨ b2 ≤ a1) ∧ (b1 ≤ a3 ∨ b3 ≤ a1) ∧ (b2 ≤ a3 ∨ b3 ≤ a2)
theorem eqv_in {lo hi a b : Nat} {w w' : World} (h : Eqv lo hi w w') (h1 : lo ≤ a) (h2 : b ≤ hi) : Eqv a b w w' := fun k hk1 hk2 => h k (by omega) (by omega)
theorem OS.eqv {w w' : World} {lo hi : Nat} {v : Value} {s : StV} (h : OS w lo hi v s) (hq : Eqv lo hi w w') : OS w' lo hi v s := by
  obtain ⟨v1, v2, v3, a1, b1, a2, b2, a3, b3, e, o1, o2, o3, hb, d⟩ := h
  exact ⟨v1, v2, v3, a1, b1, a2, b2, a3, b3, e, o1.eqv (eqv_in hq hb.1 hb.2.1), o2.eqv (eqv_in hq hb.2.2.1 hb.2.2.2.1), o3.eqv (eqv_in hq hb.2.2.2.2.1 hb.2.2.2.2.2), hb, d⟩
theorem OS.wide {w : World} {lo hi lo' hi' : Nat} {v : Value} {s : StV} (h : OS w lo hi v s) (h1 : lo' ≤ lo) (h2 : hi ≤ hi') : OS w lo' hi' v s := by
  obtain ⟨v1, v2, v3, a1, b1, a2, b2, a3, b3, e, o1, o2, o3, hb, d⟩ := h
  exact ⟨v1, v2, v3, a1, b1, a2, b2, a3, b3, e, o1, o2, o3, by omega, d⟩
theorem OS.shp {w : World} {lo hi : Nat} {v : Value} {s : StV} (h : OS w lo hi v s) : ∃ A1 c1 A2 c2 A3 c3, v = stv A1 s.vec.length c1 A2 s.msk.length c2 A3 s.mem.length c3 ∧ RdS w A1 A2 A3 s := by
  obtain ⟨v1, v2, v3, a1, b1, a2, b2, a3, b3, rfl, o1, o2, o3, _⟩ := h
  obtain ⟨A1, c1, rfl, _, _, r1⟩ := o1.shp
  obtain ⟨A2, c2, rfl, _, _, r2⟩ := o2.shp
  obtain ⟨A3, c3, rfl, _, _, r3⟩ := o3.shp
  exact ⟨A1, c1, A2, c2, A3, c3, rfl, r1, r2, r3⟩
theorem OS.rd {w : World} {lo hi c1 c2 c3 : Nat} {A1 A2 A3 : Option Addr} {s : StV} (h : OS w lo hi (stv A1 s.vec.length c1 A2 s.msk.length c2 A3 s.mem.length c3) s) : RdS w A1 A2 A3 s := by
  obtain ⟨B1, d1, B2, d2, B3, d3, e, r⟩ := h.shp
  simp only [stv, Value.agg.injEq] at e
  simp at e
  obtain ⟨⟨rfl, _⟩, ⟨rfl, _⟩, ⟨rfl, _⟩⟩ := e
  exact r
theorem l_eqState (w : World) (A1 : Option Addr) (c1 : Nat) (A2 : Option Addr) (c2 : Nat) (A3 : Option Addr) (c3 : Nat) (s : StV) (A1' : Option Addr) (c1' : Nat) (A2' : Option Addr) (c2' : Nat) (A3' : Option Addr) (c3' : Nat) (s' : StV)
    (hl : BigS s) (hl' : BigS s') (hR : RdS w A1 A2 A3 s) (hR' : RdS w A1' A2' A3' s') :
    Calls Try.prog 47 #[stv A1 s.vec.length c1 A2 s.msk.length c2 A3 s.mem.length c3, stv A1' s'.vec.length c1' A2' s'.msk.length c2' A3' s'.mem.length c3'] w fun e w' => e = .returned (.bool (decide (s = s'))) ∧ Below w.heap.size w w' := by
  have hb0 := balloc (ballocw w (.cells #[.slice A1 s.vec.length c1, .slice A2 s.msk.length c2, .slice A3 s.mem.length c3] 62)) (.cells #[.slice A1' s'.vec.length c1', .slice A2' s'.msk.length c2', .slice A3' s'.mem.length c3'] 62)
  have g1 : ((w.alloc (.cells #[.slice A1 s.vec.length c1, .slice A2 s.msk.length c2, .slice A3 s.mem.length c3] 62)).alloc (.cells #[.slice A1' s'.vec.length c1', .slice A2' s'.msk.length c2', .slice A3' s'.mem.length c3'] 62)).heap[w.heap.size]? = some (.cells #[.slice A1 s.vec.length c1, .slice A2 s.msk.length c2, .slice A3 s.mem.length c3] 62) := (heap_alloc_old _ _ (by simp)).trans (box_at _ _ _)
  have g2 : ((w.alloc (.cells #[.slice A1 s.vec.length c1, .slice A2 s.msk.length c2, .slice A3 s.mem.length c3] 62)).alloc (.cells #[.slice A1' s'.vec.length c1', .slice A2' s'.msk.length c2', .slice A3' s'.mem.length c3'] 62)).heap[w.heap.size + 1]? = some (.cells #[.slice A1' s'.vec.length c1', .slice A2' s'.msk.length c2', .slice A3' s'.mem.length c3'] 62) := by
    have h := box_at (w.alloc (.cells #[.slice A1 s.vec.length c1, .slice A2 s.msk.length c2, .slice A3 s.mem.length c3] 62)) #[.slice A1' s'.vec.length c1', .slice A2' s'.msk.length c2', .slice A3' s'.mem.length c3'] 62
    rw [show (w.alloc (.cells #[.slice A1 s.vec.length c1, .slice A2 s.msk.length c2, .slice A3 s.mem.length c3] 62)).heap.size = w.heap.size + 1 by simp] at h
    exact h
  have D1 := hid (show _ = some (Value.slice A2 s.msk.length c2) from (cell_of_row _ _ 1 _ _ _ g1))
  have D2 := hid (show _ = some (Value.slice A3 s.mem.length c3) from (cell_of_row _ _ 2 _ _ _ g1))
  have D1' := hid (show _ = some (Value.slice A2' s'.msk.length c2') from (cell_of_row _ _ 1 _ _ _ g2))
  have D2' := hid (show _ = some (Value.slice A3' s'.mem.length c3') from (cell_of_row _ _ 2 _ _ _ g2))
  have HB0 := hid hb0
  have C1 := hid (fun W (hW : Below w.heap.size w W) => l_eqInt64SS W A1 A1' c1 c1' s.vec s'.vec hl.vec hl'.vec (hR.vec.below hW) (hR'.vec.below hW))
  have C2 := hid (fun W (hW : Below w.heap.size w W) => l_eqInt64SS W A2 A2' c2 c2' s.msk s'.msk hl.msk hl'.msk (hR.msk.below hW) (hR'.msk.below hW))
  have C3 := hid (fun W (hW : Below w.heap.size w W) => l_eqInt64S W A3 A3' c3 c3' s.mem s'.mem hl.mem hl'.mem (hR.mem.below hW) (hR'.mem.below hW))
  rw [st_eq]
  clear hb0 g1 g2 hR hR' hl hl'
  generalize decide (s.vec = s'.vec) = x1 at *
  generalize decide (s.msk = s'.msk) = x2 at *
  generalize decide (s.mem = s'.mem) = x3 at *
  cases x1 with
  | false =>
    clear C2 C3 D1 D2 D1' D2'
    go_enter Try.func47, Try.ntmps47
    go_wp2_with fail
    refine (C1.out _ HB0.out).mono ?_
    rintro e w1 ⟨rfl, hb1⟩
    go_wp2_with fail
    go_ret
    exact ⟨ret_b (by simp), bthen HB0.out hb1⟩
  | true =>
    cases x2 with
    | false =>
      clear C3 D2 D2'
      go_enter Try.func47, Try.ntmps47
      go_wp2_with fail
      refine (C1.out _ HB0.out).mono ?_
      rintro e w1 ⟨rfl, hb1⟩
      have d1 := bcell hb1 D1.out
      have d1' := bcell hb1 D1'.out
      have HB1 := hid (bthen HB0.out hb1)
      clear hb1
      go_wp2_with fail
      refine (C2.out _ HB1.out).mono ?_
      rintro e w2 ⟨rfl, hb2⟩
      go_wp2_with fail
      go_ret
      exact ⟨ret_b (by simp), bthen HB1.out hb2⟩
    | true =>
      cases x3
      all_goals
        go_enter Try.func47, Try.ntmps47
        go_wp2_with fail
        refine (C1.out _ HB0.out).mono ?_
        rintro e w1 ⟨rfl, hb1⟩
        have d1 := bcell hb1 D1.out
        have d1' := bcell hb1 D1'.out
        have E2 := hid (bcell hb1 D2.out)
        have E2' := hid (bcell hb1 D2'.out)
        have HB1 := hid (bthen HB0.out hb1)
        clear hb1
        go_wp2_with fail
        refine (C2.out _ HB1.out).mono ?_
        rintro e w2 ⟨rfl, hb2⟩
        have d2 := bcell hb2 E2.out
        have d2' := bcell hb2 E2'.out
        have HB2 := hid (bthen HB1.out hb2)
        clear hb2 d1 d1'
        go_wp2_with fail
        refine (C3.out _ HB2.out).mono ?_
        rintro e w3 ⟨rfl, hb3⟩
        go_wp2_with fail
        go_ret
        exact ⟨ret_b (by simp), bthen HB2.out hb3⟩
theorem l_eqStateO (w : World) (lo hi lo' hi' : Nat) (v v' : Value) (s s' : StV) (hl : ssz s ≤ 1048576) (hl' : ssz s' ≤ 1048576) (h : OS w lo hi v s) (h' : OS w lo' hi' v' s') :
    Calls Try.prog 47 #[v, v'] w fun e w' => e = .returned (.bool (decide (s = s'))) ∧ Below w.heap.size w w' := by
  obtain ⟨A1, c1, A2, c2, A3, c3, rfl, hr⟩ := h.shp
  obtain ⟨A1', c1', A2', c2', A3', c3', rfl, hr'⟩ := h'.shp
  exact l_eqState w A1 c1 A2 c2 A3 c3 s A1' c1' A2' c2' A3' c3' s' (bigS_of hl) (bigS_of hl') hr hr'
end Go.Proofs.Ytolcmehndambmaa
