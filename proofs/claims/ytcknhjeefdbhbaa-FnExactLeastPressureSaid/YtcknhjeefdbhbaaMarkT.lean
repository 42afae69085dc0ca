import Derived.Test.YtcknhjeefdbhbaaTask2
import Derived.Test.YtcknhjeefdbhbaaRwsA
set_option linter.unusedVariables false
set_option linter.unusedSimpArgs false
namespace Go.Proofs.Ytcknhjeefdbhbaa
open Go.RowKit

/-! ### Tasks that are marked -/
/-- How far the marks have come ahead of task k. -/
def mkt (ts : List TaskV) (k : Nat) : Nat := 2 * k + ttot ts k
theorem mkt_le {ts : List TaskV} {k : Nat} (h : k ≤ ts.length) : mkt ts k ≤ 2 * tsz ts := by
  have := ttot_mono ts h; unfold mkt tsz; omega
/-- The tasks, the first k of them marked: the cells ahead of k * 3 are something, those behind it the tasks'. -/
structure MkdT (w : World) (lo hi : Nat) (v : Value) (ts : List TaskV) (f : Nat → Value) (k : Nat) : Prop where
  outer : ∃ cs, Own w lo hi 132 3 v ts.length cs ∧ ∀ j, k ≤ j → j < ts.length → cs[j * 3]? = some (.int .i64 (tel ts j).port) ∧ cs[j * 3 + 1]? = some (.int .i64 (tel ts j).lat) ∧ cs[j * 3 + 2]? = some (f j)
  left : ∀ j, k ≤ j → j < ts.length → OI w lo hi (f j) (tel ts j).needs
theorem l_markTaskSO (w : World) (lo hi : Nat) (v : Value) (ts : List TaskV) (m : Int) (h0 : 0 ≤ m) (h1 : m + 2 * tsz ts ≤ 9223372036854775807) (hO : OT w lo hi v ts) :
    Calls Try.prog 66 #[v, .int .i64 m] w fun e w' => e = .returned (.int .i64 (m + mkt ts ts.length)) ∧ True ∧ Chg lo hi w w' := by
  obtain ⟨f, ho, hr, ha1, ha2⟩ := hO
  have HT : Hid (∀ k, k ≤ ts.length → (mkt ts k : Int) ≤ 2 * tsz ts) := hid fun k hk => by have := mkt_le hk; omega
  have HA1 := hid ha1
  have HA2 := hid ha2
  have HI : Hid (MkdT w lo hi v ts f 0) := hid ⟨⟨_, ho, fun j _ hj => tcs_get ts f hj⟩, fun j _ hj => hr j hj⟩
  obtain ⟨A, c, rfl, hc1, hc2, _⟩ := ho.shape
  have hlen : ts.length ≤ tsz ts := by unfold tsz; omega
  clear ho hr ha1 ha2
  go_enter Try.func66, Try.ntmps66
  go_wp2
  go_loopg [1, 5] ts.length (fun gg mk s wr => ∃ k : Nat, k ≤ ts.length ∧ ts.length - k ≤ gg ∧ s = .int .i64 k ∧ mk = .int .i64 (m + mkt ts k) ∧ Aside (Chg lo hi w wr) ∧ Aside (MkdT wr lo hi (.slice A ts.length c) ts f k))
  case atStart => exact ⟨0, Nat.zero_le _, by omega, rfl, by simp [mkt, ttot], Chg.refl _ _ _, HI.out⟩
  case round =>
    obtain ⟨k, hk, hg, rfl, rfl, CW, OW⟩ := hrel
    clear HI
    by_cases hlt : k < ts.length
    · have hlt' : (k : Int) < (ts.length : Int) := by omega
      obtain ⟨cs, hown, hcs⟩ := OW.out.outer
      obtain ⟨A', c', e', _, _, hs⟩ := hown.shape
      obtain ⟨rfl, rfl⟩ : A' = A ∧ c' = c := by cases e'; exact ⟨rfl, rfl⟩
      rcases hs with ⟨_, hz⟩ | ⟨g, rfl, hlo, hhi, hcells, hfr⟩
      · omega
      obtain ⟨e0, e1, e2⟩ := hcs k (Nat.le_refl _) hlt
      have hc0 := hcells _ _ e0
      have hc1' := hcells _ _ e1
      have hc2' := hcells _ _ e2
      have hf0 := hfr (k * 3)
      have hf1 := hfr (k * 3 + 1)
      have hrow := OW.out.left k (Nat.le_refl _) hlt
      obtain ⟨Ar, cr, efk, _, _, _⟩ := hrow.shp
      have hst : mkt ts (k + 1) = mkt ts k + 2 + (tel ts k).needs.length := by unfold mkt; simp only [ttot]; omega
      have hb1 := HT.out (k + 1) (by omega)
      have hb0 := HT.out k (by omega)
      have hgr : ∀ j, j < ts.length → ∀ a, (f j).ownBlock = some a → a ≠ g := fun j hj a ha => (Ne.symm (HA2.out j g a hj rfl ha))
      have hkeep : ∀ (x y : Int) (j : Nat), j ≠ g → ((wr.setCell ⟨g, k * 3, none⟩ (.int .i64 x)).setCell ⟨g, k * 3 + 1, none⟩ (.int .i64 y)).heap[j]? = wr.heap[j]? := fun x y j hj => by
        rw [heap_setCell_other _ _ _ _ (by show j ≠ g; exact hj), heap_setCell_other _ _ _ _ (by show j ≠ g; exact hj)]
      have hsz : ∀ (x y : Int), ((wr.setCell ⟨g, k * 3, none⟩ (.int .i64 x)).setCell ⟨g, k * 3 + 1, none⟩ (.int .i64 y)).heap.size = wr.heap.size := fun x y => by simp [World.setCell]
      have hcall : Hid (Calls Try.prog 25 #[f k, .int .i64 (m + mkt ts k + 1 + 1)] ((wr.setCell ⟨g, k * 3, none⟩ (.int .i64 (m + mkt ts k))).setCell ⟨g, k * 3 + 1, none⟩ (.int .i64 (m + mkt ts k + 1))) fun e w' => e = .returned (.int .i64 (m + mkt ts k + 1 + 1 + (tel ts k).needs.length)) ∧ Chg lo hi wr w' ∧ MkdT w' lo hi (.slice (some ⟨g, 0, none⟩) ts.length c') ts f (k + 1)) := hid (by
        have hown2 := (hown.set (k * 3) (.int .i64 (m + mkt ts k))).set (k * 3 + 1) (.int .i64 (m + mkt ts k + 1))
        have hch := (chg_set wr hlo hhi (k * 3) (.int .i64 (m + mkt ts k))).trans (chg_set _ hlo hhi (k * 3 + 1) (.int .i64 (m + mkt ts k + 1)))
        have hleft : ∀ j, k ≤ j → j < ts.length → OI ((wr.setCell ⟨g, k * 3, none⟩ (.int .i64 (m + mkt ts k))).setCell ⟨g, k * 3 + 1, none⟩ (.int .i64 (m + mkt ts k + 1))) lo hi (f j) (tel ts j).needs := fun j h1 h2 => own_blk (OW.out.left j h1 h2) fun a ha => hkeep _ _ a (hgr j h2 a ha)
        have hcs2 : ∀ j, k + 1 ≤ j → j < ts.length → ((cs.set (k * 3) (.int .i64 (m + mkt ts k))).set (k * 3 + 1) (.int .i64 (m + mkt ts k + 1)))[j * 3]? = some (.int .i64 (tel ts j).port) ∧ ((cs.set (k * 3) (.int .i64 (m + mkt ts k))).set (k * 3 + 1) (.int .i64 (m + mkt ts k + 1)))[j * 3 + 1]? = some (.int .i64 (tel ts j).lat) ∧ ((cs.set (k * 3) (.int .i64 (m + mkt ts k))).set (k * 3 + 1) (.int .i64 (m + mkt ts k + 1)))[j * 3 + 2]? = some (f j) := fun j h1 h2 => by
          rw [List.getElem?_set_ne (by omega), List.getElem?_set_ne (by omega), List.getElem?_set_ne (by omega), List.getElem?_set_ne (by omega), List.getElem?_set_ne (by omega), List.getElem?_set_ne (by omega)]
          exact hcs j (by omega) h2
        have hs1 := hsz (m + mkt ts k) (m + mkt ts k + 1)
        generalize (wr.setCell ⟨g, k * 3, none⟩ (.int .i64 (m + mkt ts k))).setCell ⟨g, k * 3 + 1, none⟩ (.int .i64 (m + mkt ts k + 1)) = V at *
        cases hob : (f k).ownBlock with
        | none =>
          have hnar : OI V lo lo (f k) (tel ts k).needs := ⟨(hleft k (Nat.le_refl _) hlt).1, fun a ha => by rw [hob] at ha; cases ha⟩
          refine (l_markInt64SO V lo lo (f k) (tel ts k).needs (m + mkt ts k + 1 + 1) (by omega) (by omega) hnar).mono ?_
          rintro e w' ⟨rfl, ho, hC⟩
          have hq : ∀ j, j < V.heap.size → w'.heap[j]? = V.heap[j]? := fun j hj => hC.block j hj (by omega)
          refine ⟨rfl, hch.trans (hC.wide (Nat.le_refl _) (by omega)), ⟨_, own_blk hown2 fun j hj => hq j (own_at hown2 hj).2.2, hcs2⟩, fun j h1 h2 => ?_⟩
          exact own_blk (hleft j (by omega) h2) fun i hi => hq i (own_at (hleft j (by omega) h2) hi).2.2
        | some a =>
          have hnar : OI V a (a + 1) (f k) (tel ts k).needs := own_tight (hleft k (Nat.le_refl _) hlt) hob
          have hat := own_at (hleft k (Nat.le_refl _) hlt) hob
          refine (l_markInt64SO V a (a + 1) (f k) (tel ts k).needs (m + mkt ts k + 1 + 1) (by omega) (by omega) hnar).mono ?_
          rintro e w' ⟨rfl, ho, hC⟩
          have hq : ∀ j, j < V.heap.size → j ≠ a → w'.heap[j]? = V.heap[j]? := fun j hj hn => hC.block j hj (by omega)
          refine ⟨rfl, hch.trans (hC.wide (by omega) (by omega)), ⟨_, own_blk hown2 fun j hj => hq j (own_at hown2 hj).2.2 (HA2.out k j a hlt hj hob), hcs2⟩, fun j h1 h2 => ?_⟩
          exact own_blk (hleft j (by omega) h2) fun i hi => hq i (own_at (hleft j (by omega) h2) hi).2.2 (Ne.symm (HA1.out k j a i (by omega) h2 hob hi)))
      have HE : Hid (m + mkt ts k + 1 + 1 + (tel ts k).needs.length = m + mkt ts (k + 1)) := hid (by omega)
      have HC := hid CW.out
      have hb3 : m + mkt ts k + 1 + 1 ≤ 9223372036854775807 := by omega
      have hb2 : 0 ≤ m + (mkt ts k : Int) := by omega
      clear hcells hfr e' OW CW hrow hst hb0 hb1 HT HA1 HA2 hkeep hsz hgr hcs e0 e1 e2 hown
      rw [efk] at hc2' hcall
      clear efk
      generalize mkt ts k = t at *
      generalize (tel ts k).needs.length = rl at *
      go_wp2_with fail
      refine hcall.out.mono ?_
      rintro e w' ⟨rfl, hC, hM⟩
      have C2 := hid (HC.out.trans hC)
      have M2 := hid hM
      clear hC hM HC hcall hc0 hc1' hc2' hf0 hf1
      go_wp2_with fail
      go_roundg (ts.length - (k + 1))
      case measure => omega
      case rel => exact ⟨k + 1, by omega, by omega, by go_num, by rw [HE.out], C2.out, M2.out⟩
    · have : k = ts.length := by omega
      subst this
      have hlt' : ¬ ((ts.length : Nat) : Int) < ((ts.length : Nat) : Int) := by omega
      have HC := hid CW.out
      clear OW CW HT
      go_wp2_with fail
      go_ret
      exact ⟨rfl, HC.out⟩
end Go.Proofs.Ytcknhjeefdbhbaa
