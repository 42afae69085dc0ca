import Derived.Test.YtmpdaafkphpnoaaGreatSrg2
import Derived.Test.YtmpdaafkphpnoaaGreatCln
set_option linter.unusedVariables false
set_option linter.unusedSimpArgs false
namespace Go.Proofs.YtmpdaafkphpnoaaGreat
open Go.RowKit

/-! ### The units' table -/
def inG (gs : List (List Int)) (i : Int) : Bool := decide (0 ≤ idxN (fun k => hasB (rw_ gs k) i) gs.length gs.length)
def snG (gs : List (List Int)) : Nat → List (List Int)
  | 0 => []
  | k + 1 => if inG gs k then snG gs k else snG gs k ++ [[(k : Int)]]
def tabG (gs : List (List Int)) (n : Nat) : List (List Int) := gs ++ snG gs n
theorem snG_len (gs : List (List Int)) (n : Nat) : (snG gs n).length ≤ n := by
  induction n with
  | zero => simp [snG]
  | succ n ih => simp only [snG]; split
                 · omega
                 · simp; omega
def m_units (cs : List SmV) (R : List (List Int)) : List Nat × Bool := unS cs R R.length (List.range R.length) [] []
/-- What changes while units are put in order: one's own list of what is left, the done set's box, and new blocks. -/
structure FrU (H : Nat) (b6 : Option Nat) (bd : Nat) (W6 w : World) : Prop where
  os : w.os = W6.os
  tape : w.tape = W6.tape
  output : w.output = W6.output
  size : W6.heap.size ≤ w.heap.size
  hH : W6.heap.size = H
  block : ∀ a, a < H → b6 ≠ some a → a ≠ bd → w.heap[a]? = W6.heap[a]?
theorem FrU.refl (H : Nat) (b6 : Option Nat) (bd : Nat) (W : World) (h : W.heap.size = H) : FrU H b6 bd W W := ⟨rfl, rfl, rfl, Nat.le_refl _, h, fun _ _ _ _ => rfl⟩
theorem FrU.below {H : Nat} {b6 : Option Nat} {bd : Nat} {W6 w w' : World} (h : FrU H b6 bd W6 w) (hb : Below w.heap.size w w') : FrU H b6 bd W6 w' :=
  ⟨hb.os.trans h.os, hb.tape.trans h.tape, hb.output.trans h.output, Nat.le_trans h.size hb.size, h.hH, fun a ha h1 h2 => (hb.block a (by have := h.size; have := h.hH; omega)).trans (h.block a ha h1 h2)⟩
theorem FrU.belowH {H : Nat} {b6 : Option Nat} {bd : Nat} {W6 w w' : World} (h : FrU H b6 bd W6 w) (hb : Below H w w') : FrU H b6 bd W6 w' :=
  ⟨hb.os.trans h.os, hb.tape.trans h.tape, hb.output.trans h.output, Nat.le_trans h.size hb.size, h.hH, fun a ha h1 h2 => (hb.block a ha).trans (h.block a ha h1 h2)⟩
theorem FrU.chg {H : Nat} {b6 : Option Nat} {bd : Nat} {W6 w w' : World} (h : FrU H b6 bd W6 w) (hb : Chg bd (bd + 1) w w') : FrU H b6 bd W6 w' :=
  ⟨hb.os.trans h.os, hb.tape.trans h.tape, hb.output.trans h.output, Nat.le_trans h.size hb.size, h.hH, fun a ha h1 h2 => (hb.block a (by have := h.size; have := h.hH; omega) (by omega)).trans (h.block a ha h1 h2)⟩
theorem FrU.grown {H : Nat} {b6 : Option Nat} {bd : Nat} {W6 w w' : World} (h : FrU H b6 bd W6 w) (hb : w.grownBy w' b6) : FrU H b6 bd W6 w' :=
  ⟨hb.os.trans h.os, hb.tape.trans h.tape, hb.output.trans h.output, Nat.le_trans h.size hb.size, h.hH, fun a ha h1 h2 => (hb.block a (by have := h.size; have := h.hH; omega) (Ne.symm h1)).trans (h.block a ha h1 h2)⟩
/-- What stands at the loop's beginning. -/
structure UE (W6 : World) (lo lb bn : Nat) (b6 : Option Nat) (R : List (List Int)) (f : Nat → Value) (vN : Value) (cs : List SmV) : Prop where
  tb : TB W6 lo lb R f
  apt : ∀ k a b, k < R.length → b6 = some a → (f k).ownBlock = some b → a ≠ b
  b6lt : ∀ a, b6 = some a → lo ≤ a ∧ a < lb
  need : OwnI W6 lb bn 3 vN (ndL cs)
  lbn : lb ≤ bn
  cell : W6.cell? ⟨bn, 0, none⟩ = some vN
  hH : W6.heap.size = bn + 2
theorem UE.at_ {W6 w : World} {lo lb bn : Nat} {b6 : Option Nat} {R : List (List Int)} {f : Nat → Value} {vN : Value} {cs : List SmV} (h : UE W6 lo lb bn b6 R f vN cs) (hF : FrU (bn + 2) b6 (bn + 1) W6 w) :
    TB w lo lb R f ∧ OwnI w lb bn 3 vN (ndL cs) ∧ w.cell? ⟨bn, 0, none⟩ = some vN := by
  have hlb := h.lbn
  refine ⟨h.tb.keep fun k a hk ha => ?_, own_blk h.need fun a ha => ?_, ?_⟩
  · have := h.tb.lt hk ha
    exact hF.block a (by omega) (fun q => h.apt k a a hk q ha rfl) (by omega)
  · have := own_at h.need ha
    exact hF.block a (by omega) (fun q => by have := h.b6lt a q; omega) (by omega)
  · exact (World.cell?_of_block (a := ⟨bn, 0, none⟩) (hF.block bn (by omega) (fun q => by have := h.b6lt bn q; omega) (by omega))).trans h.cell
theorem LS.rd {w : World} {lo hi : Nat} {f : Nat → Value} {v : Value} {L : List Nat} (h : LS w lo hi f v L) : ∃ A c, v = .slice A L.length c ∧ L.length ≤ c ∧ c ≤ 9223372036854775807 ∧ Rd w A L.length (fun k => f (L.getD k 0)) := by
  obtain ⟨A, c, rfl, h1, h2, h3⟩ := Own.shape h
  refine ⟨A, c, rfl, h1, h2, fun k hk => ?_⟩
  rcases h3 with ⟨_, h0⟩ | ⟨g, rfl, _, _, hc, _⟩
  · omega
  · refine ⟨g, 0, rfl, ?_⟩
    have := hc k (f (L.getD k 0)) (by rw [List.getElem?_map, List.getElem?_eq_getElem hk]; simp [List.getD_eq_getElem?_getD, List.getElem?_eq_getElem hk])
    simpa using this
/-- The next unit that is ready. -/
theorem g_Next {W6 w : World} {lo lb bn : Nat} {b6 : Option Nat} {R : List (List Int)} {f : Nat → Value} {vN : Value} {cs : List SmV} (h : UE W6 lo lb bn b6 R f vN cs) (hF : FrU (bn + 2) b6 (bn + 1) W6 w)
    (hU : ∀ k, k < R.length → InU cs (rw_ R k) ∧ (rw_ R k).length ≤ 1048576) {lo' hi' : Nat} {v : Value} {L : List Nat} (hL : LS w lo' hi' f v L) (hLR : ∀ x ∈ L, x < R.length) (D : List Int) (hD : ∀ x ∈ D, 0 ≤ x ∧ x < 16)
    (hd : w.cell? ⟨bn + 1, 0, none⟩ = some (.int .i64 (mskL D : Nat))) :
    Calls Tryz.prog 138 #[v, .func (.func 139) #[] #[.pointer (some ⟨bn, 0, none⟩), .pointer (some ⟨bn + 1, 0, none⟩)]] w fun e w' => e = .returned (.int .i64 (nxI cs R D L)) ∧ Below w.heap.size w w' := by
  obtain ⟨A, c, rfl, h1, h2, hR⟩ := hL.rd
  obtain ⟨hT, hN, hc⟩ := h.at_ hF
  refine indexFuncR w A L.length c _ 139 _ (fun k => rdyB cs D (rw_ R (L.getD k 0))) (by omega) hR (enters_of Tryz.func139 (by kernel_rfl) rfl) (fun W hW k hk => ?_)
  have hx := hLR _ (getD_mem' hk)
  obtain ⟨A', c', e, _, hr⟩ := hT.shp hx
  obtain ⟨An, cn, eN, _, _, hrn⟩ := Own.int hN
  rw [ndL_length] at eN
  have C := i_units3 W A' An c' cn bn (bn + 1) (rw_ R (L.getD k 0)) cs D (hU _ hx).1 (hU _ hx).2 hD (by rw [← eN]; exact bcell hW hc) (bcell hW hd) (hrn.below hW) (hr.below hW)
  rw [← e] at C
  refine C.mono fun e w' hq => ?_
  obtain ⟨he, rfl⟩ := hq
  exact ⟨he, Below.refl _ _⟩
/-- .. and with no unit at all. -/
theorem g_SortU0 (w : World) (lo hi : Nat) (v : Value) (R : List (List Int)) (mn : Nat → Nat) (hN2 : R.length ≤ 1048576)
    (hm : ∀ k, k < R.length → Lib.minOf (rw_ R k) = mn k ∧ mn k < 16 ∧ 1 ≤ (rw_ R k).length ∧ (rw_ R k).length ≤ 1048576) (hinj : ∀ i j, i < R.length → j < R.length → mn i = mn j → i = j) (h : OR w lo hi v R) :
    Calls Tryz.prog 135 #[v, .func (.func 136) #[] #[]] w fun e w' => e = .returned (.tuple #[]) ∧ ∃ f L, L.Perm (List.range R.length) ∧ L.Pairwise (fun x y => Lib.minOf (rw_ R x) < Lib.minOf (rw_ R y)) ∧ LS w' lo hi f v L ∧ TB w' lo hi R f ∧ Apt R f v ∧ w.grownBy w' v.ownBlock := by
  by_cases hN : 0 < R.length
  · exact g_SortU w lo hi v R mn hN hN2 hm hinj h
  · obtain rfl : R = [] := List.eq_nil_of_length_eq_zero (by omega)
    obtain ⟨f, hL, hT, hA⟩ := h.parts
    obtain ⟨A, c, rfl, _, _, _⟩ := hL.rd
    refine (Tryz.slices_SortFunc_none (α := Nat) A c _ w).mono fun e w' hq => ?_
    obtain ⟨he, rfl⟩ := hq
    exact ⟨he, f, _, List.Perm.refl _, by simp, hL, hT, hA, ⟨rfl, rfl, rfl, Nat.le_refl _, fun _ _ _ => rfl⟩⟩
end Go.Proofs.YtmpdaafkphpnoaaGreat
