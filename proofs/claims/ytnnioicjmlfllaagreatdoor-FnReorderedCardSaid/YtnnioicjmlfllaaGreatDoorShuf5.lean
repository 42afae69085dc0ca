import Derived.Test.YtnnioicjmlfllaaGreatDoorShuf
import Derived.Test.YtnnioicjmlfllaaGreatDoorLawO
set_option linter.unusedVariables false
set_option linter.unusedSimpArgs false
namespace Go.Proofs.YtnnioicjmlfllaaGreatDoor
open Go.RowKit

/-! ### Lists of lists that are read -/
def rw_ (xss : List (List Int)) (k : Nat) : List Int := xss.getD k []
theorem rw_get {xss : List (List Int)} {k : Nat} (h : k < xss.length) : xss[k]? = some (rw_ xss k) := by
  unfold rw_; rw [List.getD_eq_getElem?_getD, List.getElem?_eq_getElem h]; simp
theorem rw_mem {xss : List (List Int)} {k : Nat} (h : k < xss.length) : rw_ xss k ∈ xss := List.mem_of_getElem? (rw_get h)
/-- The rows of a slice of slices: their values, and what they read as. -/
def RdR (w : World) (A : Option Addr) (xss : List (List Int)) : Prop :=
  ∃ f : Nat → Value, Rd w A xss.length f ∧ ∀ k, k < xss.length → ∃ A' c', f k = .slice A' (rw_ xss k).length c' ∧ (rw_ xss k).length ≤ c' ∧ RdI w A' (rw_ xss k)
theorem RdR.below {w W : World} {A : Option Addr} {xss : List (List Int)} (h : RdR w A xss) (hb : Below w.heap.size w W) : RdR W A xss := by
  obtain ⟨f, hf, hr⟩ := h
  exact ⟨f, hf.below hb, fun k hk => by obtain ⟨A', c', e, hc, h⟩ := hr k hk; exact ⟨A', c', e, hc, h.below hb⟩⟩
theorem RdR.get {w : World} {A : Option Addr} {xss : List (List Int)} (h : RdR w A xss) {k : Nat} (hk : k < xss.length) :
    ∃ b off A' c', A = some ⟨b, off, none⟩ ∧ w.cell? ⟨b, off + k, none⟩ = some (.slice A' (rw_ xss k).length c') ∧ (rw_ xss k).length ≤ c' ∧ RdI w A' (rw_ xss k) := by
  obtain ⟨f, hf, hr⟩ := h
  obtain ⟨b, off, e, hc⟩ := hf k hk
  obtain ⟨A', c', e', hcc, h⟩ := hr k hk
  exact ⟨b, off, A', c', e, by rw [hc, e'], hcc, h⟩
theorem allN_rows (xss : List (List Int)) (p : List Int → Bool) : allN xss.length (fun k => p (rw_ xss k)) = xss.all p := by
  unfold allN
  rw [Bool.eq_iff_iff, List.all_eq_true, List.all_eq_true]
  constructor
  · intro h x hx
    obtain ⟨k, hk, rfl⟩ := List.getElem_of_mem hx
    have := h k (List.mem_range.2 hk)
    have e := rw_get hk; rw [List.getElem?_eq_getElem hk] at e; rw [Option.some.inj e]; exact this
  · intro h k hk
    exact h _ (rw_mem (List.mem_range.1 hk))
/-- Rows that are vectors with as many lanes as the first one. -/
def vecsB (b : Int) (xss : List (List Int)) : Bool := xss.all fun xs => vecB b xs && decide (xs.length = (rw_ xss 0).length)


end Go.Proofs.YtnnioicjmlfllaaGreatDoor
