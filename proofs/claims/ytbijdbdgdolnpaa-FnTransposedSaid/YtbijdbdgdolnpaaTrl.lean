import Derived.Test.YtbijdbdgdolnpaaStep2
import Derived.Test.YtbijdbdgdolnpaaTrans2
import Derived.Test.YtbijdbdgdolnpaaR8
import Derived.Test.YtbijdbdgdolnpaaSrc3
set_option linter.unusedVariables false
set_option linter.unusedSimpArgs false
namespace Go.Proofs.Ytbijdbdgdolnpaa
open Go.RowKit

/-! ### Steps with all distances transpose: plain lists -/
theorem trN_mat (xss : List (List Int)) : trN xss = mat xss.length (fun i k => el (rw_ xss k) i) := rfl
theorem mat_ok {n : Nat} (g : Nat → Nat → Int) (hn : n = 2 ∨ n = 4 ∨ n = 8 ∨ n = 16) : ROk (mat n g) := ⟨by rw [mat_length]; exact hn, fun k hk => by rw [mat_length] at hk ⊢; exact mat_row_length g hk⟩
theorem rowsB_mat {b : Int} {xss : List (List Int)} (h : rowsB b xss = true) {n : Nat} (hn : xss.length = n) {g : Nat → Nat → Int} (hg : ∀ r c, r < n → c < n → ∃ p q, p < n ∧ q < n ∧ g r c = el (rw_ xss p) q) : rowsB b (mat n g) = true := by
  have hO := ROk.of h
  simp only [rowsB, Bool.and_eq_true, List.all_eq_true, decide_eq_true_eq] at h ⊢
  rw [mat_length]
  refine ⟨by rw [← hn]; exact h.1, fun x hx => ?_⟩
  obtain ⟨r, hr, rfl⟩ := List.getElem_of_mem hx
  have e := rw_get hr; rw [List.getElem?_eq_getElem hr] at e; rw [Option.some.inj e]
  rw [mat_length] at hr
  have hl := mat_row_length g hr
  refine ⟨?_, hl⟩
  have h0 := h.2 (rw_ xss 0) (rw_mem (by omega))
  simp only [vecB, Bool.and_eq_true, List.all_eq_true] at h0 ⊢
  rw [hl]
  refine ⟨⟨h0.1.1.1, by rw [← hn]; exact h.1⟩, fun y hy => ?_⟩
  obtain ⟨c, hc, rfl⟩ := List.getElem_of_mem hy
  have e := el_get hc; rw [List.getElem?_eq_getElem hc] at e; rw [Option.some.inj e]
  rw [hl] at hc
  rw [mat_el g hr hc]
  obtain ⟨p, q, hp, hq, e⟩ := hg r c hr hc
  rw [e]
  have h1 := h.2 (rw_ xss p) (rw_mem (by omega))
  simp only [vecB, Bool.and_eq_true, List.all_eq_true] at h1
  exact h1.1.2 _ (el_mem (by have := h1.2; omega))
theorem rowsB_trN {b : Int} {xss : List (List Int)} (h : rowsB b xss = true) : rowsB b (trN xss) = true := by
  rw [trN_mat]; exact rowsB_mat h rfl fun r c hr hc => ⟨c, r, hc, hr, rfl⟩
theorem trN_trN {xss : List (List Int)} (h : ROk xss) : trN (trN xss) = xss := by
  have h1 : trN (trN xss) = mat xss.length (fun i k => el (rw_ (trN xss) k) i) := by rw [trN_mat (trN xss), trN_length]
  rw [h1]
  refine (mat_ext fun r c hr hc => ?_).trans (mat_self h)
  rw [trN_mat, mat_el _ hc hr]
theorem sig_in {n far : Nat} (hF : FarOk n far) {r c : Nat} (hr : r < n) (hc : c < n) (xss : List (List Int)) : ∃ p q, p < n ∧ q < n ∧ tsE xss far r c = el (rw_ xss p) q := by
  unfold tsE; split
  · exact ⟨r, c, hr, hc, rfl⟩
  · exact ⟨xo far r, xo far c, hF.xoin r hr, hF.xoin c hc, rfl⟩
theorem rowsB_step {b : Int} {xss : List (List Int)} (h : rowsB b xss = true) {n far : Nat} (hn : xss.length = n) (hF : FarOk n far) : rowsB b (mat n (tsE xss far)) = true := rowsB_mat h hn fun r c hr hc => sig_in hF hr hc xss
/-- Where an element comes from, after steps. -/
def sig (far : Nat) (p : Nat × Nat) : Nat × Nat := if bt far p.1 = bt far p.2 then p else (xo far p.1, xo far p.2)
def idxL (fs : List Nat) (p : Nat × Nat) : Nat × Nat := fs.foldr (fun f p => sig f p) p
def seqM (n : Nat) (xss : List (List Int)) (fs : List Nat) : List (List Int) := fs.foldl (fun M f => mat n (tsE M f)) xss
theorem tsE_sig (xss : List (List Int)) (far : Nat) (p : Nat × Nat) : tsE xss far p.1 p.2 = el (rw_ xss (sig far p).1) (sig far p).2 := by unfold tsE sig; split <;> rfl
theorem sig_lt {n far : Nat} (hF : FarOk n far) {p : Nat × Nat} (h1 : p.1 < n) (h2 : p.2 < n) : (sig far p).1 < n ∧ (sig far p).2 < n := by
  unfold sig; split
  · exact ⟨h1, h2⟩
  · exact ⟨hF.xoin _ h1, hF.xoin _ h2⟩
theorem idxL_lt {n : Nat} {fs : List Nat} (hF : ∀ f, f ∈ fs → FarOk n f) {p : Nat × Nat} (h1 : p.1 < n) (h2 : p.2 < n) : (idxL fs p).1 < n ∧ (idxL fs p).2 < n := by
  induction fs with
  | nil => exact ⟨h1, h2⟩
  | cons f fs ih => have := ih fun g hg => hF g (List.mem_cons_of_mem _ hg); exact sig_lt (hF f List.mem_cons_self) this.1 this.2
theorem seqM_el {n : Nat} (hn : n = 2 ∨ n = 4 ∨ n = 8 ∨ n = 16) {fs : List Nat} (hF : ∀ f, f ∈ fs → FarOk n f) : ∀ (xss : List (List Int)), ROk xss → xss.length = n → ∀ p : Nat × Nat, p.1 < n → p.2 < n → el (rw_ (seqM n xss fs) p.1) p.2 = el (rw_ xss (idxL fs p).1) (idxL fs p).2 := by
  induction fs with
  | nil => intro xss _ _ p _ _; rfl
  | cons f fs ih =>
    intro xss hO hl p h1 h2
    have hF' : ∀ g, g ∈ fs → FarOk n g := fun g hg => hF g (List.mem_cons_of_mem _ hg)
    show el (rw_ (seqM n (mat n (tsE xss f)) fs) p.1) p.2 = _
    rw [ih hF' (mat n (tsE xss f)) (mat_ok _ hn) (mat_length _ _) p h1 h2]
    have := idxL_lt hF' h1 h2
    rw [mat_el _ this.1 this.2, tsE_sig]
    rfl
theorem seqM_ok {n : Nat} (hn : n = 2 ∨ n = 4 ∨ n = 8 ∨ n = 16) {fs : List Nat} : ∀ xss, ROk xss → xss.length = n → ROk (seqM n xss fs) ∧ (seqM n xss fs).length = n := by
  induction fs with
  | nil => intro xss h hl; exact ⟨h, hl⟩
  | cons f fs ih => intro xss _ _; exact ih (mat n (tsE xss f)) (mat_ok _ hn) (mat_length _ _)
theorem seqM_trN {n : Nat} (hn : n = 2 ∨ n = 4 ∨ n = 8 ∨ n = 16) {fs : List Nat} (hF : ∀ f, f ∈ fs → FarOk n f) {xss : List (List Int)} (hO : ROk xss) (hl : xss.length = n) (hd : ∀ r, r < n → ∀ c, c < n → idxL fs (r, c) = (c, r)) : seqM n xss fs = trN xss := by
  obtain ⟨h1, h2⟩ := seqM_ok hn (fs := fs) xss hO hl
  rw [← mat_self h1, h2, trN_mat, hl]
  refine mat_ext fun r c hr hc => ?_
  have := seqM_el hn hF xss hO hl (r, c) hr hc
  rw [hd r hr c hc] at this
  exact this
def upF (n : Nat) : List Nat := if n = 2 then [1] else if n = 4 then [1, 2] else if n = 8 then [1, 2, 4] else [1, 2, 4, 8]
def dnF (n : Nat) : List Nat := if n = 2 then [1] else if n = 4 then [2, 1] else if n = 8 then [4, 2, 1] else [8, 4, 2, 1]
theorem up_all : ∀ n ∈ [2, 4, 8, 16], ∀ r, r < n → ∀ c, c < n → idxL (upF n) (r, c) = (c, r) := by decide +kernel
theorem dn_all : ∀ n ∈ [2, 4, 8, 16], ∀ r, r < n → ∀ c, c < n → idxL (dnF n) (r, c) = (c, r) := by decide +kernel
theorem up_ok {n : Nat} (hn : n = 2 ∨ n = 4 ∨ n = 8 ∨ n = 16) : ∀ f, f ∈ upF n → FarOk n f := fun f hf => FarOk.of hn (by rcases hn with rfl | rfl | rfl | rfl <;> simp [upF] at hf <;> omega) (by rcases hn with rfl | rfl | rfl | rfl <;> simp [upF] at hf <;> omega)
theorem dn_ok {n : Nat} (hn : n = 2 ∨ n = 4 ∨ n = 8 ∨ n = 16) : ∀ f, f ∈ dnF n → FarOk n f := fun f hf => FarOk.of hn (by rcases hn with rfl | rfl | rfl | rfl <;> simp [dnF] at hf <;> omega) (by rcases hn with rfl | rfl | rfl | rfl <;> simp [dnF] at hf <;> omega)
theorem up_trN {n : Nat} (hn : n = 2 ∨ n = 4 ∨ n = 8 ∨ n = 16) {xss : List (List Int)} (hO : ROk xss) (hl : xss.length = n) : seqM n xss (upF n) = trN xss := seqM_trN hn (up_ok hn) hO hl (up_all n (by simp; omega))
theorem dn_trN {n : Nat} (hn : n = 2 ∨ n = 4 ∨ n = 8 ∨ n = 16) {xss : List (List Int)} (hO : ROk xss) (hl : xss.length = n) : seqM n xss (dnF n) = trN xss := seqM_trN hn (dn_ok hn) hO hl (dn_all n (by simp; omega))
/-- The k-th distance, ahead of it k were done; up: 2 to the power of k; down: n / 2 over it. -/
theorem up_len {n : Nat} (hn : n = 2 ∨ n = 4 ∨ n = 8 ∨ n = 16) : ∀ k, k < (upF n).length → (upF n)[k]? = some (2 ^ k) ∧ 2 ^ k < n ∧ (2 ^ k = 1 ∨ 2 ^ k = 2 ∨ 2 ^ k = 4 ∨ 2 ^ k = 8) := by
  rcases hn with rfl | rfl | rfl | rfl <;> decide
theorem up_end {n : Nat} (hn : n = 2 ∨ n = 4 ∨ n = 8 ∨ n = 16) : 2 ^ (upF n).length = n ∧ (upF n).length ≤ 4 := by
  rcases hn with rfl | rfl | rfl | rfl <;> decide
theorem seqM_snoc (n : Nat) (xss : List (List Int)) (fs : List Nat) (f : Nat) : seqM n xss (fs ++ [f]) = mat n (tsE (seqM n xss fs) f) := by unfold seqM; rw [List.foldl_append]; rfl
theorem rowsB_seq {b : Int} {n : Nat} (hn : n = 2 ∨ n = 4 ∨ n = 8 ∨ n = 16) {fs : List Nat} (hF : ∀ f, f ∈ fs → FarOk n f) : ∀ xss, rowsB b xss = true → xss.length = n → rowsB b (seqM n xss fs) = true := by
  induction fs with
  | nil => intro xss h _; exact h
  | cons f fs ih => intro xss h hl; exact ih (fun g hg => hF g (List.mem_cons_of_mem _ hg)) _ (rowsB_step h hl (hF f List.mem_cons_self)) (mat_length _ _)
theorem step_ok {b : Int} {xss : List (List Int)} {n far : Nat} (h : rowsB b xss = true) (hl : xss.length = n) (hF : FarOk n far) (hf : far = 1 ∨ far = 2 ∨ far = 4 ∨ far = 8) : m_TransposeStep b xss far = (mat n (tsE xss far), true) := by
  unfold m_TransposeStep
  have : farB (far : Int) xss.length = true := by unfold farB; rw [hl]; have := hF.lt; rcases hf with rfl | rfl | rfl | rfl <;> simp <;> omega
  rw [h, this, hl]; rfl
end Go.Proofs.Ytbijdbdgdolnpaa
