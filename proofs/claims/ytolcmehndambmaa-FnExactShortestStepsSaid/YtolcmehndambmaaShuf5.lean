import Derived.Test.YtolcmehndambmaaShuf
import Derived.Test.YtolcmehndambmaaLawO
set_option linter.unusedVariables false
set_option linter.unusedSimpArgs false
namespace Go.Proofs.Ytolcmehndambmaa
open Go.RowKit

/-! ### Lists of lists that are read -/
def rw_ (xss : List (List Int)) (k : Nat) : List Int := xss.getD k []
theorem rw_get {xss : List (List Int)} {k : Nat} (h : k < xss.length) : xss[k]? = some (rw_ xss k) := by
  unfold rw_; rw [List.getD_eq_getElem?_getD, List.getElem?_eq_getElem h]; simp
theorem rw_mem {xss : List (List Int)} {k : Nat} (h : k < xss.length) : rw_ xss k ∈ xss := List.mem_of_getElem? (rw_get h)
/-- The rows of a slice of slices: their values, and what they read as. -/
def RdR (w : World) (A : Option Addr) (xss : List (List Int)) : Prop :=
  ∃ f : Nat → Value, Rd w A xss.length f ∧ ∀ k, k < xss.length → ∃ A' c', f k = .slice A' (rw_ xss k).length c' ∧ (rw_ xss k).length ≤ c' ∧ RdI w A' (rw_ xss k)
theorem RdR.below {w W : World} {A : Option Addr} {xss : List (List Int)} (h : RdR w A xss) (hb : Below w.heap.size w W) : RdR W A xss := by
  obtain ⟨f, hf, hr⟩ := h
  exact ⟨f, hf.below hb, fun k hk => by obtain ⟨A', c', e, hc, h⟩ := hr k hk; exact ⟨A', c', e, hc, h.below hb⟩⟩
theorem RdR.get {w : World} {A : Option Addr} {xss : List (List Int)} (h : RdR w A xss) {k : Nat} (hk : k < xss.length) :
    ∃ b off A' c', A = some ⟨b, off, none⟩ ∧ w.cell? ⟨b, off + k, none⟩ = some (.slice A' (rw_ xss k).length c') ∧ (rw_ xss k).length ≤ c' ∧ RdI w A' (rw_ xss k) := by
  obtain ⟨f, hf, hr⟩ := h
  obtain ⟨b, off, e, hc⟩ := hf k hk
  obtain ⟨A', c', e', hcc, h⟩ := hr k hk
  exact ⟨b, off, A', c', e, by rw [hc, e'], hcc, h⟩
theorem allN_rows (xss : List (List Int)) (p : List Int → Bool) : allN xss.length (fun k => p (rw_ xss k)) = xss.all p := by
  unfold allN
  rw [Bool.eq_iff_iff, List.all_eq_true, List.all_eq_true]
  constructor
  · intro h x hx
    obtain ⟨k, hk, rfl⟩ := List.getElem_of_mem hx
    have := h k (List.mem_range.2 hk)
    have e := rw_get hk; rw [List.getElem?_eq_getElem hk] at e; rw [Option.some.inj e]; exact this
  · intro h k hk
    exact h _ (rw_mem (List.mem_range.1 hk))
/-- Rows that are vectors with as many lanes as the first one. -/
def vecsB (b : Int) (xss : List (List Int)) : Bool := xss.all fun xs => vecB b xs && decide (xs.length = (rw_ xss 0).length)

theorem i_areVectors1 (W : World) (B D : Nat) (b : Int) (A : Option Addr) (n c : Nat) (A' : Option Addr) (c' : Nat) (xs : List Int) (A0 : Option Addr) (n0 c0 : Nat) (b0 off0 : Nat) (hn : 0 < n) (hl : xs.length ≤ 1048576) (hl0 : n0 ≤ 1048576)
    (hb : W.cell? ⟨B, 0, none⟩ = some (.int .i64 b)) (hd : W.cell? ⟨D, 0, none⟩ = some (.slice (some ⟨b0, off0, none⟩) n c)) (h0 : W.cell? ⟨b0, off0, none⟩ = some (.slice A0 n0 c0)) (hR : RdI W A' xs) :
    Calls Try.prog 157 #[.slice A' xs.length c', .pointer (some ⟨B, 0, none⟩), .pointer (some ⟨D, 0, none⟩)] W fun e w' => e = .returned (.bool (vecB b xs && decide (xs.length = n0))) ∧ Below W.heap.size W w' := by
  have hv := i_IsVector W b A' c' xs (by omega) hR
  have hlt : (0 : Int) < (n : Int) := by omega
  have hlb : b0 < W.heap.size := World.block_lt_of_cell? W _ h0
  have hlD : D < W.heap.size := World.block_lt_of_cell? W _ hd
  clear hR
  cases h : vecB b xs with
  | false =>
    rw [h] at hv
    clear h
    go_enter Try.func157, Try.ntmps157
    go_wp2_with fail
    refine hv.mono ?_
    rintro e w1 ⟨rfl, hb1⟩
    go_wp2_with fail
    go_ret
    exact ⟨rfl, hb1⟩
  | true =>
    rw [h] at hv
    clear h
    by_cases hq : xs.length = n0
    · have hq' : ((xs.length : Int) == (n0 : Int)) = true := by simp; omega
      have HQ := hid hq
      clear hq
      go_enter Try.func157, Try.ntmps157
      go_wp2_with fail
      refine hv.mono ?_
      rintro e w1 ⟨rfl, hb1⟩
      have hd1 := bcell hb1 hd
      have h01 := bcell hb1 h0
      go_wp2_with fail
      go_ret
      exact ⟨ret_b (by simp [HQ.out]), hb1⟩
    · have hq' : ((xs.length : Int) == (n0 : Int)) = false := by simp; omega
      have HQ := hid hq
      clear hq
      go_enter Try.func157, Try.ntmps157
      go_wp2_with fail
      refine hv.mono ?_
      rintro e w1 ⟨rfl, hb1⟩
      have hd1 := bcell hb1 hd
      have h01 := bcell hb1 h0
      go_wp2_with fail
      go_ret
      exact ⟨ret_b (by simp [HQ.out]), hb1⟩
theorem i_areVectors (w : World) (b : Int) (A : Option Addr) (c : Nat) (xss : List (List Int)) (hl : xss.length ≤ 1048576) (hls : ∀ xs, xs ∈ xss → xs.length ≤ 1048576) (hR : RdR w A xss) :
    Calls Try.prog 116 #[.int .i64 b, .slice A xss.length c] w fun e w' => e = .returned (.bool (vecsB b xss)) ∧ Below w.heap.size w w' := by
  have hb2 : Below w.heap.size w ((w.alloc (.cells #[.int .i64 b] 2)).alloc (.cells #[.slice A xss.length c] 35)) := balloc (ballocw w _) _
  obtain ⟨f, hf, hr⟩ := hR
  have hall := areAllR ((w.alloc (.cells #[.int .i64 b] 2)).alloc (.cells #[.slice A xss.length c] 35)) A xss.length c f 157 #[.pointer (some ⟨w.heap.size, 0, none⟩), .pointer (some ⟨w.heap.size + 1, 0, none⟩)]
    (fun k => vecB b (rw_ xss k) && decide ((rw_ xss k).length = (rw_ xss 0).length)) (by omega) (hf.below hb2) (enters_of Try.func157 (by kernel_rfl) rfl) (fun W hW k hk => by
      obtain ⟨A', c', e, _, h⟩ := hr k hk
      obtain ⟨A0, c0, e0, _, h0⟩ := hr 0 (by omega)
      obtain ⟨b0, off0, eA, hc0⟩ := hf 0 (by omega)
      subst eA
      rw [e]
      exact i_areVectors1 W w.heap.size (w.heap.size + 1) b (some ⟨b0, off0, none⟩) xss.length c A' c' (rw_ xss k) A0 (rw_ xss 0).length c0 b0 off0 (by omega) (hls _ (rw_mem hk)) (hls _ (rw_mem (by omega)))
        ((hW.cell (p := ⟨w.heap.size, 0, none⟩) (by simp; omega)).trans (by simp)) ((hW.cell (p := ⟨w.heap.size + 1, 0, none⟩) (by simp)).trans (by simp)) (by rw [← e0]; exact bcell hW (bcell hb2 hc0)) ((h.below hb2).below hW))
  rw [allN_rows xss (fun xs => vecB b xs && decide (xs.length = (rw_ xss 0).length))] at hall
  have hcc := hall.mono (fun e w' ⟨h1, h2⟩ => (⟨h1, bthen hb2 h2⟩ : e = Ending.returned (.bool (vecsB b xss)) ∧ Below w.heap.size w w'))
  clear hall hf hr hb2
  generalize vecsB b xss = r at hcc
  go_enter Try.func116, Try.ntmps116
  go_wp2_with fail
  refine hcc.mono ?_
  rintro e w1 ⟨rfl, hb1⟩
  go_wp2_with fail
  go_ret
  exact ⟨rfl, hb1⟩
end Go.Proofs.Ytolcmehndambmaa
