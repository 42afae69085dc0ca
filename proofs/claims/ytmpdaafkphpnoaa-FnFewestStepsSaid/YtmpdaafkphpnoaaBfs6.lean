import Derived.Test.YtmpdaafkphpnoaaBfs5
import Derived.Test.YtmpdaafkphpnoaaClone
import Derived.Test.YtmpdaafkphpnoaaRws
set_option linter.unusedVariables false
set_option linter.unusedSimpArgs false
namespace Go.Proofs.Ytmpdaafkphpnoaa
open Go.RowKit

/-! ### All shuffles have as many lanes -/
def AllN (n : Nat) (O : List PQ) : Prop := ∀ p ∈ O, p.2.length = n
theorem AllN.app {n : Nat} {O N : List PQ} (h : AllN n O) (k : AllN n N) : AllN n (O ++ N) := fun p hp => by
  rcases List.mem_append.1 hp with q | q
  · exact h p q
  · exact k p q
theorem AllN.ex1 {n : Nat} {al : List (List Int)} {O : List PQ} (h : AllN n O) (r : PQ) (k : Nat) (hk : (rw_ al k).length = n) : AllN n (ex1 al r k O) := by
  obtain ⟨N, e, _, hp⟩ := ex1_pre al r k O
  rw [e]
  exact h.app fun p hpm => by rw [hp p hpm, pick_length]; exact hk
theorem AllN.exK {n : Nat} {al : List (List Int)} {O : List PQ} (h : AllN n O) (r : PQ) (hal : ∀ k, k < al.length → (rw_ al k).length = n) : ∀ k, k ≤ al.length → AllN n (exK al r k O) := by
  intro k
  induction k with
  | zero => intro _; exact h
  | succ k ih => intro hk; exact AllN.ex1 (ih (by omega)) r k (hal k (by omega))
theorem AllN.exR {n : Nat} {al : List (List Int)} {O : List PQ} (h : AllN n O) (a : Nat) (hal : ∀ k, k < al.length → (rw_ al k).length = n) : ∀ j, AllN n (exR al a j O) := by
  intro j
  induction j with
  | zero => exact h
  | succ j ih => exact AllN.exK ih _ hal _ (Nat.le_refl _)
theorem AllN.lv {n : Nat} {al : List (List Int)} (hal : ∀ k, k < al.length → (rw_ al k).length = n) : ∀ l, AllN n (lvO al n l) := by
  intro l
  induction l with
  | zero => intro p hp; simp [lvO] at hp; rw [hp]; exact idl_length n
  | succ l ih => rw [lvO_succ]; exact AllN.exR ih _ hal _
theorem ex_len (al : List (List Int)) (a j k : Nat) (r : PQ) (O : List PQ) (h4 : al.length ≤ 4) (hk : k ≤ al.length) : (exK al r k (exR al a j O)).length ≤ O.length + j * 4 + 4 := by
  obtain ⟨N, e, hl, _⟩ := exK_pre al r k (exR al a j O)
  obtain ⟨M, e2, hl2⟩ := exR_pre al a j O
  rw [e, e2, List.length_append, List.length_append]
  have : j * al.length ≤ j * 4 := Nat.mul_le_mul_left j h4
  omega
theorem infoReach : (Try.prog.info? 58).map (fun i => (i.zero, i.size, i.bytes)) = some (some (.agg #[.slice none 0 0, .slice none 0 0]), 2, 48) := by kernel_rfl
theorem AQ.lit (e : TypeId) {W : World} {lo : Nat} {kb : Nat → Prop} {x y : Value} {p : PQ} (hp : PK W lo kb x y p) (hlo : lo ≤ W.heap.size) : AQ e (W.alloc (.cells #[x, y] e)) lo kb (.slice (some ⟨W.heap.size, 0, none⟩) 1 1) [p] := by
  have ho := Own.of (World.ownsRow_lit (base := W.heap.size) (e := e) (size := 2) W #[x, y] 1 (Nat.le_refl _) (by simp [maxLen]) rfl)
  refine ⟨fun _ => (x, y), ?_, fun k hk => ?_⟩
  · exact Own.wide ho hlo (Nat.le_refl _)
  · obtain rfl : k = 0 := by simpa using hk
    exact hp.keep (Kp.of (ballocw W _))
set_option maxRecDepth 100000 in
theorem g_CloneQ1 (w : World) (H : Nat) (x y : Value) (p : PQ) (ho1 : x.oneCell' = true) (ho2 : y.oneCell' = true) (hcell : w.heap[H]? = some (.cells #[x, y] 58)) (lo : Nat) (hlo : lo ≤ w.heap.size) (hp : PK w lo kb0 x y p) :
    Calls Try.prog 52 #[.slice (some ⟨H, 0, none⟩) 1 1] w fun e w' => ∃ g cap, e = .returned (.slice (some ⟨g, 0, none⟩) 1 cap) ∧ w.heap.size ≤ g ∧ AQ 58 w' lo kb0 (.slice (some ⟨g, 0, none⟩) 1 cap) [p] ∧ Below w.heap.size w w' := by
  obtain ⟨i0, hi, hzz⟩ := Option.map_eq_some_iff.1 infoReach
  simp only [Prod.mk.injEq] at hzz
  obtain ⟨hz0, hz1, hz2⟩ := hzz
  have hb := ballocw w (.cells #[] 58)
  have hown := hid (Own.of (World.ownsRow_lit (base := w.heap.size) (e := 58) (size := 2) w #[] 0 (Nat.le_refl _) (by simp [maxLen]) rfl))
  have he : ∀ w : World, (binOp .eql 54 (.slice (some ⟨H, 0, none⟩) 1 1) (.slice none 0 0)).run Try.prog w = .ok (.bool false) w := fun _ => rfl
  have hH := lt_of_heap hcell
  have hc2 : Hid ((w.alloc (.cells #[] 58)).heap[H]? = some (.cells #[x, y] 58)) := hid ((hb.block H hH).trans hcell)
  have HP := hid (hp.keep (Kp.of hb))
  have HB := hid hb
  clear hb hp hcell
  go_enter Try.func52, Try.ntmps52
  go_wp2_with (at_builtin; refine wpList_append_lies (w.alloc (.cells #[] 58)) rfl _ _ 54 rfl w.heap.size 58 i0 (.agg #[.slice none 0 0, .slice none 0 0]) 2 48 Try.underlying54 hi hz0 hz1 hz2 rfl (by omega) (.slice (some ⟨w.heap.size, 0, none⟩) 0 0) 0 _ rfl hown.out.1 ⟨H, 0, none⟩ 1 1 [x, y] rfl rfl (World.news_of_block (cs := #[x, y]) (t := 58) (fr := (0, 0)) hc2.out) (by intro u hu; simp at hu; rcases hu with rfl | rfl <;> assumption) (by omega) (by simp only [maxLen]; omega) (by omega) HB.out.size (w.heap.size + 1) (by simp) ?_; intro g cap w1 hown1 hg1 hat1 hlt1)
  go_ret
  refine ⟨g, cap, rfl, (hown1.lt g rfl).1, ⟨fun _ => (x, y), ?_, fun k hk => ?_⟩, HB.out.grown hg1 HB.out.size fun k hk => ?_⟩
  · exact Own.wide (by simpa [qcs] using Own.of hown1) hlo (Nat.le_refl _)
  · obtain rfl : k = 0 := by simpa using hk
    refine HP.out.keep ⟨hg1.size, fun b cs fr _ hbb => hg1.block b (lt_of_heap hbb) fun q => ?_⟩
    simp only [Value.ownBlock] at q
    obtain rfl : b = w.heap.size := by simpa using q
    rw [heap_alloc_new] at hbb
    cases hbb
  · simp [Value.ownBlock] at hk; omega
end Go.Proofs.Ytmpdaafkphpnoaa
