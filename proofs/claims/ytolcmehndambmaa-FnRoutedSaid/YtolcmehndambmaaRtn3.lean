import Derived.Test.YtolcmehndambmaaRtn2
import Derived.Test.YtolcmehndambmaaRwsA
import Derived.Test.YtolcmehndambmaaCalm
import Derived.Test.YtolcmehndambmaaTrans
import Derived.Test.YtolcmehndambmaaClone
import Derived.Test.YtolcmehndambmaaCat2
import Derived.Deep.RegionHeld3
set_option linter.unusedVariables false
set_option linter.unusedSimpArgs false
namespace Go.Proofs.Ytolcmehndambmaa
open Go.RowKit

/-! ### Rows: helpers -/
theorem el_takeI {xs : List Int} {n k : Nat} (h : k < n) : el (xs.take n) k = el xs k := by
  unfold el; rw [List.getD_eq_getElem?_getD, List.getD_eq_getElem?_getD, List.getElem?_take_of_lt h]
theorem RdI.take {w : World} {A : Option Addr} {xs : List Int} (h : RdI w A xs) (n : Nat) : RdI w A (xs.take n) := fun k hk => by
  have hk' : k < n ∧ k < xs.length := by rw [List.length_take] at hk; omega
  obtain ⟨b, off, e, hc⟩ := h k hk'.2
  refine ⟨b, off, e, ?_⟩
  show _ = some (Value.int .i64 (el _ k))
  rw [el_takeI hk'.1]; exact hc
theorem rtN_rows : ∀ d g, g.length = 2 ^ (d + 1) → ∀ r ∈ rtN d g, r.length = 2 ^ d := by
  intro d
  induction d with
  | zero => intro g _ r hr; simp [rtN] at hr; subst hr; rfl
  | succ d ih =>
    intro g hg r hr
    have hh : g.length / 2 = 2 ^ (d + 1) := by rw [hg, Nat.pow_succ]; omega
    have h2 : g.length = 2 * 2 ^ (d + 1) := by rw [hg, Nat.pow_succ]; omega
    have hsl : (sdN g).length = g.length := by
      unfold sdN; rw [sdA_length]; omega
    simp only [rtN, List.mem_append, List.mem_singleton] at hr
    rcases hr with (rfl | hr) | rfl
    · simp [goN]; omega
    · unfold cat2 at hr
      obtain ⟨s, hs, rfl⟩ := List.mem_map.1 hr
      have hs' := List.mem_range.1 hs
      have hl : ∀ x, (rtN d (sbN g (sdN g) (g.length / 2) x)).length = 2 * d + 1 := fun x => rtN_length _ _
      have hq : ∀ x, ((rtN d (sbN g (sdN g) (g.length / 2) x)).getD s []).length = 2 ^ d := fun x =>
        ih (sbN g (sdN g) (g.length / 2) x) (by rw [sbN_length, hh]) _ (by
          rw [List.getD_eq_getElem?_getD]
          have : s < (rtN d (sbN g (sdN g) (g.length / 2) x)).length := by rw [hl]; rw [hl] at hs'; exact hs'
          rw [List.getElem?_eq_getElem this]; exact List.getElem_mem _)
      rw [List.length_append, hq, hq, Nat.pow_succ]; omega
    · rw [List.length_take, hsl]; omega
theorem rtN_rw {d s : Nat} {g : List Int} (hg : g.length = 2 ^ (d + 1)) (hs : s < 2 * d + 1) : (rw_ (rtN d g) s).length = 2 ^ d :=
  rtN_rows d g hg _ (rw_mem (by rw [rtN_length]; exact hs))
/-- The halves over which the lanes go, place by place. -/
def goT (g c : List Int) : Nat → List Int
  | 0 => List.replicate g.length 0
  | k + 1 => (goT g c k).set (gN g k) (el c k)
theorem goT_length (g c : List Int) (k : Nat) : (goT g c k).length = g.length := by
  induction k with
  | zero => simp [goT]
  | succ k ih => simp only [goT]; rw [List.length_set, ih]
theorem goT_el {g : List Int} {n : Nat} (hp : Prm g n) (c : List Int) : ∀ k, k ≤ n → ∀ j, j < k → el (goT g c k) (gN g j) = el c j := by
  intro k
  induction k with
  | zero => intro _ j hj; omega
  | succ k ih =>
    intro hk j hj
    simp only [goT]
    rw [el_set _ (by rw [goT_length, hp.len]; exact (hp.lt (by omega)).1)]
    by_cases e : j = k
    · rw [e, if_pos rfl]
    · rw [if_neg (fun q => e (hp.inj (by omega) (by omega) q))]
      exact ih (by omega) j (by omega)
theorem goT_eq {g : List Int} {n : Nat} (hp : Prm g n) (c : List Int) : goT g c n = goN g c := by
  apply el_ext
  · rw [goT_length]; simp [goN]
  · intro k hk
    rw [goT_length, hp.len] at hk
    have hi := hp.inv_ hk
    have := goT_el hp c n (Nat.le_refl _) (iN g k) hi.1
    rw [hi.2.2] at this
    rw [this]
    unfold goN
    rw [el_range _ (by rw [hp.len]; exact hk)]
def RetRO (w : World) (xss : List (List Int)) (en : Ending) (w' : World) : Prop := ∃ v, en = .returned v ∧ OR w' w.heap.size w'.heap.size v xss ∧ Below w.heap.size w w'
theorem OR.one {w : World} {lo : Nat} {A : Option Addr} {n c : Nat} {xs : List Int} (hn : n = xs.length) (h : OI w lo w.heap.size (.slice A n c) xs) (hlo : lo ≤ w.heap.size) :
    OR (w.alloc (.cells #[.slice A n c] 29)) lo (w.heap.size + 1) (.slice (some ⟨w.heap.size, 0, none⟩) 1 1) [xs] := by
  have ho := World.ownsRow_lit (base := w.heap.size) (e := 29) (size := 1) w #[.slice A n c] 1 (Nat.le_refl _) (by simp [maxLen]) rfl
  have h2 := Own.wide (Own.of ho) hlo (Nat.le_of_eq (show (w.alloc (.cells #[Value.slice A n c] 29)).heap.size = w.heap.size + 1 by simp))
  refine ⟨fun _ => .slice A n c, ?_, fun k hk => ?_, fun i j a b hij hj => ?_, fun k a b hk ha hb => ?_⟩
  · simpa using h2
  · obtain rfl : k = 0 := by simpa using hk
    exact Own.wide (h.eqv (Eqv.of (ballocw w _) (Nat.le_refl _))) (Nat.le_refl _) (by omega)
  · simp at hj; omega
  · have := h.2 b hb
    simp [Value.ownBlock] at ha; omega
theorem RdR.two {w : World} {A B : Option Addr} {c d : Nat} {xs ys : List Int} (hc : xs.length ≤ c) (hd : ys.length ≤ d) (h1 : RdI w A xs) (h2 : RdI w B ys) :
    RdR (w.alloc (.cells #[.slice A xs.length c, .slice B ys.length d] 29)) (some ⟨w.heap.size, 0, none⟩) [xs, ys] := by
  have hb := ballocw w (.cells #[.slice A xs.length c, .slice B ys.length d] 29)
  refine ⟨fun k => if k = 0 then .slice A xs.length c else .slice B ys.length d, fun k hk => ?_, fun k hk => ?_⟩
  · match k, hk with
    | 0, _ => exact ⟨w.heap.size, 0, rfl, by simp⟩
    | 1, _ => exact ⟨w.heap.size, 0, rfl, by simp⟩
    | k + 2, hk => simp at hk; omega
  · match k, hk with
    | 0, _ => exact ⟨A, c, rfl, hc, h1.below hb⟩
    | 1, _ => exact ⟨B, d, rfl, hd, h2.below hb⟩
    | k + 2, hk => simp at hk; omega
set_option maxRecDepth 100000 in
theorem i_route1 (W : World) (Bc Bs Bh Bg : Nat) (Ac A : Option Addr) (cc c n h k : Nat) (s : Int) (g cm : List Int) (hn : n = 2 * h) (h8 : h ≤ 8) (hk : k < h) (hgl : g.length = n) (hcl : cm.length = n)
    (hin : ∀ i, i < n → 0 ≤ el g i ∧ el g i < n)
    (k1 : W.cell? ⟨Bc, 0, none⟩ = some (.slice Ac n cc)) (k2 : W.cell? ⟨Bs, 0, none⟩ = some (.int .i64 s)) (k3 : W.cell? ⟨Bh, 0, none⟩ = some (.int .i64 h)) (k4 : W.cell? ⟨Bg, 0, none⟩ = some (.slice A n c)) (hA : RdI W A g) (hC : RdI W Ac cm) :
    Calls Try.prog 130 #[.int .i64 (k : Nat), .pointer (some ⟨Bc, 0, none⟩), .pointer (some ⟨Bs, 0, none⟩), .pointer (some ⟨Bh, 0, none⟩), .pointer (some ⟨Bg, 0, none⟩)] W fun e w' => e = .returned (.int .i64 (sbEl g cm h s k)) ∧ Below W.heap.size W w' := by
  obtain ⟨b1, o1, rfl, hc⟩ := hC.get (k := k) (by omega)
  have HG := hid hA
  have HIN := hid hin
  have l1 := lcell k1
  have l2 := lcell k2
  have l3 := lcell k3
  have l5 := lcell hc
  have HE : Hid (∀ e, (e = if el cm k = s then k else k + h) → el g e % (h : Int) = sbEl g cm h s k) := hid fun e he => by rw [he]; rfl
  have hkn : (k : Int) < (n : Int) := by omega
  have hkn' : (k : Int) + (h : Int) < (n : Int) := by omega
  have h0 : (0 : Int) < (h : Int) := by omega
  have hh0 : ¬ ((h : Int) = 0) := by omega
  clear hA hC k1 k2 k3 hc hin
  by_cases he : el cm k = s
  · have HR := hid (HE.out k (by rw [if_pos he]))
    obtain ⟨b2, o2, rfl, hcg⟩ := HG.out.get (k := k) (by omega)
    have hb := HIN.out k (by omega)
    have he' : (el cm k != s) = false := by simp [he]
    have l4 := lcell k4
    have l6 := lcell hcg
    clear HG HIN HE he k4 hcg
    generalize el cm k = ck at *
    generalize el g k = gk at *
    generalize sbEl g cm h s k = r at *
    go_enter Try.func130, Try.ntmps130
    go_wp2
    refine wp_region_calm (by kernel_rfl) (by kernel_rfl) ?_
    repeat (go_big_quiet_step (fail))
    refine wpQuiet_nil ?_
    intro _ hw'
    obtain ⟨xq, hw''⟩ := hw'
    subst hw''
    go_wp2
    have B0 := hid xq.below
    have m4 := fun y : Lat xq.val => l4 ⟨y.val, bthen xq.below y.below⟩
    have m3 := fun y : Lat xq.val => l3 ⟨y.val, bthen xq.below y.below⟩
    have m6 := fun y : Lat xq.val => l6 ⟨y.val, bthen xq.below y.below⟩
    refine wp_region_calm (by kernel_rfl) (by kernel_rfl) ?_
    repeat (go_big_quiet_step (fail))
    refine wpQuiet_nil ?_
    intro _ hw'
    obtain ⟨xq, hw''⟩ := hw'
    subst hw''
    go_wp2
    go_ret
    exact ⟨by rw [← HR.out]; rfl, bthen B0.out xq.below⟩
  · have HR := hid (HE.out (k + h) (by rw [if_neg he]))
    obtain ⟨b2, o2, rfl, hcg⟩ := HG.out.get (k := k + h) (by omega)
    have hb := HIN.out (k + h) (by omega)
    have he' : (el cm k != s) = true := by simp [he]
    have l4 := lcell k4
    have l6 := lcell hcg
    clear HG HIN HE he k4 hcg
    generalize el cm k = ck at *
    generalize el g (k + h) = gk at *
    generalize sbEl g cm h s k = r at *
    go_enter Try.func130, Try.ntmps130
    go_wp2
    refine wp_region_calm (by kernel_rfl) (by kernel_rfl) ?_
    repeat (go_big_quiet_step (fail))
    refine wpQuiet_nil ?_
    intro _ hw'
    obtain ⟨xq, hw''⟩ := hw'
    subst hw''
    have n3 := l3 xq
    go_wp2
    have B0 := hid xq.below
    have m4 := fun y : Lat xq.val => l4 ⟨y.val, bthen xq.below y.below⟩
    have m3 := fun y : Lat xq.val => l3 ⟨y.val, bthen xq.below y.below⟩
    have m6 := fun y : Lat xq.val => l6 ⟨y.val, bthen xq.below y.below⟩
    refine wp_region_calm (by kernel_rfl) (by kernel_rfl) ?_
    repeat (go_big_quiet_step (fail))
    refine wpQuiet_nil ?_
    intro _ hw'
    obtain ⟨xq, hw''⟩ := hw'
    subst hw''
    go_wp2
    go_ret
    exact ⟨by rw [← HR.out]; rfl, bthen B0.out xq.below⟩
end Go.Proofs.Ytolcmehndambmaa
