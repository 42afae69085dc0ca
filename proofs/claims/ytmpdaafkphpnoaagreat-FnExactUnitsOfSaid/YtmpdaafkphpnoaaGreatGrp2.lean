import Derived.Test.YtmpdaafkphpnoaaGreatGrp
import Derived.Test.YtmpdaafkphpnoaaGreatSetn
import Derived.Test.YtmpdaafkphpnoaaGreatSrtd
import Derived.Test.YtmpdaafkphpnoaaGreatAppE
import Derived.Test.YtmpdaafkphpnoaaGreatHts2
set_option linter.unusedVariables false
set_option linter.unusedSimpArgs false
namespace Go.Proofs.YtmpdaafkphpnoaaGreat
open Go.RowKit

/-! ### Groups of statements: their cells -/
/-- Numbers of statements. -/
def InC (cs : List SmV) (g : List Int) : Prop := ∀ k, k < g.length → 0 ≤ el g k ∧ el g k < cs.length
def cls (f : SmV → Int) (cs : List SmV) (g : List Int) : List Int := g.map fun i => f (sel cs i.toNat)
theorem cls_length (f : SmV → Int) (cs : List SmV) (g : List Int) : (cls f cs g).length = g.length := by simp [cls]
theorem cls_el {f : SmV → Int} {cs : List SmV} {g : List Int} {k : Nat} (h : k < g.length) : el (cls f cs g) k = f (sel cs (el g k).toNat) := by
  have := el_get (xs := cls f cs g) (k := k) (by rw [cls_length]; exact h)
  have h2 : (cls f cs g)[k]? = some (f (sel cs (el g k).toNat)) := by unfold cls; rw [List.getElem?_map, el_get h]; rfl
  rw [h2] at this
  exact (Option.some.inj this).symm
theorem cls_range (f : SmV → Int) (cs : List SmV) (g : List Int) : (List.range g.length).map (fun k => f (sel cs (el g k).toNat)) = cls f cs g := by
  apply List.ext_getElem? ; intro k
  by_cases hk : k < g.length
  · rw [el_get (xs := cls f cs g) (by rw [cls_length]; exact hk), cls_el hk]; simp [hk]
  · simp [cls, hk]
/-- Numbers are w, w + 1 and so on. -/
def runB (xs : List Int) : Bool := allN xs.length fun k => el xs k == el xs 0 + k
theorem runB_iff {xs : List Int} : runB xs = true ↔ ∀ k, k < xs.length → el xs k = el xs 0 + k := by
  unfold runB allN; rw [List.all_eq_true]; simp
theorem i_isRun (w : World) (A : Option Addr) (c : Nat) (xs : List Int) (hl : xs.length ≤ 1048576) (hs : ∀ k, k < xs.length → -1048576 ≤ el xs k ∧ el xs k ≤ 1048576) (hR : RdI w A xs) :
    Calls Tryz.prog 188 #[.slice A xs.length c] w fun e w' => e = .returned (.bool (runB xs)) ∧ w = w' := by
  go_enter Tryz.func188, Tryz.ntmps188
  go_wp2
  go_loopg [7] xs.length (fun gg s wr => ∃ k : Nat, k ≤ xs.length ∧ xs.length - k ≤ gg ∧ s = .int .i64 k ∧ Aside (w = wr) ∧ Aside (∀ j, j < k → el xs j = el xs 0 + j))
  case atStart => exact ⟨0, Nat.zero_le _, by omega, rfl, rfl, fun j hj => absurd hj (Nat.not_lt_zero _)⟩
  case round =>
    obtain ⟨k, hk, hg, rfl, BW, AL⟩ := hrel
    obtain rfl := BW.out
    by_cases hlt : k < xs.length
    · obtain ⟨b, off, rfl, hc⟩ := hR.get hlt
      obtain ⟨b', off', e, h0⟩ := hR.get (k := 0) (by omega)
      cases e
      have h0 : w.cell? ⟨b, off, none⟩ = some (.int .i64 (el xs 0)) := by simpa using h0
      have hs0 := hs 0 (by omega)
      obtain ⟨hs1, hs2⟩ := hs0
      by_cases hx : el xs k = el xs 0 + k
      · have hd : (el xs k != el xs 0 + k) = false := by simpa using hx
        have AL' : Aside (∀ j, j < k + 1 → el xs j = el xs 0 + j) := fun j hj => by
          by_cases e : j = k
          · subst e; exact hx
          · exact AL.out j (by omega)
        clear AL hs hx hR
        generalize el xs 0 = z at hd h0 hs1 hs2
        generalize el xs k = y at hd hc
        go_wp2
        go_roundg (xs.length - (k + 1))
        case measure => omega
        case rel => exact ⟨k + 1, by omega, by omega, by go_num, rfl, AL'⟩
      · have hd : (el xs k != el xs 0 + k) = true := by simpa using hx
        have HN : Hid (runB xs = false) := hid (by
          cases h : runB xs with
          | false => rfl
          | true => exact absurd (runB_iff.1 h k hlt) hx)
        clear AL hs hx hR
        generalize el xs 0 = z at hd h0 hs1 hs2
        generalize el xs k = y at hd hc
        go_wp2
        go_ret
        exact ⟨ret_b (by rw [HN.out]), rfl⟩
    · obtain rfl : k = xs.length := by omega
      have HN : Hid (runB xs = true) := hid (runB_iff.2 AL.out)
      clear AL hR
      go_wp2
      go_ret
      exact ⟨ret_b (by rw [HN.out]), rfl⟩
theorem cell_new (w : World) (v : Value) (t : TypeId) : (w.alloc (.cells #[v] t)).cell? ⟨w.heap.size, 0, none⟩ = some v := cell_of_row _ _ _ _ _ _ (heap_alloc_new w _)
theorem cell_new' {w : World} {k : Nat} (v : Value) (t : TypeId) (hk : w.heap.size = k) : (w.alloc (.cells #[v] t)).cell? ⟨k, 0, none⟩ = some v := by subst hk; exact cell_new w v t
theorem size_one (w : World) (a : Obj) : (w.alloc a).heap.size = w.heap.size + 1 := by simp
theorem size_two (w : World) (a b : Obj) : ((w.alloc a).alloc b).heap.size = w.heap.size + 1 + 1 := by simp
theorem i_cellsOf1 (W : World) (Bo Bc Bg g : Nat) (f : SmV → Int) (A A' : Option Addr) (c c' : Nat) (cs : List SmV) (gs : List Int) (k : Nat) (hk : k < gs.length) (hin : 0 ≤ el gs k ∧ el gs k < cs.length) (hl : cs.length ≤ 1048576) (hl' : gs.length ≤ 1048576)
    (eg : Ent Tryz.prog g) (ho : W.cell? ⟨Bo, 0, none⟩ = some (.func (.func g) #[] #[])) (hc : W.cell? ⟨Bc, 0, none⟩ = some (.slice A cs.length c)) (hg : W.cell? ⟨Bg, 0, none⟩ = some (.slice A' gs.length c')) (hA : RdC W A cs) (hA' : RdI W A' gs)
    (hf : ∀ W x, Calls Tryz.prog g #[sv x] W fun e w' => e = .returned (.int .i64 (f x)) ∧ Below W.heap.size W w') :
    Calls Tryz.prog 211 #[.int .i64 (k : Nat), .pointer (some ⟨Bo, 0, none⟩), .pointer (some ⟨Bc, 0, none⟩), .pointer (some ⟨Bg, 0, none⟩)] W fun e w' => e = .returned (.int .i64 (f (sel cs (el gs k).toNat))) ∧ Below W.heap.size W w' := by
  obtain ⟨b, off, rfl, h1⟩ := hA'.get hk
  obtain ⟨m, hm⟩ := Int.eq_ofNat_of_zero_le hin.1
  have h2 := hin.2
  rw [hm] at h1 h2 ⊢
  simp only [Int.toNat_natCast]
  have hm' : m < cs.length := by omega
  obtain ⟨b', off', rfl, x0, x1, x2, x3⟩ := hA.get hm'
  have hcall := fun W => hf W (sel cs m)
  have HC := hid hcall
  clear hA hA' hm hin h2 hf hcall
  generalize f (sel cs m) = r at *
  generalize sel cs m = x at *
  obtain ⟨xo, xd, xa, xb⟩ := x
  have ho := lcell ho
  have hc := lcell hc
  have hg := lcell hg
  have h1 := lcell h1
  have x0 := lcell x0
  have x1 := lcell x1
  have x2 := lcell x2
  have x3 := lcell x3
  go_enter Tryz.func211, Tryz.ntmps211
  go_wp2
  refine wp_region_calm (by kernel_rfl) (by kernel_rfl) ?_
  repeat (go_big_quiet_step ((go_at_fn g; exact calm_of (HC.out _))))
  refine wpQuiet_nil ?_
  intro _ hw'
  obtain ⟨xq, hw''⟩ := hw'
  subst hw''
  go_wp2
  go_ret
  exact ⟨rfl, xq.below⟩
theorem i_cellsOf (w : World) (g : Nat) (f : SmV → Int) (A A' : Option Addr) (c c' : Nat) (cs : List SmV) (gs : List Int) (hin : InC cs gs) (hl : cs.length ≤ 1048576) (hl' : gs.length ≤ 1048576) (eg : Ent Tryz.prog g) (hA : RdC w A cs) (hA' : RdI w A' gs)
    (hf : ∀ W x, Calls Tryz.prog g #[sv x] W fun e w' => e = .returned (.int .i64 (f x)) ∧ Below W.heap.size W w') :
    Calls Tryz.prog 186 #[.slice A cs.length c, .slice A' gs.length c', .func (.func g) #[] #[]] w (RetI w 2 (cls f cs gs)) := by
  have hb1 : Below w.heap.size w (w.alloc (.cells #[.slice A cs.length c] 56)) := ballocw _ _
  have hb2 : Below w.heap.size w ((w.alloc (.cells #[.slice A cs.length c] 56)).alloc (.cells #[.slice A' gs.length c'] 28)) := balloc hb1 _
  have hb3 : Below w.heap.size w (((w.alloc (.cells #[.slice A cs.length c] 56)).alloc (.cells #[.slice A' gs.length c'] 28)).alloc (.cells #[.func (.func g) #[] #[]] 174)) := balloc hb2 _
  obtain ⟨W3, hW3⟩ : ∃ W3, (((w.alloc (.cells #[.slice A cs.length c] 56)).alloc (.cells #[.slice A' gs.length c'] 28)).alloc (.cells #[.func (.func g) #[] #[]] 174)) = W3 := ⟨_, rfl⟩
  have hz3 : W3.heap.size = w.heap.size + 1 + 1 + 1 := by rw [← hW3]; simp
  have q0 : W3.cell? ⟨w.heap.size, 0, none⟩ = some (.slice A cs.length c) := by rw [← hW3]; exact bcell (ballocw _ _) (bcell (ballocw _ _) (cell_new w _ _))
  have q1 : W3.cell? ⟨w.heap.size + 1, 0, none⟩ = some (.slice A' gs.length c') := by rw [← hW3]; exact bcell (ballocw _ _) (cell_new' _ _ (size_one _ _))
  have q2 : W3.cell? ⟨w.heap.size + 1 + 1, 0, none⟩ = some (.func (.func g) #[] #[]) := by rw [← hW3]; exact cell_new' _ _ (size_two _ _ _)
  rw [hW3] at hb3
  have hcall := i_lanesOf W3 gs.length 211
    #[.pointer (some ⟨w.heap.size + 1 + 1, 0, none⟩), .pointer (some ⟨w.heap.size, 0, none⟩), .pointer (some ⟨w.heap.size + 1, 0, none⟩)] (fun k => f (sel cs (el gs k).toNat)) (by omega) (enters_of Tryz.func211 (by kernel_rfl) rfl)
    (fun W hW k hk => i_cellsOf1 W (w.heap.size + 1 + 1) w.heap.size (w.heap.size + 1) g f A A' c c' cs gs k hk (hin k hk) hl hl' eg (bcell hW q2) (bcell hW q0) (bcell hW q1) ((hA.below hb3).below hW) ((RdI.below hA' hb3).below hW) hf)
  rw [cls_range] at hcall
  have hcc := hcall.mono (fun e w' ⟨v, h1, h2, h3⟩ => (⟨v, h1, h2.wide (by omega) (Nat.le_refl _), bthen hb3 h3⟩ : RetI w 2 (cls f cs gs) e w'))
  rw [← hW3] at hcc
  clear hcall hA hA' hb1 hb2 hb3 hin hf q0 q1 q2 hz3 hW3
  have HC := hid hcc
  clear hcc
  generalize cls f cs gs = r at *
  go_enter Tryz.func186, Tryz.ntmps186
  go_wp2_with fail
  refine HC.out.mono ?_
  rintro e w' ⟨v, rfl, ho, hb'⟩
  obtain ⟨A1, c1, rfl, _, _, _⟩ := Own.int ho
  have HO := hid ho
  clear ho HC
  go_wp2
  go_ret
  exact ⟨_, rfl, HO.out, hb'⟩
set_option maxRecDepth 100000 in
theorem s_l07Ends (w : World) (A : Option Addr) (c : Nat) (xs : List Int) (hl : xs.length ≤ 1048576) (h1 : 1 ≤ xs.length) (hR : RdI w A xs) :
    Calls Tryz.prog 124 #[.slice A xs.length c] w fun e w' => e = .returned (.tuple #[.int .i64 (Lib.minOf xs), .int .i64 (Lib.maxOf xs)]) ∧ w = w' := by
  obtain ⟨b, off, rfl, h0⟩ := hR.get (k := 0) (by omega)
  have h0' : w.cell? ⟨b, off, none⟩ = some (.int .i64 (el xs 0)) := by simpa using h0
  go_enter Tryz.func124, Tryz.ntmps124
  go_wp2
  go_loopg [4, 5, 6] xs.length (fun gg m m' i wr => ∃ k : Nat, 0 < k ∧ k ≤ xs.length ∧ xs.length - k ≤ gg ∧ i = .int .i64 k ∧ m = .int .i64 (Lib.minOf (xs.take k)) ∧ m' = .int .i64 (Lib.maxOf (xs.take k)) ∧ Aside (w = wr))
  case atStart =>
    exact ⟨1, Nat.one_pos, h1, by omega, rfl, by rw [Lib.minOf_one]; rfl, by rw [Lib.maxOf_one]; rfl, rfl⟩
  case round =>
    obtain ⟨k, hk0, hk, hg, rfl, rfl, rfl, BW⟩ := hrel
    obtain rfl := BW.out
    by_cases hlt : k < xs.length
    · obtain ⟨b', off', e, hc⟩ := hR.get hlt
      cases e
      have HS : Hid (Lib.minOf (xs.take (k + 1)) = min (Lib.minOf (xs.take k)) (el xs k)) := hid (Lib.minOf_step xs k hk0 hlt)
      have HS' : Hid (Lib.maxOf (xs.take (k + 1)) = max (Lib.maxOf (xs.take k)) (el xs k)) := hid (Lib.maxOf_step xs k hk0 hlt)
      have CN := hid (fun a b W => s_l00Min a b W)
      have CX := hid (fun a b W => s_l00Max a b W)
      obtain ⟨r, hr⟩ : ∃ r, Lib.minOf (xs.take (k + 1)) = r := ⟨_, rfl⟩
      obtain ⟨r', hr'⟩ : ∃ r, Lib.maxOf (xs.take (k + 1)) = r := ⟨_, rfl⟩
      have HR2 := hid hr
      have HR2' := hid hr'
      rw [hr] at HS
      rw [hr'] at HS'
      clear hr hr' hR
      generalize Lib.minOf (xs.take k) = q at *
      generalize Lib.maxOf (xs.take k) = q' at *
      generalize el xs k = z at *
      go_wp2_with fail
      refine (CN.out _ _ _).mono ?_
      rintro e w' ⟨rfl, rfl⟩
      go_wp2_with fail
      refine (CX.out _ _ _).mono ?_
      rintro e w' ⟨rfl, rfl⟩
      go_wp2_with fail
      go_roundg (xs.length - (k + 1))
      case measure => omega
      case rel => exact ⟨k + 1, by omega, by omega, by omega, by go_num, by rw [HR2.out, HS.out], by rw [HR2'.out, HS'.out], rfl⟩
    · obtain rfl : k = xs.length := by omega
      rw [List.take_length]
      go_wp2
      go_ret2
      exact ⟨rfl, rfl⟩
end Go.Proofs.YtmpdaafkphpnoaaGreat
