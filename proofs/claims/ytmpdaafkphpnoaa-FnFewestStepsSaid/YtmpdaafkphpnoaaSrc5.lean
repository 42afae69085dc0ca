import Derived.Test.YtmpdaafkphpnoaaSrc4
import Derived.Test.YtmpdaafkphpnoaaShuf4t
set_option linter.unusedVariables false
set_option linter.unusedSimpArgs false
namespace Go.Proofs.Ytmpdaafkphpnoaa
open Go.RowKit

def nby (K y : Nat) : Nat := if K = 1 ∨ K = 3 ∨ K = 4 then 0 else y
def namedOk (K L y : Nat) : Bool := (m_NamedShuffle (K : Int) (L : Int) (nby K y : Int)).2 && (shufB (m_NamedShuffle (K : Int) (L : Int) (nby K y : Int)).1 && decide ((m_NamedShuffle (K : Int) (L : Int) (nby K y : Int)).1.length = L))
theorem named_all : ((List.range 6).all fun K => [2, 4, 8, 16].all fun L => (List.range L).all fun y => namedOk K L y) = true := by decide +kernel
theorem named_ok {K L y : Nat} (hK : K < 6) (hL : L = 2 ∨ L = 4 ∨ L = 8 ∨ L = 16) (hy : y < L) :
    (m_NamedShuffle (K : Int) (L : Int) (nby K y : Int)).2 = true ∧ shufB (m_NamedShuffle (K : Int) (L : Int) (nby K y : Int)).1 = true ∧ (m_NamedShuffle (K : Int) (L : Int) (nby K y : Int)).1.length = L := by
  have h := named_all
  rw [List.all_eq_true] at h
  have h := h K (List.mem_range.2 hK)
  rw [List.all_eq_true] at h
  have h := h L (by simp; omega)
  rw [List.all_eq_true] at h
  have h := h y (List.mem_range.2 hy)
  simpa [namedOk] using h
theorem shuf_of_all {xs : List Int} {n : Nat} (hl : xs.length = n) (hn : lanesB n = true) (h : xs.all (fun x => inB x 0 ((n : Int) - 1)) = true) : shufB xs = true := by unfold shufB; rw [hl, hn, h]; rfl
set_option maxRecDepth 100000 in
set_option maxHeartbeats 1000000 in
theorem s_DrawOk (w0 w : World) (B N : Nat) (A : Option Addr) (c : Nat) (bs : List Int) (n : Nat) (hn : n = 2 ∨ n = 4 ∨ n = 8 ∨ n = 16) (hl : bs.length ≤ 1048576) (hN : N ≤ 900000) (hR : RdU w0 A bs) (hS : SrcE w0 w B N A c bs) :
    Calls Try.prog 22 #[.pointer (some ⟨B, 0, none⟩), .int .i64 (n : Nat)] w fun e w' => ∃ v xs, e = .returned v ∧ (shufB xs = true ∧ xs.length = n) ∧ Grw w0 w w' B (N + 100) A c bs v xs := by
  have hlt := hS.lt
  have C1 := hid (s_one w0 w B N A c bs 2 hl (by omega) (by omega) hR hS)
  have C2a := hid (fun W hS => s_pick w0 W B (N + 2) A c bs 6 hl (by omega) (by omega) hR hS)
  have C3a := hid (fun W hS => s_pick w0 W B (N + 2 + 2) A c bs (n : Nat) hl (by omega) (by omega) hR hS)
  have C2b := hid (fun W hS => s_one w0 W B (N + 2) A c bs 2 hl (by omega) (by omega) hR hS)
  have C3b := hid (fun W hS => s_DrawOrder w0 W B (N + 2 + 2) A c bs n (by omega) (by omega) hl (by omega) hR hS)
  have CP := hid (fun W M (hM : M ≤ N + 40) hS => s_pick w0 W B M A c bs (n : Nat) hl (by omega) (by omega) hR hS)
  have CN := hid (fun W k y => s_NamedShuffle W k (n : Int) y)
  have hlan : lanesB n = true := by rcases hn with rfl | rfl | rfl | rfl <;> rfl
  have hn16 : n ≤ 16 := by omega
  have hn2 : (1 : Int) < (n : Int) := by omega
  clear hR hS
  go_enter Try.func22, Try.ntmps22
  go_wp2_with fail
  refine C1.out.mono ?_
  rintro e w1 ⟨b, rfl, hs1, hc1⟩
  cases b with
  | true =>
    have C4 := hid (C2a.out w1 hs1)
    have HC1 := hid hc1
    clear hs1 hc1 C1 C2a C2b C3b CP
    go_wp2_with fail
    refine C4.out.mono ?_
    rintro e w2 ⟨k, rfl, ⟨hk0, hk1, _⟩, hs2, hc2⟩
    obtain ⟨K, hK⟩ : ∃ K : Nat, k = K := ⟨k.toNat, by omega⟩
    subst hK
    have hK6 : K < 6 := by have := hk1 (by omega); omega
    have C5 := hid (C3a.out w2 hs2)
    have HC2 := hid (HC1.out.trans hc2)
    clear hs2 hc2 C4 C3a hk0 hk1 HC1
    go_wp2_with fail
    refine C5.out.mono ?_
    rintro e w3 ⟨y, rfl, ⟨hy0, hy1, _⟩, hs3, hc3⟩
    obtain ⟨Y, hY⟩ : ∃ Y : Nat, y = Y := ⟨y.toNat, by omega⟩
    subst hY
    have hYn : Y < n := by have := hy1 (by omega); omega
    have HS3 := hid hs3
    have HC3 := hid (HC2.out.trans hc3)
    obtain ⟨n1, n2, n3⟩ := named_ok hK6 hn hYn
    have HN := hid (And.intro n2 n3)
    have C6 := hid (CN.out w3 (K : Int) (nby K Y : Int))
    clear hs3 hc3 C5 CN hy0 hy1 HC2 n2 n3
    generalize m_NamedShuffle (K : Int) (n : Int) (nby K Y : Int) = res at *
    obtain ⟨l, ok⟩ := res
    obtain rfl : ok = true := n1
    rcases (show K = 0 ∨ K = 1 ∨ K = 2 ∨ K = 3 ∨ K = 4 ∨ K = 5 by omega) with rfl | rfl | rfl | rfl | rfl | rfl
    all_goals
      simp only [nby] at C6
      have C7 := hid C6.out
      clear C6
      try simp at C7
      go_wp2_with fail
      refine C7.out.mono ?_
      rintro e w4 ⟨v, rfl, ho, hb⟩
      obtain ⟨A1, c1, rfl, _, _, _⟩ := OI.shp ho
      have HG : Hid (Grw w0 w w4 B (N + 100) A c bs (.slice A1 l.length c1) l) := hid ⟨(HS3.out.below hb).mono (by omega), HC3.out.trans (Chg.of hb (Nat.le_refl _)), Own.wide ho HC3.out.size (Nat.le_refl _)⟩
      clear ho hb C7
      go_wp2_with fail
      go_ret
      exact ⟨_, l, rfl, HN.out, HG.out⟩
  | false =>
    have C4 := hid (C2b.out w1 hs1)
    have HC1 := hid hc1
    clear hs1 hc1 C1 C2a C2b C3a CN
    go_wp2_with fail
    refine C4.out.mono ?_
    rintro e w2 ⟨b, rfl, hs2, hc2⟩
    cases b with
    | true =>
      have C5 := hid (C3b.out w2 hs2)
      have HC2 := hid (HC1.out.trans hc2)
      clear hs2 hc2 C4 C3b CP HC1
      go_wp2_with fail
      refine C5.out.mono ?_
      rintro e w3 ⟨v, xs, rfl, hx, hg⟩
      obtain ⟨A1, c1, rfl, _, _, _⟩ := Own.int hg.own
      have HN : Hid (shufB xs = true ∧ xs.length = n) := hid ⟨hx.shuf (by rcases hn with rfl | rfl | rfl | rfl <;> rfl), hx.1⟩
      have HG : Hid (Grw w0 w w3 B (N + 100) A c bs (.slice A1 xs.length c1) xs) := hid ⟨hg.src.mono (by omega), HC2.out.trans hg.chg, Own.wide hg.own HC2.out.size (Nat.le_refl _)⟩
      clear hx hg C5 HC2
      go_wp2_with fail
      go_ret
      exact ⟨_, xs, rfl, HN.out, HG.out⟩
    | false =>
      have hcc := HC1.out.trans hc2
      have hown := Own.of (World.ownsRow_lit (base := w2.heap.size) (e := 2) (size := 1) w2 #[] 0 (Nat.le_refl _) (by simp [maxLen]) rfl)
      have HG : Hid (Grw w0 w (w2.alloc (.cells #[] 2)) B (N + 4) A c bs (.slice (some ⟨w2.heap.size, 0, none⟩) 0 0) []) := hid ⟨hs2.below (ballocw _ _), hcc.trans (Chg.of (ballocw _ _) (Nat.le_refl _)), by have := Own.wide hown hcc.size (Nat.le_refl _); simpa [OwnI, ints] using this⟩
      clear hs2 hc2 C4 HC1 hcc hown C3b
      go_wp2_with fail
      go_loopg [9, 10] n (fun gg v s wr => ∃ k : Nat, k ≤ n ∧ n - k ≤ gg ∧ s = .int .i64 k ∧ Aside (∃ xs, (xs.length = k ∧ xs.all (fun x => inB x 0 ((n : Int) - 1)) = true) ∧ Grw w0 w wr B (N + 4 + 2 * k) A c bs v xs))
      case atStart => exact ⟨0, Nat.zero_le _, by omega, rfl, ⟨[], ⟨rfl, rfl⟩, HG.out⟩⟩
      case round =>
        obtain ⟨k, hk, hg, rfl, GG⟩ := hrel
        clear HG
        obtain ⟨xs, ⟨hx1, hx2⟩, hG⟩ := GG.out
        clear GG
        by_cases hlk : k < n
        · have hlk' : (k : Int) < (n : Int) := by omega
          have hC := hid (CP.out wr (N + 4 + 2 * k) (by omega) hG.src)
          have HG := hid hG
          have HX := hid hx2
          clear hG hx2 CP
          go_wp2_with fail
          refine hC.out.mono ?_
          rintro e w3 ⟨x, rfl, ⟨hx0, hx1', _⟩, hs3, hc3⟩
          have hg2 := HG.out.drew hlt hs3 hc3
          have HG2 := hid hg2
          have HW : Hid (inB x 0 ((n : Int) - 1) = true) := hid (inB_iff.2 ⟨hx0, by have := hx1' hn2; omega⟩)
          have hz : w.heap.size ≤ w3.heap.size := hg2.chg.size
          clear hs3 hc3 hC HG hg2 hx0 hx1'
          go_wp2_with (at_builtin; refine wp_append1 w.heap.size rfl _ _ 27 2 (.int .i64 0) 8 rfl Try.underlying27 infoInt rfl u9 xs.length _ (.int .i64 x) rfl rfl rfl HG2.out.own hz (by omega) (by omega) ?_; intro v1 w4 hown1 hbel1)
          go_roundg (n - (k + 1))
          case measure => omega
          case rel =>
            refine ⟨k + 1, by omega, by omega, by go_num, (show Aside _ from ⟨xs ++ [x], ⟨by rw [List.length_append, List.length_singleton, hx1], by rw [List.all_append, HX.out]; simp [HW.out]⟩, ?_⟩)⟩
            have := HG2.out.app hlt hbel1 hown1
            exact ⟨this.src.mono (by omega), this.chg, this.own⟩
        · have : k = n := by omega
          subst this
          have hlk' : ¬ ((k : Nat) : Int) < ((k : Nat) : Int) := by omega
          have HX := hid (And.intro (shuf_of_all hx1 hlan hx2) hx1)
          have HG : Hid (Grw w0 w wr B (N + 100) A c bs u9 xs) := hid ⟨hG.src.mono (by omega), hG.chg, hG.own⟩
          clear hx1 hx2 hG CP
          go_wp2_with fail
          go_ret
          exact ⟨_, rfl, xs, HX.out, HG.out⟩

theorem l_r8Long (w : World) (A A' : Option Addr) (n c n' c' : Nat) (hn : n ≤ 9223372036854775807) (hn' : n' ≤ 9223372036854775807) :
    Calls Try.prog 5 #[.slice A n c, .slice A' n' c'] w fun e w' => e = .returned (.bool (decide (48 < n) || decide (48 < n'))) ∧ w = w' := by
  by_cases h1 : (48 : Int) < n
  · go_enter Try.func5, Try.ntmps5
    go_wp2
    go_ret
    exact ⟨ret_b (by simp; omega), rfl⟩
  · by_cases h2 : (48 : Int) < n'
    all_goals
      go_enter Try.func5, Try.ntmps5
      go_wp2
      go_ret
      exact ⟨ret_b (by rw [Bool.eq_iff_iff]; simp; omega), rfl⟩
end Go.Proofs.Ytmpdaafkphpnoaa
