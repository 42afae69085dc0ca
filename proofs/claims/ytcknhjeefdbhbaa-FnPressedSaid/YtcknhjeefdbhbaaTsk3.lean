import Derived.Test.YtcknhjeefdbhbaaTsk2
import Derived.Test.YtcknhjeefdbhbaaLst3
import Derived.Test.YtcknhjeefdbhbaaOrd3
import Derived.Test.YtcknhjeefdbhbaaSrc3
set_option linter.unusedVariables false
set_option linter.unusedSimpArgs false
namespace Go.Proofs.Ytcknhjeefdbhbaa
open Go.RowKit

theorem Grw.below {w0 w wr w1 : World} {B N c : Nat} {A : Option Addr} {bs : List Int} {v : Value} {xs : List Int} (h : Grw w0 w wr B N A c bs v xs) (hb : Below wr.heap.size wr w1) : Grw w0 w w1 B N A c bs v xs :=
  ⟨h.src.below hb, h.chg.trans (Chg.of hb (Nat.le_refl _)), Own.wide (Own.eqv h.own (Eqv.of hb (Nat.le_refl _))) (Nat.le_refl _) hb.size⟩
/-- A cell of a row that grows. -/
theorem Grw.at {w0 w wr : World} {B N c n c1 : Nat} {A A5 : Option Addr} {bs : List Int} {xs : List Int} (h : Grw w0 w wr B N A c bs (.slice A5 n c1) xs) (hB : B < w.heap.size) {k : Nat} (hk : k < xs.length) :
    ∃ g, A5 = some ⟨g, 0, none⟩ ∧ wr.cell? ⟨g, k, none⟩ = some (.int .i64 (el xs k)) ∧ wr.frozen? ⟨g, k, none⟩ = false ∧ ∀ x, Grw w0 w (wr.setCell ⟨g, k, none⟩ (.int .i64 x)) B N A c bs (.slice A5 n c1) (xs.set k x) := by
  obtain ⟨g, rfl, h1, h2, h3, h4, h5⟩ := OwnI.at h.own hk
  refine ⟨g, rfl, h3, h4, fun x => ⟨h.src.set (by omega) k _, h.chg.far h1 k _, ?_⟩⟩
  have := h5 x
  exact Own.wide this (Nat.le_refl _) (by simp [World.setCell])
set_option maxRecDepth 100000 in
set_option maxHeartbeats 1000000 in
theorem s_l06DrawOrder (w0 w : World) (B N : Nat) (A : Option Addr) (c : Nat) (bs : List Int) (A' : Option Addr) (c' : Nat) (ts : List TaskV) (htb : tasksB ts = true) (hts : tsz ts ≤ 1048576) (hl : bs.length ≤ 1048576) (hN : N ≤ 1000000) (hR : RdU w0 A bs) (hT : RdT w0 A' ts) (hS : SrcE w0 w B N A c bs) :
    Calls Try.prog 122 #[.pointer (some ⟨B, 0, none⟩), .slice A' ts.length c'] w fun e w' => ∃ v xs, e = .returned v ∧ xs.length ≤ 10 ∧ ∃ M, Grw w0 w w' B M A c bs v xs := by
  have hO := TOk.of htb
  have hfew := hO.few
  have CP := hid (fun W M n (hM : M ≤ N + 100) (hn : n ≤ 65536) hS => s_pick w0 W B M A c bs n hl (by omega) hn hR hS)
  have CO := hid (fun W M n (hM : M ≤ N + 102) (hn : n ≤ 65536) hS => s_one w0 W B M A c bs n hl (by omega) hn hR hS)
  have CI := hid (fun W M (hS : SrcE w0 W B M A c bs) => s_l06Is W A' c' ts hts (hT.below hS.bel'))
  have CD := hid (fun W M A5 c5 (xs : List Int) (hx : xs.length ≤ 1048576) (hS : SrcE w0 W B M A c bs) (hr : RdI W A5 xs) => s_l06Order W A' A5 c' c5 ts xs hO hx (hT.below hS.bel') hr)
  rw [htb] at CI
  have hlt := hS.lt
  have hown := Own.of (World.ownsRow_lit (base := w.heap.size) (e := 2) (size := 1) w #[] 0 (Nat.le_refl _) (by simp [maxLen]) rfl)
  have HG0 : Hid (Grw w0 w (w.alloc (.cells #[] 2)) B N A c bs (.slice (some ⟨w.heap.size, 0, none⟩) 0 0) []) := hid ⟨hS.below (ballocw _ _), Chg.of (ballocw _ _) (Nat.le_refl _), by simpa [OwnI, ints] using hown⟩
  clear hown hR hS hT hO htb hts
  go_enter Try.func122, Try.ntmps122
  go_wp2
  go_loopg [5, 6] ts.length (fun gg v s wr => ∃ k : Nat, k ≤ ts.length ∧ ts.length - k ≤ gg ∧ s = .int .i64 k ∧ Aside (∃ xs, xs.length = k ∧ Grw w0 w wr B N A c bs v xs))
  case atStart => exact ⟨0, Nat.zero_le _, by omega, rfl, [], rfl, HG0.out⟩
  case round =>
    obtain ⟨k, hk, hg, rfl, GG⟩ := hrel
    clear HG0
    obtain ⟨xs, hxl, hG⟩ := GG.out
    clear GG
    have hsz := hG.chg.size
    have HG := hid hG
    clear hG
    by_cases hlk : k < ts.length
    · have hlk' : (k : Int) < (ts.length : Int) := by omega
      clear CP CO CI CD
      go_wp2_with (at_builtin; refine wp_append1 w.heap.size rfl _ _ 25 2 (.int .i64 0) 8 rfl Try.underlying25 infoInt rfl u5 xs.length _ (.int .i64 (k : Nat)) rfl rfl rfl HG.out.own hsz (by omega) (by omega) ?_; intro v1 w1 hown1 hbel1)
      have hg1 : Aside (∃ xs, xs.length = k + 1 ∧ Grw w0 w w1 B N A c bs v1 xs) := ⟨xs ++ [(k : Int)], by simp [hxl], HG.out.app hlt hbel1 hown1⟩
      clear HG hown1 hbel1
      go_roundg (ts.length - (k + 1))
      case measure => omega
      case rel => exact ⟨k + 1, by omega, by omega, by go_num, hg1⟩
    · have hkn : k = ts.length := by omega
      subst hkn
      have hlk' : ¬ ((ts.length : Nat) : Int) < ((ts.length : Nat) : Int) := by omega
      obtain ⟨A5, c5, rfl, _, _, _⟩ := Own.int HG.out.own
      rw [hxl] at HG
      have C1 := hid (CP.out wr N 6 (by omega) (by omega) HG.out.src)
      go_wp2_with fail
      refine C1.out.mono ?_
      rintro e w1 ⟨r, rfl, ⟨r0, r1, _⟩, hs1, hc1⟩
      obtain ⟨m, rfl⟩ : ∃ m : Nat, r = m := ⟨r.toNat, by omega⟩
      have hm5 : m ≤ 5 := by have := r1 (by omega); omega
      have HG1 : Hid (∃ xs M, xs.length = ts.length ∧ M + 10 * m ≤ N + 60 ∧ Grw w0 w w1 B M A c bs (.slice A5 ts.length c5) xs) := hid ⟨xs, N + 2, hxl, by omega, HG.out.drew hlt hs1 hc1⟩
      clear HG hs1 hc1 C1 r1 r0 hxl hlk hlk' hsz
      go_wp2_with fail
      go_loopg [7] m (fun gg s wr => ∃ k : Nat, k ≤ m ∧ k ≤ gg ∧ s = .int .i64 k ∧ Aside (∃ xs M, xs.length = ts.length ∧ M + 10 * k ≤ N + 60 ∧ Grw w0 w wr B M A c bs (.slice A5 ts.length c5) xs))
      case atStart => exact ⟨m, Nat.le_refl _, Nat.le_refl _, rfl, HG1.out⟩
      case round =>
        obtain ⟨k, hk, hg, rfl, GG⟩ := hrel
        clear HG1
        obtain ⟨xs, M, hxl, hM, hG⟩ := GG.out
        clear GG
        have HG := hid hG
        have HXL := hid hxl
        clear hG hxl
        by_cases hk0 : 0 < k
        · have hk0' : (0 : Int) < (k : Int) := by omega
          by_cases hn1 : 1 < ts.length
          · have hn1' : (1 : Int) < (ts.length : Int) := by omega
            have C2 := hid (CP.out wr M ((ts.length : Int) - 1) (by omega) (by omega) HG.out.src)
            go_wp2_with fail
            refine C2.out.mono ?_
            rintro e w2 ⟨r, rfl, ⟨r0, r1, r2⟩, hs2, hc2⟩
            obtain ⟨a, rfl⟩ : ∃ a : Nat, r = a := ⟨r.toNat, by omega⟩
            have ha : a + 1 < ts.length := by
              by_cases e : (ts.length : Int) - 1 ≤ 1
              · have := r2 e; omega
              · have := r1 (by omega); omega
            have hg2 := HG.out.drew hlt hs2 hc2
            obtain ⟨g, rfl, hc, hf, hset⟩ := hg2.at hlt (k := a) (by rw [HXL.out]; omega)
            obtain ⟨g', e', hc', hf', _⟩ := hg2.at hlt (k := a + 1) (by rw [HXL.out]; omega)
            cases e'
            have hg3 := hset (el xs (a + 1))
            obtain ⟨g', e', hc3, hf3, hset3⟩ := hg3.at hlt (k := a + 1) (by rw [List.length_set, HXL.out]; omega)
            cases e'
            have hg4 := hset3 (el xs a)
            have hzl : ((xs.set a (el xs (a + 1))).set (a + 1) (el xs a)).length = ts.length := by rw [List.length_set, List.length_set]; exact HXL.out
            have HZL := hid hzl
            obtain ⟨g', e', hc4, hf4, hset4⟩ := hg4.at hlt (k := a + 1) (by rw [hzl]; omega)
            cases e'
            have ha1 : ((a : Int) + 1) < (ts.length : Int) := by omega
            have ha0 : (a : Int) < (ts.length : Int) := by omega
            have CI4 := hid (CI.out _ (M + 2) hg4.src)
            have HG4 := hid hg4
            generalize el (xs.set a (el xs (a + 1))) (a + 1) = y3 at *
            generalize ((xs.set a (el xs (a + 1))).set (a + 1) (el xs a)) = zs at *
            generalize el xs a = x0 at *
            generalize el xs (a + 1) = x1 at *
            have CD4 := hid (fun W (hb : Below ((w2.setCell ⟨g, a, none⟩ (.int .i64 x1)).setCell ⟨g, a + 1, none⟩ (.int .i64 x0)).heap.size ((w2.setCell ⟨g, a, none⟩ (.int .i64 x1)).setCell ⟨g, a + 1, none⟩ (.int .i64 x0)) W) => CD.out W (M + 2) (some ⟨g, 0, none⟩) c5 zs (by rw [HZL.out]; omega) (HG4.out.below hb).src (OwnI.rd (HG4.out.below hb).own))
            rw [HZL.out] at CD4
            clear hg2 hg3 hset hset3 hg4 hs2 hc2 C2 HG hc3 hc4 hf4 hset4 r1 r2 CI CD hzl HXL
            generalize (stepN ts zs ts.length && decide (ts.length = ts.length)) = b4 at *
            go_wp2_with fail
            refine CI4.out.mono ?_
            rintro e w5 ⟨rfl, hb5⟩
            have CD5 := hid (CD4.out w5 hb5)
            have HG5 := hid (HG4.out.below hb5)
            clear CI4 CD4 hb5 HG4
            go_wp2_with fail
            refine CD5.out.mono ?_
            rintro e w6 ⟨rfl, hb6⟩
            have HG6 := hid (HG5.out.below hb6)
            clear CD5 HG5 hb6
            cases b4 with
            | true =>
              have GG : Aside (∃ xs M, xs.length = ts.length ∧ M + 10 * (k - 1) ≤ N + 60 ∧ Grw w0 w w6 B M A c bs (.slice (some ⟨g, 0, none⟩) ts.length c5) xs) := ⟨_, M + 2, HZL.out, by omega, HG6.out⟩
              clear HG6 HZL CO CP
              go_wp2
              go_roundg (k - 1)
              case measure => omega
              case rel => exact ⟨k - 1, by omega, by omega, (by congr 1; omega), GG⟩
            | false =>
              have C7 := hid (CO.out w6 (M + 2) 8 (by omega) (by omega) HG6.out.src)
              clear CO CP
              go_wp2_with fail
              refine C7.out.mono ?_
              rintro e w7 ⟨b7, rfl, hs7, hc7⟩
              have hg7 := HG6.out.drew hlt hs7 hc7
              cases b7 with
              | true =>
                have GG : Aside (∃ xs M, xs.length = ts.length ∧ M + 10 * (k - 1) ≤ N + 60 ∧ Grw w0 w w7 B M A c bs (.slice (some ⟨g, 0, none⟩) ts.length c5) xs) := ⟨_, M + 2 + 2, HZL.out, by omega, hg7⟩
                clear HG6 HZL C7 hg7 hs7 hc7
                go_wp2
                go_roundg (k - 1)
                case measure => omega
                case rel => exact ⟨k - 1, by omega, by omega, (by congr 1; omega), GG⟩
              | false =>
                obtain ⟨g', e', p1, p2, _⟩ := hg7.at hlt (k := a) (by rw [HZL.out]; omega)
                cases e'
                obtain ⟨g', e', p3, p4, pset⟩ := hg7.at hlt (k := a + 1) (by rw [HZL.out]; omega)
                cases e'
                have hg8 := pset (el zs a)
                obtain ⟨g', e', p5, p6, pset2⟩ := hg8.at hlt (k := a) (by rw [List.length_set, HZL.out]; omega)
                cases e'
                have hg9 := pset2 x0
                have hl9 : ((zs.set (a + 1) (el zs a)).set a x0).length = ts.length := by rw [List.length_set, List.length_set]; exact HZL.out
                have GG : Aside (∃ xs M, xs.length = ts.length ∧ M + 10 * (k - 1) ≤ N + 60 ∧ Grw w0 w ((w7.setCell ⟨g, a + 1, none⟩ (.int .i64 (el zs a))).setCell ⟨g, a, none⟩ (.int .i64 x0)) B M A c bs (.slice (some ⟨g, 0, none⟩) ts.length c5) xs) := ⟨_, M + 2 + 2, hl9, by omega, hg9⟩
                clear HG6 HZL C7 hg7 hs7 hc7 pset pset2 hg8 hg9 hl9
                generalize el (zs.set (a + 1) (el zs a)) a = y5 at *
                generalize el zs (a + 1) = y4 at *
                generalize el zs a = y3 at *
                go_wp2
                go_roundg (k - 1)
                case measure => omega
                case rel => exact ⟨k - 1, by omega, by omega, (by congr 1; omega), GG⟩
          · have hn1' : ¬ (1 : Int) < (ts.length : Int) := by omega
            have C9 := hid (CO.out wr M 14 (by omega) (by omega) HG.out.src)
            clear CP CI CD
            go_wp2_with fail
            refine C9.out.mono ?_
            rintro e w9 ⟨b, rfl, hs9, hc9⟩
            have hg9 := HG.out.drew hlt hs9 hc9
            have hz9 := hg9.chg.size
            have hx8 : xs.length ≤ 8 := by have := HXL.out; omega
            have HG9 := hid hg9
            clear HG C9 hs9 hc9 hg9 CO
            cases b with
            | true =>
              go_wp2_with (at_builtin; refine wp_append1 w.heap.size rfl _ _ 25 2 (.int .i64 0) 8 rfl Try.underlying25 infoInt rfl (.slice A5 ts.length c5) xs.length _ (.int .i64 0) rfl rfl rfl HG9.out.own hz9 (by omega) (by omega) ?_; intro v8 w8 hown8 hbel8)
              have hg8 := HG9.out.app hlt hbel8 hown8
              go_ret
              exact ⟨_, xs ++ [0], rfl, by simp; omega, _, hg8⟩
            | false =>
              go_wp2
              go_ret
              exact ⟨_, xs, rfl, by omega, _, HG9.out⟩
        · obtain rfl : k = 0 := by omega
          have C9 := hid (CO.out wr M 14 (by omega) (by omega) HG.out.src)
          clear CP CI CD
          go_wp2_with fail
          refine C9.out.mono ?_
          rintro e w9 ⟨b, rfl, hs9, hc9⟩
          have hg9 := HG.out.drew hlt hs9 hc9
          have hz9 := hg9.chg.size
          have hx8 : xs.length ≤ 8 := by have := HXL.out; omega
          have HG9 := hid hg9
          clear HG C9 hs9 hc9 hg9 CO
          cases b with
          | true =>
            go_wp2_with (at_builtin; refine wp_append1 w.heap.size rfl _ _ 25 2 (.int .i64 0) 8 rfl Try.underlying25 infoInt rfl (.slice A5 ts.length c5) xs.length _ (.int .i64 0) rfl rfl rfl HG9.out.own hz9 (by omega) (by omega) ?_; intro v8 w8 hown8 hbel8)
            have hg8 := HG9.out.app hlt hbel8 hown8
            go_ret
            exact ⟨_, xs ++ [0], rfl, by simp; omega, _, hg8⟩
          | false =>
            go_wp2
            go_ret
            exact ⟨_, xs, rfl, by omega, _, HG9.out⟩
set_option maxRecDepth 100000 in
theorem s_R8TaskOrder (w : World) (A : Option Addr) (c : Nat) (bs : List Int) (A' : Option Addr) (c' : Nat) (ts : List TaskV) (htb : tasksB ts = true) (hts : tsz ts ≤ 1048576) (hl : bs.length ≤ 1048576) (hR : RdU w A bs) (hT : RdT w A' ts) :
    Calls Try.prog 47 #[.slice A bs.length c, .slice A' ts.length c'] w fun e w' => ∃ v xs, e = .returned v ∧ xs.length ≤ 10 ∧ OI w' w.heap.size w'.heap.size v xs ∧ Below w.heap.size w w' := by
  have C1 := hid (s_l00From w A c bs)
  have C2 := hid (fun W hS => s_l06DrawOrder w W w.heap.size 0 A c bs A' c' ts htb hts hl (by omega) hR hT hS)
  clear hR hT htb hts
  go_enter Try.func47, Try.ntmps47
  go_wp2_with fail
  refine C1.out.mono ?_
  rintro e w1 ⟨rfl, hs1, hz⟩
  have C3 := hid (C2.out w1 hs1)
  have HZ := hid hz
  clear C1 C2 hs1 hz
  go_wp2_with fail
  refine C3.out.mono ?_
  rintro e w2 ⟨v, xs, rfl, hx, M, hg⟩
  have HR : Hid (xs.length ≤ 10 ∧ OI w2 w.heap.size w2.heap.size v xs ∧ Below w.heap.size w w2) := hid ⟨hx, Own.wide hg.own (by have := HZ.out; omega) (Nat.le_refl _), hg.src.bel'⟩
  clear hx hg C3
  go_wp2_with fail
  go_ret
  exact ⟨_, xs, rfl, HR.out⟩
end Go.Proofs.Ytcknhjeefdbhbaa
