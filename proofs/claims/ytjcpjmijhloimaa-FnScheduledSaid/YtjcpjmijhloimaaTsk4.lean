import Derived.Test.YtjcpjmijhloimaaTsk3
import Derived.Test.YtjcpjmijhloimaaLst4
import Derived.Test.YtjcpjmijhloimaaCalm
import Derived.Deep.RegionWith
set_option linter.unusedVariables false
set_option linter.unusedSimpArgs false
namespace Go.Proofs.Ytjcpjmijhloimaa
open Go.RowKit

theorem lst_bnd {ts : List TaskV} (hO : TOk ts) : ∀ k, k < (lstS ts).length → -1 ≤ el (lstS ts) k ∧ el (lstS ts) k ≤ 100 := fun k hk => by
  obtain ⟨_, h1, _⟩ := lstT_spec hO
  have h2 := lst_upto ts (lstT ts) k hk
  have : (lstT ts : Int) ≤ 48 := by omega
  show -1 ≤ el (lstN ts (lstT ts)) k ∧ el (lstN ts (lstT ts)) k ≤ 100
  omega
set_option maxRecDepth 100000 in
set_option maxHeartbeats 1000000 in
theorem s_l06DrawTimes (w0 w : World) (B N : Nat) (A : Option Addr) (c : Nat) (bs : List Int) (A' : Option Addr) (c' : Nat) (ts : List TaskV) (htb : tasksB ts = true) (hts : tsz ts ≤ 1048576) (hl : bs.length ≤ 1048576) (hN : N ≤ 1000000) (hR : RdU w0 A bs) (hT : RdT w0 A' ts) (hS : SrcE w0 w B N A c bs) :
    Calls Try.prog 124 #[.pointer (some ⟨B, 0, none⟩), .slice A' ts.length c'] w fun e w' => ∃ v xs, e = .returned v ∧ xs.length ≤ 10 ∧ ∃ M, Grw w0 w w' B M A c bs v xs := by
  have hO := TOk.of htb
  have hfew := hO.few
  have CP := hid (fun W M n (hM : M ≤ N + 100) (hn : n ≤ 65536) hS => s_pick w0 W B M A c bs n hl (by omega) hn hR hS)
  have CO := hid (fun W M n (hM : M ≤ N + 102) (hn : n ≤ 65536) hS => s_one w0 W B M A c bs n hl (by omega) hn hR hS)
  have CA := hid (fun W M A2 c2 xs (hM : M ≤ N + 102) (hx : 1 ≤ xs.length) (hx2 : xs.length ≤ 65536) hS hL => s_among w0 W B M A c bs A2 c2 xs hx hx2 hl (by omega) hR hS hL)
  have CI := hid (s_l06Is w A' c' ts hts (hT.below hS.bel'))
  have CL := hid (fun W M (hS : SrcE w0 W B M A c bs) => s_ListSchedule W A' c' ts hts (hT.below hS.bel'))
  rw [htb] at CI
  have hml : m_ListSchedule ts = (lstS ts, true) := by unfold m_ListSchedule; rw [htb]; rfl
  rw [hml] at CL
  have hlb := lst_bnd hO
  have hll : (lstS ts).length = ts.length := lstN_length ts _
  have HLB := hid hlb
  have HLL := hid hll
  have hlt := hS.lt
  have HS := hid hS
  clear hR hS hT hO htb hts hml hlb hll
  go_enter Try.func124, Try.ntmps124
  go_wp2_with fail
  refine CI.out.mono ?_
  rintro e w1 ⟨rfl, hb1⟩
  have HB1 := hid hb1
  have C1 := hid (CO.out w1 N 4 (by omega) (by omega) (HS.out.below hb1))
  clear CI hb1 HS
  go_wp2_with fail
  refine C1.out.mono ?_
  rintro e w2 ⟨b, rfl, hs2, hc2⟩
  have HS2 := hid hs2
  have HC2 := hid ((Chg.of HB1.out (Nat.le_refl _)).trans hc2 : Chg B (B + 1) w w2)
  clear C1 hs2 hc2 HB1
  cases b with
  | false =>
    have C3 := hid (CL.out w2 (N + 2) HS2.out)
    clear CL CA
    generalize lstS ts = ls at *
    go_wp2_with fail
    refine C3.out.mono ?_
    rintro e w3 ⟨v5, rfl, ho3, hb3⟩
    obtain ⟨A5, c5, rfl, hc5, _, _⟩ := OI.shp ho3
    have hz2 := HC2.out.size
    have HG3 : Hid (Grw w0 w w3 B (N + 2) A c bs (.slice A5 ts.length c5) ls) := hid ⟨HS2.out.below hb3, HC2.out.trans (Chg.of hb3 (Nat.le_refl _)), by rw [← HLL.out]; exact Own.wide ho3 hz2 (Nat.le_refl _)⟩
    have C4 := hid (CP.out w3 (N + 2) 3 (by omega) (by omega) HG3.out.src)
    rw [HLL.out]
    clear C3 ho3 hb3 HS2 HC2
    go_wp2_with fail
    refine C4.out.mono ?_
    rintro e w4 ⟨late, rfl, ⟨l0, l1, _⟩, hs4, hc4⟩
    have l1 := l1 (by omega)
    have HG4 : Hid (∃ xs, xs.length = ts.length ∧ (∀ k, k < xs.length → -1 ≤ el xs k ∧ el xs k ≤ 100 + 2 * (0 : Nat)) ∧ Grw w0 w w4 B (N + 4) A c bs (.slice A5 ts.length c5) xs) := hid ⟨ls, HLL.out, HLB.out, HG3.out.drew hlt hs4 hc4⟩
    clear C4 hs4 hc4 HG3 HLL HLB
    go_wp2_with fail
    go_loopg [8] ts.length (fun gg s wr => ∃ i : Nat, i ≤ ts.length ∧ ts.length - i ≤ gg ∧ s = .int .i64 i ∧ Aside (∃ xs, xs.length = ts.length ∧ (∀ k, k < xs.length → -1 ≤ el xs k ∧ el xs k ≤ 100 + 2 * (i : Nat)) ∧ Grw w0 w wr B (N + 4) A c bs (.slice A5 ts.length c5) xs))
    case atStart => exact ⟨0, Nat.zero_le _, by omega, rfl, HG4.out⟩
    case round =>
      obtain ⟨i, hi, hg, rfl, GG⟩ := hrel
      clear HG4
      obtain ⟨xs, hxl, hxb, hG⟩ := GG.out
      clear GG
      by_cases hlti : i < ts.length
      · have hlti' : (i : Int) < (ts.length : Int) := by omega
        obtain ⟨g, rfl, p1, p2, pset⟩ := hG.at hlt (k := i) (by omega)
        have hxi := hxb i (by omega)
        have GG : Aside (∃ ys, ys.length = ts.length ∧ (∀ k, k < ys.length → -1 ≤ el ys k ∧ el ys k ≤ 100 + 2 * ((i + 1 : Nat) : Int)) ∧ Grw w0 w (wr.setCell ⟨g, i, none⟩ (.int .i64 (el xs i + late))) B (N + 4) A c bs (.slice (some ⟨g, 0, none⟩) ts.length c5) ys) :=
          ⟨_, by rw [List.length_set]; exact hxl, fun k hk => by
            rw [List.length_set] at hk
            by_cases e : i = k
            · subst e; rw [el_set_same hk]; omega
            · rw [el_set_other e]; have := hxb k hk; omega, pset _⟩
        clear hG pset hxb hxl CP CO
        generalize el xs i = x at *
        go_wp2
        go_roundg (ts.length - (i + 1))
        case measure => omega
        case rel => exact ⟨i + 1, by omega, by omega, by go_num, GG⟩
      · have hin : i = ts.length := by omega
        subst hin
        have hlti' : ¬ ((ts.length : Nat) : Int) < ((ts.length : Nat) : Int) := by omega
        have hx10 : xs.length ≤ 10 := by omega
        by_cases hn0 : 0 < ts.length
        · have hn0' : (0 : Int) < (ts.length : Int) := by omega
          have C5 := hid (CO.out wr (N + 4) 4 (by omega) (by omega) hG.src)
          have HG := hid hG
          have HXL := hid hxl
          have HXB := hid hxb
          clear hG hxl hxb
          go_wp2_with fail
          refine C5.out.mono ?_
          rintro e w5 ⟨b5, rfl, hs5, hc5⟩
          have HG5 := hid (HG.out.drew hlt hs5 hc5)
          clear C5 hs5 hc5 HG CO
          cases b5 with
          | false =>
            clear CP
            go_wp2
            go_ret
            exact ⟨_, xs, rfl, hx10, _, HG5.out⟩
          | true =>
            have C6 := hid (CP.out w5 (N + 4 + 2) (ts.length : Nat) (by omega) (by omega) HG5.out.src)
            go_wp2_with fail
            refine C6.out.mono ?_
            rintro e w6 ⟨r, rfl, ⟨r0, r1, r2⟩, hs6, hc6⟩
            obtain ⟨a, rfl⟩ : ∃ a : Nat, r = a := ⟨r.toNat, by omega⟩
            have ha : a < ts.length := by
              by_cases e : (ts.length : Int) ≤ 1
              · have := r2 e; omega
              · have := r1 (by omega); omega
            have ha' : (a : Int) < (ts.length : Int) := by omega
            have hg6 := HG5.out.drew hlt hs6 hc6
            obtain ⟨g, rfl, p1, p2, _⟩ := hg6.at hlt (k := a) (by rw [HXL.out]; exact ha)
            have HG6 := hid hg6
            have hxa := HXB.out a (by rw [HXL.out]; exact ha)
            clear C6 hs6 hc6 hg6 HG5 r1 r2 HXB
            generalize hxe : el xs a = x at *
            have HXE := hid hxe
            clear hxe
            have C7 := hid (fun W (hb : Below w6.heap.size w6 W) => CP.out W (N + 4 + 2 + 2) 4 (by omega) (by omega) (HG6.out.src.below hb))
            go_wp2
            have p1d : w6.drew.cell? ⟨g, a, none⟩ = some (.int .i64 x) := p1
            go_region_with (first | (go_at_call 111; refine (C7.out _ (bdrewL _)).mono ?_; rintro e w7 ⟨y, rfl, ⟨y0, y1, _⟩, hs7, hc7⟩; have y1 := y1 (by omega); have hg7 := (HG6.out.below (bdrewL _)).drew hlt hs7 hc7; obtain ⟨g', e', q1, q2, qset⟩ := hg7.at hlt (k := a) (by rw [HXL.out]; exact ha); cases e'; rw [HXE.out] at q1; have HG7 := hid hg7; have QSET := hid qset; clear hs7 hc7 hg7 qset))
            all_goals go_wp2
            all_goals go_ret
            all_goals exact ⟨_, _, rfl, by rw [List.length_set]; exact hx10, _, QSET.out _⟩
        · have hn0' : ¬ (0 : Int) < (ts.length : Int) := by omega
          have HG := hid hG
          clear hG hxl hxb CP CO
          go_wp2
          go_ret
          first | exact ⟨_, xs, rfl, hx10, _, HG.out⟩ | exact ⟨_, rfl, xs, hx10, _, HG.out⟩
  | true =>
    clear CL HLB HLL
    have hown := Own.of (World.ownsRow_lit (base := w2.heap.size) (e := 2) (size := 1) w2 #[] 0 (Nat.le_refl _) (by simp [maxLen]) rfl)
    have hz2 := HC2.out.size
    have HG3 : Hid (Grw w0 w (w2.alloc (.cells #[] 2)) B (N + 2) A c bs (.slice (some ⟨w2.heap.size, 0, none⟩) 0 0) []) := hid ⟨HS2.out.below (ballocw _ _), HC2.out.trans (Chg.of (ballocw _ _) (Nat.le_refl _)), by
      have h : OwnI (w2.alloc (.cells #[] 2)) w2.heap.size (w2.alloc (.cells #[] 2)).heap.size 2 (.slice (some ⟨w2.heap.size, 0, none⟩) 0 0) [] := by simpa [OwnI, ints] using hown
      exact Own.wide h hz2 (Nat.le_refl _)⟩
    clear hown HS2 HC2 hz2
    go_wp2
    go_loopg [10, 11] ts.length (fun gg v s wr => ∃ i : Nat, i ≤ ts.length ∧ ts.length - i ≤ gg ∧ s = .int .i64 i ∧ Aside (∃ xs M, xs.length = i ∧ M ≤ N + 2 + 2 * i ∧ Grw w0 w wr B M A c bs v xs))
    case atStart => exact ⟨0, Nat.zero_le _, by omega, rfl, [], N + 2, rfl, by omega, HG3.out⟩
    case round =>
      obtain ⟨i, hi, hg, rfl, GG⟩ := hrel
      clear HG3
      obtain ⟨xs, M, hxl, hM, hG⟩ := GG.out
      clear GG
      by_cases hlti : i < ts.length
      · have hlti' : (i : Int) < (ts.length : Int) := by omega
        have C4 := hid (CP.out wr M 9 (by omega) (by omega) hG.src)
        have HG := hid hG
        clear hG CA CO CP
        go_wp2_with fail
        refine C4.out.mono ?_
        rintro e w4 ⟨y, rfl, _, hs4, hc4⟩
        have hg4 := HG.out.drew hlt hs4 hc4
        have hz4 := hg4.chg.size
        have HG4 := hid hg4
        clear hs4 hc4 hg4 C4 HG
        go_wp2_with (at_builtin; refine wp_append1 w.heap.size rfl _ _ 25 2 (.int .i64 0) 8 rfl Try.underlying25 infoInt rfl u10 xs.length _ (.int .i64 y) rfl rfl rfl HG4.out.own hz4 (by omega) (by omega) ?_; intro v1 w5 hown1 hbel1)
        have hg1 : Aside (∃ xs M, xs.length = i + 1 ∧ M ≤ N + 2 + 2 * (i + 1) ∧ Grw w0 w w5 B M A c bs v1 xs) := ⟨xs ++ [y], M + 2, by simp [hxl], by omega, HG4.out.app hlt hbel1 hown1⟩
        clear HG4 hown1 hbel1
        go_roundg (ts.length - (i + 1))
        case measure => omega
        case rel => exact ⟨i + 1, by omega, by omega, by go_num, hg1⟩
      · have hin : i = ts.length := by omega
        subst hin
        have hlti' : ¬ ((ts.length : Nat) : Int) < ((ts.length : Nat) : Int) := by omega
        have hx10 : xs.length ≤ 10 := by omega
        obtain ⟨A5, c5, rfl, _, _, _⟩ := Own.int hG.own
        have HXL := hid hxl
        have HG : Hid (Grw w0 w wr B M A c bs (.slice A5 ts.length c5) xs) := hid (by have := hG; rw [hxl] at this; exact this)
        rw [hxl]
        clear hG hxl CP
        by_cases hn0 : 0 < ts.length
        · have hn0' : (0 : Int) < (ts.length : Int) := by omega
          have C5 := hid (CO.out wr M 8 (by omega) (by omega) HG.out.src)
          go_wp2_with fail
          refine C5.out.mono ?_
          rintro e w5 ⟨b5, rfl, hs5, hc5⟩
          have HG5 := hid (HG.out.drew hlt hs5 hc5)
          clear C5 hs5 hc5 HG CO
          cases b5 with
          | false =>
            clear CA
            go_wp2
            go_ret
            first | exact ⟨_, xs, rfl, hx10, _, HG5.out⟩ | exact ⟨_, rfl, xs, hx10, _, HG5.out⟩
          | true =>
            have C6 := hid (CA.out (w5.alloc (.cells (ints [-1, 200, 201, 9223372036854775807]).toArray 2)) (M + 2) (some ⟨w5.heap.size, 0, none⟩) 4 [-1, 200, 201, 9223372036854775807] (by omega) (by simp) (by simp) (HG5.out.src.below (ballocw _ _)) (lit_rd w5 B [-1, 200, 201, 9223372036854775807] HG5.out.src.lt (by simp)))
            have HG6 := hid (HG5.out.below (ballocw w5 (.cells (ints [-1, 200, 201, 9223372036854775807]).toArray 2)))
            clear CA HG5
            go_wp2_with fail
            refine C6.out.mono ?_
            rintro e w7 ⟨j, rfl, hj, hs7, hc7⟩
            have hg7 := HG6.out.drew hlt hs7 hc7
            obtain ⟨g, rfl, p1, p2, pset⟩ := hg7.at hlt (k := 0) (by rw [HXL.out]; exact hn0)
            have PSET := hid (pset (el [-1, 200, 201, 9223372036854775807] j))
            clear C6 hs7 hc7 HG6 hg7 pset
            generalize el [-1, 200, 201, 9223372036854775807] j = y at *
            go_wp2
            go_ret
            first | exact ⟨_, _, rfl, by rw [List.length_set]; exact hx10, _, PSET.out⟩ | exact ⟨_, rfl, _, by rw [List.length_set]; exact hx10, _, PSET.out⟩
        · have hn0' : ¬ (0 : Int) < (ts.length : Int) := by omega
          clear CA CO
          go_wp2
          go_ret
          first | exact ⟨_, xs, rfl, hx10, _, HG.out⟩ | exact ⟨_, rfl, xs, hx10, _, HG.out⟩
set_option maxRecDepth 100000 in
theorem s_R8Times (w : World) (A : Option Addr) (c : Nat) (bs : List Int) (A' : Option Addr) (c' : Nat) (ts : List TaskV) (htb : tasksB ts = true) (hts : tsz ts ≤ 1048576) (hl : bs.length ≤ 1048576) (hR : RdU w A bs) (hT : RdT w A' ts) :
    Calls Try.prog 53 #[.slice A bs.length c, .slice A' ts.length c'] w fun e w' => ∃ v xs, e = .returned v ∧ xs.length ≤ 10 ∧ OI w' w.heap.size w'.heap.size v xs ∧ Below w.heap.size w w' := by
  have C1 := hid (s_l00From w A c bs)
  have C2 := hid (fun W hS => s_l06DrawTimes w W w.heap.size 0 A c bs A' c' ts htb hts hl (by omega) hR hT hS)
  clear hR hT htb hts
  go_enter Try.func53, Try.ntmps53
  go_wp2_with fail
  refine C1.out.mono ?_
  rintro e w1 ⟨rfl, hs1, hz⟩
  have C3 := hid (C2.out w1 hs1)
  have HZ := hid hz
  clear C1 C2 hs1 hz
  go_wp2_with fail
  refine C3.out.mono ?_
  rintro e w2 ⟨v, xs, rfl, hx, M, hg⟩
  have HR : Hid (xs.length ≤ 10 ∧ OI w2 w.heap.size w2.heap.size v xs ∧ Below w.heap.size w w2) := hid ⟨hx, Own.wide hg.own (by have := HZ.out; omega) (Nat.le_refl _), hg.src.bel'⟩
  clear hx hg C3
  go_wp2_with fail
  go_ret
  first | exact ⟨_, xs, rfl, HR.out⟩ | exact ⟨_, rfl, xs, HR.out⟩
end Go.Proofs.Ytjcpjmijhloimaa
