import Derived.Test.YtmpdaafkphpnoaaSrc3
import Derived.Test.YtmpdaafkphpnoaaShuf
import Derived.Test.YtmpdaafkphpnoaaPerm
import Derived.Test.YtmpdaafkphpnoaaSwp
set_option linter.unusedVariables false
set_option linter.unusedSimpArgs false
namespace Go.Proofs.Ytmpdaafkphpnoaa
open Go.RowKit

theorem own_cell' {w : World} {lo hi g n c : Nat} {e : TypeId} {xs : List Int} (h : Own w lo hi e 1 (.slice (some ⟨g, 0, none⟩) n c) n (ints xs)) {k : Nat} (hk : k < xs.length) :
    w.cell? ⟨g, k, none⟩ = some (.int .i64 (el xs k)) ∧ w.frozen? ⟨g, k, none⟩ = false := by
  obtain ⟨A, c', e', _, _, hs⟩ := Own.shape h
  cases e'
  rcases hs with ⟨h0, _⟩ | ⟨g', hg, h1, _, hc, hf⟩
  · cases h0
  · cases hg
    exact ⟨hc k _ (ints_get hk), hf k⟩
theorem own_put' {w : World} {lo hi g n c : Nat} {e : TypeId} {xs : List Int} (h : Own w lo hi e 1 (.slice (some ⟨g, 0, none⟩) n c) n (ints xs)) (k : Nat) (x : Int) :
    Own (w.setCell ⟨g, k, none⟩ (.int .i64 x)) lo hi e 1 (.slice (some ⟨g, 0, none⟩) n c) n (ints (xs.set k x)) := by
  have := Own.set h k (.int .i64 x)
  rwa [ints_set] at this
theorem own_at' {w : World} {lo hi g n c : Nat} {e : TypeId} {cs : List Value} (h : Own w lo hi e 1 (.slice (some ⟨g, 0, none⟩) n c) n cs) : lo ≤ g := by
  obtain ⟨A, c', e', _, _, hs⟩ := Own.shape h
  cases e'
  rcases hs with ⟨h0, _⟩ | ⟨g', hg, h1, _, _, _⟩
  · cases h0
  · cases hg; exact h1
theorem OrdP.shuf {xs : List Int} {n : Nat} (h : OrdP xs n) (hn : lanesB n = true) : shufB xs = true := by
  obtain ⟨hl, h⟩ := h
  unfold shufB
  rw [hl, hn, Bool.true_and, List.all_eq_true]
  intro x hx
  obtain ⟨k, hk, rfl⟩ := List.getElem_of_mem hx
  have e := el_get hk; rw [List.getElem?_eq_getElem hk] at e; rw [Option.some.inj e, inB_iff]
  have := all_below hl h (i := k) (by omega)
  omega
theorem s_l04Same (w : World) (n : Nat) (hn : n ≤ 1048576) : Calls Try.prog 81 #[.int .i64 (n : Nat)] w (RetI w 2 (idl n)) := by
  have hown := Own.of (World.ownsRow_lit (base := w.heap.size) (e := 2) (size := 1) w #[] 0 (Nat.le_refl _) (by simp [maxLen]) rfl)
  have HO := hid hown
  clear hown
  go_enter Try.func81, Try.ntmps81
  go_wp2
  go_loopg [3, 4] n (fun gg v s wr => ∃ k : Nat, k ≤ n ∧ n - k ≤ gg ∧ s = .int .i64 k ∧ Aside (Below w.heap.size w wr) ∧ Aside (Own wr w.heap.size wr.heap.size 2 1 v k (ints (idl k))))
  case atStart => exact ⟨0, Nat.zero_le _, by omega, rfl, ballocw w _, by simpa [Aside, idl, ints] using HO.out⟩
  case round =>
    obtain ⟨k, hk, hg, rfl, BW, OW⟩ := hrel
    clear HO
    by_cases hlt : k < n
    · have hsz := BW.out.size
      go_wp2_with (at_builtin; refine wp_append1 w.heap.size rfl _ _ 27 2 (.int .i64 0) 8 rfl Try.underlying27 infoInt rfl u3 k _ (.int .i64 (k : Nat)) rfl rfl rfl OW.out hsz (by omega) (by omega) ?_; intro v1 w1 hown1 hbel1)
      go_roundg (n - (k + 1))
      case measure => omega
      case rel =>
        refine ⟨k + 1, by omega, by omega, by go_num, ?_, ?_⟩
        · show Below _ _ _; exact BW.out.trans hbel1
        · show Own _ _ _ _ _ _ _ _; rw [idl_snoc, ints_append]; exact hown1
    · have : k = n := by omega
      subst this
      go_wp2
      go_ret
      refine ⟨_, rfl, ?_, BW.out⟩
      unfold OwnI
      rw [idl_length]
      exact OW.out
set_option maxRecDepth 100000 in
set_option maxHeartbeats 1000000 in
theorem s_DrawOrder (w0 w : World) (B N : Nat) (A : Option Addr) (c : Nat) (bs : List Int) (n : Nat) (hn : 2 ≤ n) (hn2 : n ≤ 16) (hl : bs.length ≤ 1048576) (hN : N ≤ 1000000) (hR : RdU w0 A bs) (hS : SrcE w0 w B N A c bs) :
    Calls Try.prog 41 #[.pointer (some ⟨B, 0, none⟩), .int .i64 (n : Nat)] w fun e w' => ∃ v xs, e = .returned v ∧ OrdP xs n ∧ Grw w0 w w' B (N + 2 * n) A c bs v xs := by
  have C0 := hid (s_l04Same w n (by omega))
  have CP := hid (fun W M (i : Nat) (hi : i < n) (hM : M ≤ N + 2 * n) hS => s_pick w0 W B M A c bs ((i : Int) + 1) hl (by omega) (by omega) hR hS)
  have hlt := hS.lt
  have HS := hid hS
  clear hR hS
  go_enter Try.func41, Try.ntmps41
  go_wp2_with fail
  refine C0.out.mono ?_
  rintro e w1 ⟨v, rfl, ho, hb⟩
  obtain ⟨A1, c1, e1, _, _, hs⟩ := Own.shape ho
  rw [idl_length] at e1
  subst e1
  rcases hs with ⟨_, h0⟩ | ⟨g, rfl, hg1, hg2, _, _⟩
  · rw [idl_length] at h0; omega
  have HG : Hid (∃ xs, OrdP xs n ∧ SrcE w0 w1 B N A c bs ∧ Chg B (B + 1) w w1 ∧ Own w1 w.heap.size w1.heap.size 2 1 (.slice (some ⟨g, 0, none⟩) n c1) n (ints xs)) := hid
    ⟨idl n, idl_ord n, HS.out.below hb, Chg.of hb (Nat.le_refl _), by have := ho; unfold OwnI at this; rw [idl_length] at this; exact this⟩
  clear ho hb C0
  go_wp2_with fail
  go_loopg [6] n (fun gg s wr => ∃ (i : Nat), i < n ∧ i ≤ gg ∧ s = .int .i64 i ∧ Aside (∃ xs M, OrdP xs n ∧ M + 2 * i ≤ N + 2 * n ∧ SrcE w0 wr B M A c bs ∧ Chg B (B + 1) w wr ∧ Own wr w.heap.size wr.heap.size 2 1 (.slice (some ⟨g, 0, none⟩) n c1) n (ints xs)))
  case atStart =>
    obtain ⟨xs, h1, h2, h3, h4⟩ := HG.out
    exact ⟨n - 1, by omega, by omega, (by congr 1; omega), ⟨xs, N, h1, by omega, h2, h3, h4⟩⟩
  case round =>
    obtain ⟨i, hi, hg, rfl, GG⟩ := hrel
    clear HG HS
    obtain ⟨xs, M, hx, hM, hsr, hch, how⟩ := GG.out
    clear GG
    by_cases hi0 : 0 < i
    · have hi0' : (0 : Int) < (i : Int) := by omega
      have hC := hid (CP.out wr M i hi (by omega) hsr)
      have HX := hid hx
      have HCH := hid hch
      have HOW := hid how
      clear hx hsr hch how
      go_wp2_with fail
      refine hC.out.mono ?_
      rintro e w2 ⟨x, rfl, ⟨hx0, hx1, _⟩, hs2, hc2⟩
      obtain ⟨k, hk⟩ : ∃ k : Nat, x = k := ⟨x.toNat, by omega⟩
      subst hk
      have hkn : k < n := by have := hx1 (by omega); omega
      have ho2 := Own.wide (HOW.out.eqv (hc2.eqv (by omega) (Nat.le_refl _))) (Nat.le_refl _) hc2.size
      have hxl := HX.out.1
      obtain ⟨e1, e2⟩ := own_cell' ho2 (k := k) (by omega)
      obtain ⟨e3, e4⟩ := own_cell' ho2 (k := i) (by omega)
      obtain ⟨e5, e6⟩ := own_cell' (own_put' ho2 k (el xs i)) (k := i) (by rw [List.length_set]; omega)
      have ho3 := own_put' (own_put' ho2 k (el xs i)) i (el xs k)
      have hga := own_at' ho2
      have HX2 : Hid (OrdP (swp xs k i) n) := hid ⟨by rw [swp_length]; exact hxl, swp_all hxl hkn hi HX.out.2⟩
      have hb2 := (Below.refl w.heap.size w2)
      have hbs : Below w.heap.size w2 ((w2.setCell ⟨g, k, none⟩ (.int .i64 (el xs i))).setCell ⟨g, i, none⟩ (.int .i64 (el xs k))) := (hb2.setCell (p := ⟨g, k, none⟩) hga _).setCell (p := ⟨g, i, none⟩) hga _
      have HSR : Hid (SrcE w0 ((w2.setCell ⟨g, k, none⟩ (.int .i64 (el xs i))).setCell ⟨g, i, none⟩ (.int .i64 (el xs k))) B (M + 2) A c bs) := hid (by
        obtain ⟨q, sd, s⟩ := hs2
        have hw0 : w0.heap.size ≤ w.heap.size := Nat.le_trans s.ge (Nat.le_of_lt hlt)
        exact ⟨q, sd, s.ge, s.bel.trans (hbs.mono hw0), (hbs.block B hlt).trans s.hp, s.at_le, s.sd0, s.sd1⟩)
      have HCH2 : Hid (Chg B (B + 1) w ((w2.setCell ⟨g, k, none⟩ (.int .i64 (el xs i))).setCell ⟨g, i, none⟩ (.int .i64 (el xs k)))) := hid (by
        have h1 := HCH.out.trans hc2
        exact ⟨hbs.os.trans h1.os, hbs.tape.trans h1.tape, hbs.output.trans h1.output, Nat.le_trans h1.size hbs.size, fun j hj hn => (hbs.block j hj).trans (h1.block j hj hn)⟩)
      have HO3 : Hid (Own ((w2.setCell ⟨g, k, none⟩ (.int .i64 (el xs i))).setCell ⟨g, i, none⟩ (.int .i64 (el xs k))) w.heap.size ((w2.setCell ⟨g, k, none⟩ (.int .i64 (el xs i))).setCell ⟨g, i, none⟩ (.int .i64 (el xs k))).heap.size 2 1 (.slice (some ⟨g, 0, none⟩) n c1) n (ints (swp xs k i))) := hid (Own.wide ho3 (Nat.le_refl _) (by simp [World.setCell]))
      have HK := hid (And.intro hkn hi)
      have hki : (k : Int) < (n : Int) := by omega
      have hin : (i : Int) < (n : Int) := by omega
      clear hs2 hc2 ho2 ho3 hga hb2 hbs hx0 hx1 hC HX HCH HOW hxl CP
      generalize el (xs.set k (el xs i)) i = y3 at *
      generalize el xs i = y1 at *
      generalize el xs k = y2 at *
      go_wp2_with fail
      go_roundg (i - 1)
      case measure => omega
      case rel => exact ⟨i - 1, by omega, by omega, (by congr 1; omega), (show Aside _ from ⟨_, M + 2, HX2.out, by omega, HSR.out, HCH2.out, HO3.out⟩)⟩
    · have hi0' : ¬ (0 : Int) < (i : Int) := by omega
      have HX := hid hx
      have HG : Hid (Grw w0 w wr B (N + 2 * n) A c bs (.slice (some ⟨g, 0, none⟩) n c1) xs) := hid ⟨hsr.mono (by omega), hch, by unfold OwnI; rw [hx.1]; exact how⟩
      clear hx hsr hch how CP
      go_wp2_with fail
      go_ret
      exact ⟨_, rfl, xs, HX.out, HG.out⟩
end Go.Proofs.Ytmpdaafkphpnoaa
