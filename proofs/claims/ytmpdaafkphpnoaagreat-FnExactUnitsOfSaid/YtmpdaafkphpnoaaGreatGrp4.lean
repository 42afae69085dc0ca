import Derived.Test.YtmpdaafkphpnoaaGreatGrp3
import Derived.Test.YtmpdaafkphpnoaaGreatShuf3
import Derived.Test.YtmpdaafkphpnoaaGreatOwnA
set_option linter.unusedVariables false
set_option linter.unusedSimpArgs false
namespace Go.Proofs.YtmpdaafkphpnoaaGreat
open Go.RowKit

/-! ### The reference's groups -/
def packB (la bi : Int) (cs : List SmV) : Bool := machB la bi && (decide (la ≤ 4) && codeB cs)
def m_IsGroup (la bi : Int) (cs : List SmV) (g : List Int) : Bool := packB la bi cs && groupB la cs g
theorem i_isPacker (w : World) (la bi : Int) (A : Option Addr) (c : Nat) (cs : List SmV) (hl : cs.length ≤ 1048576) (hR : RdC w A cs) :
    Calls Tryz.prog 83 #[mv la bi, .slice A cs.length c] w fun e w' => e = .returned (.bool (packB la bi cs)) ∧ Below w.heap.size w w' := by
  unfold packB
  have C0 := hid (fun W => i_ValidMachine W la bi)
  have C1 := hid (fun W (hW : Below w.heap.size w W) => i_ValidCode W A c cs hl (hR.below hW))
  have HB := hid (ballocw w (.cells #[.int .i64 la, .int .i64 bi] 25))
  have HM := hid (show (w.alloc (.cells #[.int .i64 la, .int .i64 bi] 25)).cell? ⟨w.heap.size, 0, none⟩ = some (.int .i64 la) from cell_of_row _ _ _ _ _ _ (heap_alloc_new w _))
  clear hR
  generalize codeB cs = r1 at *
  generalize machB la bi = r0 at *
  cases r0 with
  | false =>
    go_enter Tryz.func83, Tryz.ntmps83
    go_wp2_with fail
    refine (C0.out _).mono ?_
    rintro e w1 ⟨rfl, hb1⟩
    go_wp2_with fail
    go_ret
    exact ⟨rfl, bthen HB.out hb1⟩
  | true =>
    by_cases h4 : la ≤ 4
    · have hd : decide (la ≤ 4) = true := by simpa using h4
      go_enter Tryz.func83, Tryz.ntmps83
      go_wp2_with fail
      refine (C0.out _).mono ?_
      rintro e w1 ⟨rfl, hb1⟩
      have hm := bcell hb1 HM.out
      go_wp2_with fail
      refine (C1.out _ (bthen HB.out hb1)).mono ?_
      rintro e w2 ⟨rfl, hb2⟩
      go_wp2_with fail
      go_ret
      exact ⟨ret_b (by simp [h4]), bthen (bthen HB.out hb1) hb2⟩
    · have hd : decide (la ≤ 4) = false := by simpa using h4
      go_enter Tryz.func83, Tryz.ntmps83
      go_wp2_with fail
      refine (C0.out _).mono ?_
      rintro e w1 ⟨rfl, hb1⟩
      have hm := bcell hb1 HM.out
      go_wp2_with fail
      go_ret
      exact ⟨ret_b (by rw [hd]; rfl), bthen HB.out hb1⟩

theorem s_l07Both (w : World) (B : Nat) (la bi : Int) (A : Option Addr) (c : Nat) (cs : List SmV) (hl : cs.length ≤ 1048576) (hR : RdC w A cs) (h0 : w.cell? ⟨B, 0, none⟩ = some (.int .i64 la)) (h1 : w.cell? ⟨B, 1, none⟩ = some (.int .i64 bi)) :
    Calls Tryz.prog 78 #[.pointer (some ⟨B, 0, none⟩), .slice A cs.length c] w fun e w' => e = .returned (.bool (packB la bi cs)) ∧ w = w' := by
  unfold packB
  have C0 := hid (s_l05Machine w B la bi h0 h1)
  have C1 := hid (s_l03Is w A c cs hl hR)
  clear hR h1
  generalize codeB cs = r1 at *
  generalize machB la bi = r0 at *
  cases r0 with
  | false =>
    go_enter Tryz.func78, Tryz.ntmps78
    go_wp2_with fail
    refine C0.out.mono ?_
    rintro e w1 ⟨rfl, rfl⟩
    go_wp2_with fail
    go_ret
    exact ⟨rfl, rfl⟩
  | true =>
    by_cases h4 : la ≤ 4
    · have hd : decide (la ≤ 4) = true := by simpa using h4
      go_enter Tryz.func78, Tryz.ntmps78
      go_wp2_with fail
      refine C0.out.mono ?_
      rintro e w1 ⟨rfl, rfl⟩
      go_wp2_with fail
      refine C1.out.mono ?_
      rintro e w2 ⟨rfl, rfl⟩
      go_wp2_with fail
      go_ret
      exact ⟨ret_b (by simp [h4]), rfl⟩
    · have hd : decide (la ≤ 4) = false := by simpa using h4
      go_enter Tryz.func78, Tryz.ntmps78
      go_wp2_with fail
      refine C0.out.mono ?_
      rintro e w1 ⟨rfl, rfl⟩
      go_wp2_with fail
      go_ret
      exact ⟨ret_b (by rw [hd]; rfl), rfl⟩
/-- wp_append1, the new element's block told by an equation. -/
theorem wp_append1k {P : Program} {ops : Array Oper} {rest : List Oper} {o : Oper} {a : Act} {Q : Exit → Act → World → Prop} {W : World} (lo b : Nat) (hb : b = W.heap.size) (hgd : o.guard = none) (s x : Operand) (t e : TypeId) (z : Value) (bytes : Nat)
    (ho : o.op = .call { callee := .builtin .append, args := #[s, x], argTypes := #[t, t] })
    (ht : P.underlying t = some (.slice e)) (hinfo : (P.info? e).map (fun i => (i.zero, i.size, i.bytes)) = some (some z, 1, bytes)) (hz : z.cells.size = 1)
    (v : Value) (n : Nat) (cs : List Value) (y : Value) (hs : a.eval s = v) (hx : a.eval x = .slice (some ⟨b, 0, none⟩) 1 1) (h1 : y.oneCell' = true)
    (HO : Own W lo W.heap.size e 1 v n cs) (hlo : lo ≤ W.heap.size) (hl : n + 1 ≤ 9223372036854775807) (hby : (n + 1) * bytes ≤ 140737488355328)
    (h : ∀ v1 w1, Own w1 lo w1.heap.size e 1 v1 (n + 1) (cs ++ [y]) → Below lo W w1 → wpList P ops Q rest (a.put o.dst v1) w1) :
    wpList P ops Q (o :: rest) a (W.alloc (.cells #[y] e)) := by
  subst hb
  exact wp_append1 lo hgd s x t e z bytes ho ht hinfo hz v n cs y hs hx h1 HO hlo hl hby h
theorem cls_snoc {f : SmV → Int} {cs : List SmV} {g : List Int} {k : Nat} (hk : k < g.length) : cls f cs (g.take (k + 1)) = cls f cs (g.take k) ++ [f (sel cs (el g k).toNat)] := by
  rw [el_take hk]; simp [cls]
set_option maxRecDepth 100000 in
set_option maxHeartbeats 1000000 in
theorem s_l07Cells (w : World) (A A' : Option Addr) (c c' : Nat) (cs : List SmV) (g : List Int) (wh : Nat) (f : SmV → Int) (hwh : wh < 3) (hf : ∀ x : SmV, ([x.d, x.a, x.b] : List Int)[wh]? = some (f x)) (hin : InC cs g) (hl : cs.length ≤ 1048576) (hl' : g.length ≤ 1048576) (hR : RdC w A cs) (hG : RdI w A' g) :
    Calls Tryz.prog 178 #[.slice A cs.length c, .slice A' g.length c', .int .i64 (wh : Nat)] w (RetI w 2 (cls f cs g)) := by
  have hown := Own.of (World.ownsRow_lit (base := w.heap.size) (e := 2) (size := 1) w #[] 0 (Nat.le_refl _) (by simp [maxLen]) rfl)
  have HO := hid hown
  clear hown
  go_enter Tryz.func178, Tryz.ntmps178
  go_wp2
  go_loopg [7, 8] g.length (fun gg v s wr => ∃ k : Nat, k ≤ g.length ∧ g.length - k ≤ gg ∧ s = .int .i64 k ∧ Aside (Below w.heap.size w wr) ∧ Aside (Own wr w.heap.size wr.heap.size 2 1 v k (ints (cls f cs (g.take k)))))
  case atStart => exact ⟨0, Nat.zero_le _, by omega, rfl, ballocw w _, by simpa [Aside, cls, ints] using HO.out⟩
  case round =>
    obtain ⟨k, hk, hg, rfl, BW, OW⟩ := hrel
    clear HO
    by_cases hlt : k < g.length
    · obtain ⟨bg, og, rfl, kg⟩ := (RdI.below hG BW.out).get hlt
      have hik := hin k hlt
      obtain ⟨p, hp⟩ : ∃ p : Nat, el g k = p := ⟨(el g k).toNat, by omega⟩
      have HS : Hid (cls f cs (g.take (k + 1)) = cls f cs (g.take k) ++ [f (sel cs p)]) := hid (by rw [cls_snoc hlt, hp]; rfl)
      rw [hp] at kg hik
      have hpl : p < cs.length := by omega
      obtain ⟨ba, oa, rfl, x0, x1, x2, x3⟩ := (hR.below BW.out).get hpl
      have hfx := hf (sel cs p)
      have hsz := BW.out.size
      have HF := hid hf
      clear hp hik hf
      generalize f (sel cs p) = y at *
      generalize sel cs p = x at *
      obtain ⟨xo, xd, xa, xb⟩ := x
      have hb2 : Below wr.heap.size wr ((wr.alloc (.cells #[.int .i64 xo, .int .i64 xd, .int .i64 xa, .int .i64 xb] 109)).alloc (.cells #[.int .i64 xd, .int .i64 xa, .int .i64 xb] 2)) := balloc (ballocw _ _) _
      have HB2 := hid (bthen BW.out hb2)
      have HOW := hid (Own.wide (Own.eqv OW.out (Eqv.of hb2 (Nat.le_refl _))) (Nat.le_refl _) hb2.size)
      have hz2 := HB2.out.size
      clear OW hb2
      rcases (show wh = 0 ∨ wh = 1 ∨ wh = 2 by omega) with rfl | rfl | rfl
      all_goals
        simp at hfx
        subst hfx
        go_wp2_with ((at_builtin; refine wp_append1k w.heap.size (wr.heap.size + 1 + 1) (size_two _ _ _).symm rfl _ _ 28 2 (.int .i64 0) 8 rfl Tryz.underlying28 infoInt rfl u7 k _ _ rfl rfl rfl HOW.out hz2 (by omega) (by omega) ?_; intro v1 w4 hown1 hbel1))
        go_roundg (g.length - (k + 1))
        case measure => omega
        case rel =>
          refine ⟨k + 1, by omega, by omega, by go_num, ?_, ?_⟩
          · show Below _ _ _; exact HB2.out.trans hbel1
          · show Own _ _ _ _ _ _ _ _; rw [HS.out, ints_append]; exact hown1
    · obtain rfl : k = g.length := by omega
      have HOW := hid OW.out
      rw [List.take_length] at HOW
      clear OW
      go_wp2
      go_ret
      refine ⟨_, rfl, ?_, BW.out⟩
      unfold OwnI
      rw [cls_length]
      exact HOW.out
end Go.Proofs.YtmpdaafkphpnoaaGreat
