import Derived.Test.YtmpdaafkphpnoaaGreatRwsA
import Derived.Test.YtmpdaafkphpnoaaGreatCat
import Derived.Test.YtmpdaafkphpnoaaGreatClone
set_option linter.unusedVariables false
set_option linter.unusedSimpArgs false
namespace Go.Proofs.YtmpdaafkphpnoaaGreat
open Go.RowKit

theorem rw_take {gs : List (List Int)} {k : Nat} (h : k < gs.length) : gs.take (k + 1) = gs.take k ++ [rw_ gs k] := by
  rw [List.take_add_one]
  congr 1
  unfold rw_
  rw [List.getD_eq_getElem?_getD, List.getElem?_eq_getElem h]; rfl
theorem wp_appendRq {ops : Array Oper} {rest : List Oper} {o : Oper} {a : Act} {Q : Exit → Act → World → Prop} {W : World} (lo B : Nat) (hgd : o.guard = none) (s x : Operand)
    (ho : o.op = .call { callee := .builtin .append, args := #[s, x], argTypes := #[27, 27] })
    (v : Value) (yss : List (List Int)) (A : Option Addr) (c n g : Nat) (row : List Int) (hn : row.length = n) (hg : W.heap.size = g) (hs : a.eval s = v) (hx : a.eval x = .slice (some ⟨g, 0, none⟩) 1 1)
    (HO : OR W lo B v yss) (HU : OI W B W.heap.size (.slice A n c) row) (hlo : lo ≤ B) (hB : B ≤ W.heap.size) (hl : yss.length + 1 ≤ 1048576)
    (h : ∀ v1 w1, OR w1 lo w1.heap.size v1 (yss ++ [row]) → Below lo W w1 → wpList Tryz.prog ops Q rest (a.put o.dst v1) w1) :
    wpList Tryz.prog ops Q (o :: rest) a (W.alloc (.cells #[.slice A n c] 28)) := by
  subst hn
  subst hg
  exact wp_appendR lo B hgd s x ho v yss A c row hs hx HO HU hlo hB hl h
set_option maxRecDepth 100000 in
theorem i_clones (w : World) (G : Option Addr) (c : Nat) (gs : List (List Int)) (hsz : rsz gs ≤ 1048576) (hR : RdR w G gs) :
    Calls Tryz.prog 47 #[.slice G gs.length c] w fun e w' => ∃ v, e = .returned v ∧ OR w' w.heap.size w'.heap.size v gs ∧ Below w.heap.size w w' := by
  have HR := hid hR
  have HSZ := hid hsz
  have hgl : gs.length ≤ 1048576 := rsz_len hsz
  clear hR hsz
  go_enter Tryz.func47, Tryz.ntmps47
  go_wp2
  go_loopg [3, 8] gs.length (fun gg s3 s8 wr => ∃ k : Nat, k ≤ gs.length ∧ gs.length - k ≤ gg ∧ s8 = .int .i64 k ∧ Aside (OR wr w.heap.size wr.heap.size s3 (gs.take k)) ∧ Aside (Below w.heap.size w wr))
  case atStart => exact ⟨0, Nat.zero_le _, by omega, rfl, OR.nil _ _ _, Below.refl _ _⟩
  case round =>
    obtain ⟨k, hk, hg, rfl, OW, BW⟩ := hrel
    by_cases hlt : k < gs.length
    · obtain ⟨b, off, A', cr, rfl, hc, hcl, hri⟩ := HR.out.get hlt
      have hcW := bcell BW.out hc
      have hrl := rsz_row HSZ.out hlt
      have C := hid (g_Clone wr A' cr (rw_ gs k) hrl (hri.below BW.out))
      have HTK := hid (rw_take hlt)
      have hltz : (k : Int) < (gs.length : Int) := by omega
      have HLT : Hid ((gs.take k).length + 1 ≤ 1048576) := hid (by simp; omega)
      clear HR hc hri
      generalize rw_ gs k = g at *
      go_wp2_with (first
        | (go_at_call 48; go_loud (refine C.out.mono ?_; rintro e w2 ⟨v2, rfl, ho2, hb2⟩; obtain ⟨A2, c2, rfl, _, _, _⟩ := Own.int ho2; have HO2 := hid ho2; have HB2 := hid (bthen BW.out hb2); have HW2 := hid (OW.out.eqv (Eqv.of hb2 (Nat.le_refl _))); have HZ2 := hid hb2.size; have HZ0 := hid BW.out.size; clear ho2 hb2))
        | (at_builtin; go_loud (refine wp_appendRq w.heap.size wr.heap.size rfl _ _ rfl u3 (gs.take k) A2 c2 g.length w2.heap.size g rfl rfl rfl rfl HW2.out HO2.out HZ0.out HZ2.out HLT.out ?_; intro v3 w3 ho3 hb3; have HO3 := hid ho3; have HB3 := hid (HB2.out.trans hb3); clear ho3 hb3)))
      go_roundg (gs.length - (k + 1))
      case measure => omega
      case rel => exact ⟨k + 1, by omega, by omega, by go_num, by rw [HTK.out]; exact HO3.out, HB3.out⟩
    · obtain rfl : k = gs.length := by omega
      have hltz : ¬ (gs.length : Int) < (gs.length : Int) := by omega
      go_wp2
      go_ret
      exact ⟨_, rfl, by have := OW.out; rwa [List.take_length] at this, BW.out⟩
end Go.Proofs.YtmpdaafkphpnoaaGreat
