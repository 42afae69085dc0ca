import Derived.Test.YtnnioicjmlfllaaGreatDoorRdp
import Derived.Test.YtnnioicjmlfllaaGreatDoorShp
import Derived.Lib.SmallJoins
set_option linter.unusedVariables false
set_option linter.unusedSimpArgs false
namespace Go.Proofs.YtnnioicjmlfllaaGreatDoor
open Go.RowKit

/-! ### impl.ReadDecimal -/
/-- The library's two errors. -/
def Errs (w : World) : Prop := (∃ tp p, w.var? Tryz.prog "strconv.ErrSyntax" = some #[.iface tp p]) ∧ ∃ tp p, w.var? Tryz.prog "strconv.ErrRange" = some #[.iface tp p]
theorem var_below {w W : World} {n : String} {cs : Array Value} (h : w.var? Tryz.prog n = some cs) (hb : Below w.heap.size w W) : W.var? Tryz.prog n = some cs := by
  unfold World.var? at *
  cases hg : Tryz.prog.globalNamed n with
  | none => rw [hg] at h; cases h
  | some g =>
    rw [hg] at h
    simp only [Option.bind_some] at h ⊢
    cases hh : w.heap[g]? with
    | none => rw [hh] at h; cases h
    | some o => rw [hb.block g (Array.getElem?_eq_some_iff.1 hh).1]; exact h
theorem Errs.below {w W : World} (h : Errs w) (hb : Below w.heap.size w W) : Errs W := by
  obtain ⟨⟨t, p, h1⟩, t', p', h2⟩ := h
  exact ⟨⟨t, p, var_below h1 hb⟩, t', p', var_below h2 hb⟩
theorem parse_good (w : World) (s : ByteArray) (hs : s.size ≤ 281474976710656) (v : Int) (h : Lib.parseIntB 64 s.data.toList = .ok v) :
    Calls Tryz.prog 125 #[.string s, .int .i64 10, .int .i64 64] w fun e w' => e = .returned (.tuple #[.int .i64 v, .nilIface]) ∧ Below w.heap.size w w' := by
  refine (Tryz.strconv_ParseInt_10_at64_ok s (by omega) v h w).mono ?_
  rintro e w' ⟨he, hw⟩
  refine ⟨he, ?_⟩
  rcases hw with rfl | ⟨t, rfl⟩
  · exact Below.refl _ _
  · exact Joins.below_bytesWorld _ w _ t (Nat.le_refl _)
theorem parse_bad (w : World) (s : ByteArray) (hs : s.size ≤ 281474976710656) (he : Errs w) (h : ∀ v, Lib.parseIntB 64 s.data.toList ≠ .ok v) :
    Calls Tryz.prog 125 #[.string s, .int .i64 10, .int .i64 64] w fun e w' => ∃ x t p, e = .returned (.tuple #[.int .i64 x, .iface t p]) ∧ Below w.heap.size w w' := by
  obtain ⟨⟨t, p, h1⟩, t', p', h2⟩ := he
  cases hq : Lib.parseIntB 64 s.data.toList with
  | ok v => exact absurd hq (h v)
  | range =>
    refine (Tryz.strconv_ParseInt_10_at64_range_var s hs hq t' p' w h2).mono ?_
    rintro e w' ⟨N, he, _, _, hb⟩
    exact ⟨_, _, _, he, hb⟩
  | _ =>
    refine (Tryz.strconv_ParseInt_10_at64_syntax_var s hs hq t p w h1).mono ?_
    rintro e w' ⟨N, he, _, _, hb⟩
    exact ⟨_, _, _, he, hb⟩
set_option maxRecDepth 100000 in
theorem i_ReadDecimal (w : World) (s : ByteArray) (hs : s.size ≤ 281474976710656) (hp : Pow w) (he : Errs w) :
    Calls Tryz.prog 73 #[.string s] w fun e w' => e = .returned (valR s.data.toList) ∧ Below w.heap.size w w' := by
  by_cases hq : ∃ v, Lib.parseIntB 64 s.data.toList = .ok v
  · obtain ⟨v, hv⟩ := hq
    have C := hid (parse_good w s hs v hv)
    have C1 := hid (fun W => i_isValue v W)
    have hvb := valB_of_parse hv
    cases hin : inB v (-1000000000) 1000000000 with
    | false =>
      rw [hin] at C1
      have HM := hid (valR_no (s := s.data.toList) (by rw [hvb, hin]; rfl))
      clear hin hvb hv hp he hs
      go_enter Tryz.func73, Tryz.ntmps73
      go_wp2_with (first | (go_at_call 125; go_loud (refine C.out.mono ?_; rintro e w1 ⟨rfl, hb1⟩)) | (go_at_call 126; go_loud (refine (C1.out _).mono ?_; rintro e w2 ⟨rfl, rfl⟩)))
      go_ret2
      exact ⟨by rw [HM.out]; rfl, hb1⟩
    | true =>
      rw [hin] at C1
      have hb := inB_iff.1 hin
      have C2 := hid (fun W (hW : Below w.heap.size w W) => i_Decimal W v (by omega) (by omega) (hp.below hW))
      by_cases heq : Lib.itoa v = s.data.toList
      · have hse : bstr (Lib.itoa v) = s := by rw [heq, bstr_data]
        have hvt : valB s.data.toList = true := by rw [hvb, hin, heq]; simp
        have HM := hid (valR_yes hvt)
        rw [valN_of_parse hv hvt] at HM
        rw [hse] at C2
        clear hin hvb hv hp he hs hvt heq hse hb
        go_enter Tryz.func73, Tryz.ntmps73
        go_wp2_with (first | (go_at_call 125; go_loud (refine C.out.mono ?_; rintro e w1 ⟨rfl, hb1⟩)) | (go_at_call 126; go_loud (refine (C1.out _).mono ?_; rintro e w2 ⟨rfl, rfl⟩)) | (go_at_call 91; go_loud (refine (C2.out _ hb1).mono ?_; rintro e w3 ⟨rfl, hb3⟩)))
        go_ret2
        exact ⟨by rw [HM.out]; rfl, bthen hb1 hb3⟩
      · have hne : ((bstr (Lib.itoa v)).toList == s.toList) = false := by
          rw [beq_eq_false_iff_ne, ByteArray.toList_eq, ByteArray.toList_eq, bstr_toList]
          exact heq
        have HM := hid (valR_no (s := s.data.toList) (by rw [hvb, hin]; simpa using heq))
        generalize bstr (Lib.itoa v) = t at *
        clear hin hvb hv hp he hs heq hb
        go_enter Tryz.func73, Tryz.ntmps73
        go_wp2_with (first | (go_at_call 125; go_loud (refine C.out.mono ?_; rintro e w1 ⟨rfl, hb1⟩)) | (go_at_call 126; go_loud (refine (C1.out _).mono ?_; rintro e w2 ⟨rfl, rfl⟩)) | (go_at_call 91; go_loud (refine (C2.out _ hb1).mono ?_; rintro e w3 ⟨rfl, hb3⟩)))
        go_ret2
        exact ⟨by rw [HM.out]; rfl, bthen hb1 hb3⟩
  · have C := hid (parse_bad w s hs he (fun v z => hq ⟨v, z⟩))
    have HM := hid (valR_no (s := s.data.toList) (by
      cases z : valB s.data.toList with
      | false => rfl
      | true => exact absurd ⟨_, valB_parse z⟩ hq))
    clear hq hp he hs
    go_enter Tryz.func73, Tryz.ntmps73
    go_wp2_with (go_at_call 125; go_loud (refine C.out.mono ?_; rintro e w1 ⟨x, t, p, rfl, hb1⟩))
    go_ret2
    exact ⟨by rw [HM.out]; rfl, hb1⟩
end Go.Proofs.YtnnioicjmlfllaaGreatDoor
