import Derived.Test.YtmpdaafkphpnoaaDoorCut
set_option linter.unusedVariables false
set_option linter.unusedSimpArgs false
namespace Go.Proofs.YtmpdaafkphpnoaaDoor
open Go.RowKit

set_option maxRecDepth 100000 in
theorem s_l01Cut (w : World) (s : ByteArray) (m : UInt8) (hs : s.size ≤ 1048576) :
    Calls Tryd.prog 60 #[.string s, .int .u8 m.toNat] w fun e w' => ∃ v, e = .returned v ∧ Own w' w.heap.size w'.heap.size 9 1 v (cutL m s.data.toList).length (strs (cutL m s.data.toList)) ∧ Below w.heap.size w w' := by
  have hsz : s.data.toList.length = s.size := by rw [Array.length_toList]; rfl
  have HO := hid (Own.of (World.ownsRow_lit (base := w.heap.size) (e := 9) (size := 1) w #[] 0 (Nat.le_refl _) (by simp [maxLen]) rfl))
  go_enter Tryd.func60, Tryd.ntmps60
  go_wp2
  go_loopg [5, 6, 7] (s.size + 1) (fun gg v vf vi wr => ∃ (k f : Nat) (P : List (List UInt8)), k ≤ s.size + 1 ∧ s.size + 1 - k ≤ gg ∧ vi = .int .i64 k ∧ vf = .int .i64 f ∧ f ≤ k ∧ P.length ≤ k ∧ Aside (if k ≤ s.size then cutL m s.data.toList = P ++ cutG m ((s.data.toList.drop f).take (k - f)) (s.data.toList.drop k) else cutL m s.data.toList = P) ∧ Aside (Below w.heap.size w wr) ∧ Aside (Own wr w.heap.size wr.heap.size 9 1 v P.length (strs P)))
  case atStart => exact ⟨0, 0, [], Nat.zero_le _, by omega, rfl, rfl, Nat.le_refl _, Nat.le_refl _, by show (if _ then _ else _); rw [if_pos (Nat.zero_le _)]; rfl, ballocw w _, HO.out⟩
  case round =>
    obtain ⟨k, f, P, hk, hg, rfl, rfl, hf, hP, IX, BW, OW⟩ := hrel
    clear HO
    have HG := hid hg
    have HK := hid hk
    have HF := hid hf
    have HPL := hid hP
    have HS := hid hs
    by_cases hle : k ≤ s.size
    · have IX' : cutL m s.data.toList = P ++ cutG m ((s.data.toList.drop f).take (k - f)) (s.data.toList.drop k) := by have := IX.out; rwa [if_pos hle] at this
      have hlez : (k : Int) ≤ (s.size : Int) := by omega
      have hfz : (f : Int) ≤ (k : Int) := by omega
      have hex := extract_bstr s f k
      have HLE := hid hle
      have Z0 := hid BW.out.size
      have B1 := hid (show P.length + 1 ≤ 9223372036854775807 by omega)
      have B2 := hid (show (P.length + 1) * 16 ≤ 140737488355328 by omega)
      have HEX := hid hex
      have hk1 := wrap64_in (x := (k : Int) + 1) (by omega) (by omega)
      have HK1 := hid hk1
      clear hk1 hex IX hg hk hf hP hs hle
      by_cases hlt : k < s.size
      · have hx := bytes_get s hlt
        have hkz : ((k : Int) == (s.size : Int)) = false := by simp; omega
        by_cases hq : (s[k]'hlt) = m
        · have hqz : ((s[k]'hlt).toNat : Int) = (m.toNat : Int) := by rw [hq]
          have IX2 := hid (show cutL m s.data.toList = (P ++ [(s.data.toList.drop f).take (k - f)]) ++ cutG m [] (s.data.toList.drop (k + 1)) by rw [IX', cut_step_hit (by rw [hx, hq])]; simp)
          have HLT := hid hlt
          clear IX' hx hq
          go_wp2_with (at_builtin; go_loud (refine wp_append1 w.heap.size rfl _ _ 50 9 (.string ⟨#[]⟩) 16 rfl Tryd.underlying50 infoStr rfl u5 P.length _ (.string (s.extract f k)) rfl rfl rfl OW.out Z0.out B1.out B2.out ?_; intro v1 w4 hown1 hbel1; replace hown1 := hid hown1; replace hbel1 := hid hbel1))
          go_roundg (s.size + 1 - (k + 1))
          case measure => have := HG.out; have := HLE.out; go_light; omega
          case rel =>
            refine ⟨k + 1, k + 1, P ++ [(s.data.toList.drop f).take (k - f)], by have := HLE.out; omega, Nat.le_refl _, ?_, ?_, Nat.le_refl _, by have := HPL.out; simp; omega, ?_, BW.out.trans hbel1.out, ?_⟩
            · first | go_num | (rw [HK1.out]; rfl)
            · first | go_num | (rw [HK1.out]; rfl)
            · show (if _ then _ else _)
              rw [if_pos (by have := HLT.out; omega), Nat.sub_self, List.take_zero]; exact IX2.out
            · show Own _ _ _ _ _ _ _ _
              rw [← strs_snoc, List.length_append, ← HEX.out]; exact hown1.out
        · have hqz : ¬ ((s[k]'hlt).toNat : Int) = (m.toNat : Int) := fun z => hq (UInt8.toNat_inj.1 (by omega))
          have hqz2 : (((s[k]'hlt).toNat : Int) == (m.toNat : Int)) = false := by simpa using hqz
          have IX2 := hid (show cutL m s.data.toList = P ++ cutG m ((s.data.toList.drop f).take (k + 1 - f)) (s.data.toList.drop (k + 1)) by rw [IX', cut_step_miss hx hq, take_more hx (by have := HF.out; omega)])
          have HLT := hid hlt
          clear IX' hx hq
          go_wp2
          go_roundg (s.size + 1 - (k + 1))
          case measure => have := HG.out; have := HLE.out; go_light; omega
          case rel =>
            refine ⟨k + 1, f, P, by have := HLE.out; omega, Nat.le_refl _, ?_, rfl, by have := HF.out; omega, by have := HPL.out; omega, ?_, BW, OW⟩
            · first | go_num | (rw [HK1.out]; rfl)
            · show (if _ then _ else _)
              rw [if_pos (by have := HLT.out; omega)]; exact IX2.out
      · obtain rfl : k = s.size := by have := HLE.out; omega
        have IX2 := hid (show cutL m s.data.toList = P ++ [(s.data.toList.drop f).take (s.size - f)] by rw [IX', ← hsz, List.drop_length]; rfl)
        clear IX' hlt
        go_wp2_with (at_builtin; go_loud (refine wp_append1 w.heap.size rfl _ _ 50 9 (.string ⟨#[]⟩) 16 rfl Tryd.underlying50 infoStr rfl u5 P.length _ (.string (s.extract f s.size)) rfl rfl rfl OW.out Z0.out B1.out B2.out ?_; intro v1 w4 hown1 hbel1; replace hown1 := hid hown1; replace hbel1 := hid hbel1))
        go_roundg (s.size + 1 - (s.size + 1))
        case measure => have := HG.out; go_light; omega
        case rel =>
          refine ⟨s.size + 1, s.size + 1, P ++ [(s.data.toList.drop f).take (s.size - f)], Nat.le_refl _, Nat.le_refl _, ?_, ?_, Nat.le_refl _, by have := HPL.out; simp; omega, ?_, BW.out.trans hbel1.out, ?_⟩
          · first | go_num | (rw [HK1.out]; rfl)
          · first | go_num | (rw [HK1.out]; rfl)
          · show (if _ then _ else _)
            rw [if_neg (by omega)]; exact IX2.out
          · show Own _ _ _ _ _ _ _ _
            rw [← strs_snoc, List.length_append, ← HEX.out]; exact hown1.out
    · have hkz : ¬ (k : Int) ≤ (s.size : Int) := by omega
      have IX2 := hid (show cutL m s.data.toList = P by have := IX.out; rwa [if_neg hle] at this)
      clear IX
      go_wp2
      go_ret
      exact ⟨_, rfl, by rw [IX2.out]; exact OW.out, BW.out⟩
end Go.Proofs.YtmpdaafkphpnoaaDoor
