import Derived.Test.YtmpdaafkphpnoaaDoorCod3
set_option linter.unusedVariables false
set_option linter.unusedSimpArgs false
namespace Go.Proofs.YtmpdaafkphpnoaaDoor
open Go.RowKit

/-! ### A number read -/
def dgs (n : Int) (b : UInt8) : Int := if 48 ≤ b.toNat ∧ b.toNat ≤ 57 then 10 * n + ((b.toNat : Int) - 48) else n
def dgl (n : Int) (l : List UInt8) : Int := l.foldl dgs n
theorem dgl_append (n : Int) (a b : List UInt8) : dgl n (a ++ b) = dgl (dgl n a) b := by unfold dgl; rw [List.foldl_append]
theorem digit_nat {d : Nat} (h : d < 10) : (UInt8.ofNat (48 + d)).toNat = 48 + d := by simp; omega
theorem dgs_digit (n : Int) {d : Nat} (h : d < 10) : dgs n (UInt8.ofNat (48 + d)) = 10 * n + d := by
  unfold dgs
  rw [digit_nat h, if_pos (by omega)]; omega
theorem dgl_dec : ∀ (u : Nat), dgl 0 (Lib.decDigits u) = u := by
  intro u
  induction u using Nat.strongRecOn with
  | _ u ih =>
    by_cases h : u < 10
    · rw [dec_one h]; show dgs 0 _ = _; rw [dgs_digit 0 h]; omega
    · rw [dec_more h, dgl_append, ih (u / 10) (by omega)]
      show dgs _ _ = _
      rw [dgs_digit _ (Nat.mod_lt _ (by decide))]; omega
theorem dec_dig : ∀ (u : Nat) (b : UInt8), b ∈ Lib.decDigits u → 48 ≤ b.toNat ∧ b.toNat ≤ 57 := by
  intro u
  induction u using Nat.strongRecOn with
  | _ u ih =>
    intro b hb
    by_cases h : u < 10
    · rw [dec_one h, List.mem_singleton] at hb
      rw [hb, digit_nat h]; omega
    · rw [dec_more h, List.mem_append, List.mem_singleton] at hb
      rcases hb with hb | hb
      · exact ih _ (by omega) b hb
      · rw [hb, digit_nat (Nat.mod_lt _ (by decide))]; omega
def valN (s : List UInt8) : Int := if s.head? = some 45 then -(dgl 0 s) else dgl 0 s
theorem valN_itoa (n : Int) : valN (Lib.itoa n) = n := by
  by_cases h : n < 0
  · rw [itoa_neg h]
    unfold valN
    simp only [List.head?_cons, if_true]
    have : dgl 0 (45 :: Lib.decDigits n.natAbs) = dgl 0 (Lib.decDigits n.natAbs) := rfl
    rw [this, dgl_dec]; omega
  · rw [itoa_pos h]
    unfold valN
    rw [if_neg, dgl_dec]
    · omega
    · intro q
      have hm : (45 : UInt8) ∈ Lib.decDigits n.natAbs := List.mem_of_mem_head? (by rw [q]; exact rfl)
      have := dec_dig _ _ hm
      have e : (45 : UInt8).toNat = 45 := rfl
      omega
theorem itoa_len1 (n : Int) : 1 ≤ (Lib.itoa n).length := by
  cases h : Lib.itoa n with
  | nil =>
    exfalso
    by_cases q : n < 0
    · rw [itoa_neg q] at h; cases h
    · rw [itoa_pos q] at h
      by_cases r : n.natAbs < 10
      · rw [dec_one r] at h; cases h
      · rw [dec_more r] at h; simp at h
  | cons => simp
/-- Is it the text of a number that is not too great? -/
def valB (s : List UInt8) : Bool := inB (valN s) (-1000000000) 1000000000 && (Lib.itoa (valN s) == s)
theorem valB_len {s : List UInt8} (h : valB s = true) : 1 ≤ s.length ∧ s.length ≤ 11 := by
  simp only [valB, Bool.and_eq_true, inB_iff, beq_iff_eq] at h
  have h1 := itoa_len h.1.1 h.1.2
  have h2 := itoa_len1 (valN s)
  rw [h.2] at h1 h2
  exact ⟨h2, h1⟩
def valR (s : List UInt8) : Value := .tuple #[.int .i64 (if valB s then valN s else 0), .bool (valB s)]
theorem valR_no {s : List UInt8} (h : valB s = false) : valR s = .tuple #[.int .i64 0, .bool false] := by unfold valR; rw [h]; rfl
theorem valR_yes {s : List UInt8} (h : valB s = true) : valR s = .tuple #[.int .i64 (valN s), .bool true] := by unfold valR; rw [h]; rfl
theorem dgs_bnd {n : Int} {m : Nat} (b : UInt8) (h0 : 0 ≤ n) (h1 : n < 10 ^ m) : 0 ≤ dgs n b ∧ dgs n b < 10 ^ (m + 1) := by
  unfold dgs
  have hp : (10 : Int) ^ (m + 1) = 10 ^ m * 10 := by rw [Int.pow_succ]
  split <;> omega
theorem dgl_bnd : ∀ (l : List UInt8), 0 ≤ dgl 0 l ∧ dgl 0 l < 10 ^ l.length := by
  intro l
  rw [← List.reverse_reverse l]
  induction l.reverse with
  | nil => exact ⟨Int.le_refl 0, by decide⟩
  | cons b r ih =>
    rw [List.reverse_cons, dgl_append, List.length_append]
    exact dgs_bnd b ih.1 ih.2
theorem bytes_get (s : ByteArray) {k : Nat} (h : k < s.size) : s.data.toList[k]? = some (s[k]'h) := by rw [Array.getElem?_toList]; exact Array.getElem?_eq_getElem h
theorem pow_small {m : Nat} (h : m ≤ 11) : (10 : Int) ^ m ≤ 100000000000 := by
  have : ∀ m : Fin 12, (10 : Int) ^ m.1 ≤ 100000000000 := by decide
  exact this ⟨m, by omega⟩
theorem dgs_val {n : Int} {b : UInt8} {m : Nat} (h48 : (48 : Int) ≤ (b.toNat : Int)) (h57 : (b.toNat : Int) ≤ 57) (hn : 0 ≤ n ∧ n < 10 ^ m) (hm : m ≤ 11) : wrap64 (wrap64 (10 * n) + ((b.toNat : Int) - 48)) = dgs n b := by
  have := pow_small hm
  unfold dgs
  rw [if_pos (by omega), wrap64_in (x := 10 * n) (by omega) (by omega), wrap64_in (by omega) (by omega)]
theorem valN_head (s : ByteArray) (h : 0 < s.size) : s.data.toList.head? = some (s[0]'h) := by
  rw [List.head?_eq_getElem?]; exact bytes_get s h
theorem bstr_data (s : ByteArray) : bstr s.data.toList = s := by simp [bstr]
set_option maxRecDepth 100000 in
theorem s_l01Value (w : World) (s : ByteArray) (hs : s.size ≤ 9223372036854775807) :
    Calls Tryd.prog 76 #[.string s] w fun e w' => e = .returned (valR s.data.toList) ∧ Below w.heap.size w w' := by
  have hsz : s.data.toList.length = s.size := by rw [Array.length_toList]; rfl
  by_cases h1 : s.size < 1
  · have HM := hid (valR_no (s := s.data.toList) (by cases h : valB s.data.toList with | false => rfl | true => have := valB_len h; omega))
    have h1' : (s.size : Int) < 1 := by omega
    clear hsz h1
    go_enter Tryd.func76, Tryd.ntmps76
    go_wp2
    go_ret2
    exact ⟨by rw [HM.out]; rfl, Below.refl _ _⟩
  · by_cases h2 : 11 < s.size
    · have HM := hid (valR_no (s := s.data.toList) (by cases h : valB s.data.toList with | false => rfl | true => have := valB_len h; omega))
      have h1' : ¬ (s.size : Int) < 1 := by omega
      have h2' : (11 : Int) < (s.size : Int) := by omega
      clear hsz h1 h2
      go_enter Tryd.func76, Tryd.ntmps76
      go_wp2
      go_ret2
      exact ⟨by rw [HM.out]; rfl, Below.refl _ _⟩
    · have h1' : ¬ (s.size : Int) < 1 := by omega
      have h2' : ¬ (11 : Int) < (s.size : Int) := by omega
      go_enter Tryd.func76, Tryd.ntmps76
      go_wp2
      go_loopg [4, 5] s.size (fun gg v t wr => ∃ (k : Nat) (n : Int), k ≤ s.size ∧ s.size - k ≤ gg ∧ t = .int .i64 k ∧ v = .int .i64 n ∧ Aside (n = dgl 0 (s.data.toList.take k)) ∧ Aside (Below w.heap.size w wr))
      case atStart => exact ⟨0, 0, Nat.zero_le _, by omega, rfl, rfl, rfl, Below.refl _ _⟩
      case round =>
        obtain ⟨k, n, hk, hg, rfl, rfl, NX, BW⟩ := hrel
        by_cases hlt : k < s.size
        · have hx := bytes_get s hlt
          have NX' : Aside (dgs n (s[k]'hlt) = dgl 0 (s.data.toList.take (k + 1))) := by
            show _ = _
            rw [List.take_add_one, hx, dgl_append, ← NX.out]; rfl
          have hnb := dgl_bnd (s.data.toList.take k)
          rw [← NX.out] at hnb
          have HNB := hid hnb
          have HK := hid hlt
          have H11 := hid h2
          clear hnb NX hsz hx
          by_cases h48 : (48 : Int) ≤ ((s[k]'hlt).toNat : Int)
          · by_cases h57 : ((s[k]'hlt).toNat : Int) ≤ 57
            · go_wp2
              go_roundg (s.size - (k + 1))
              case measure => have := HK.out; go_light; omega
              case rel => exact ⟨k + 1, _, by have := HK.out; omega, Nat.le_refl _, by go_num, congrArg (Value.int .i64) (dgs_val h48 h57 HNB.out (by have h1 := HK.out; have h2 := H11.out; rw [List.length_take]; omega)), NX'.out, BW⟩
            · have HD : Hid (dgs n (s[k]'hlt) = n) := hid (by unfold dgs; rw [if_neg (by omega)])
              go_wp2
              go_roundg (s.size - (k + 1))
              case measure => have := HK.out; go_light; omega
              case rel => exact ⟨k + 1, n, by have := HK.out; omega, Nat.le_refl _, by go_num, rfl, by rw [← HD.out]; exact NX'.out, BW⟩
          · have HD : Hid (dgs n (s[k]'hlt) = n) := hid (by unfold dgs; rw [if_neg (by omega)])
            go_wp2
            go_roundg (s.size - (k + 1))
            case measure => have := HK.out; go_light; omega
            case rel => exact ⟨k + 1, n, by have := HK.out; omega, Nat.le_refl _, by go_num, rfl, by rw [← HD.out]; exact NX'.out, BW⟩
        · obtain rfl : k = s.size := by omega
          have hnb := dgl_bnd s.data.toList
          have e0 : s.data.toList.take s.size = s.data.toList := by rw [← hsz, List.take_length]
          have NX2 : n = dgl 0 s.data.toList := by have := NX.out; rw [e0] at this; exact this
          rw [← NX2, hsz] at hnb
          have hp := pow_small (m := s.size) (by omega)
          have h0 : 0 < s.size := by omega
          have hh := valN_head s h0
          obtain ⟨m, hm, hmb, hcase⟩ : ∃ m : Int, valN s.data.toList = m ∧ (-100000000000 ≤ m ∧ m ≤ 100000000000) ∧ (((s[0]'h0).toNat = 45 ∧ wrap64 (-n) = m) ∨ (¬ (s[0]'h0).toNat = 45 ∧ n = m)) := by
            unfold valN
            rw [hh]
            by_cases q : (s[0]'h0) = 45
            · exact ⟨-n, by rw [if_pos (by rw [q]), NX2], by omega, .inl ⟨by rw [q]; rfl, wrap64_in (by omega) (by omega)⟩⟩
            · exact ⟨n, by rw [if_neg (fun z => q (Option.some.inj z)), NX2], by omega, .inr ⟨fun z => q (UInt8.toNat_inj.1 z), rfl⟩⟩
          have C1 := hid (fun W => s_l00In m (-1000000000) 1000000000 W)
          have C2 := hid (fun W => s_l01Dec W m (by omega) (by omega))
          have HVB : Hid (valB s.data.toList = (inB m (-1000000000) 1000000000 && (Lib.itoa m == s.data.toList))) := hid (by unfold valB; rw [hm])
          have HVN := hid hm
          have hk1 : ¬ ((s.size : Int) < (s.size : Int)) := by omega
          have h0' : (0 : Int) < (s.size : Int) := by omega
          clear hnb e0 NX2 NX hp hh hmb hm hsz hg hk hlt h1 h2
          cases hin : inB m (-1000000000) 1000000000 with
          | false =>
            have HM := hid (valR_no (s := s.data.toList) (by rw [HVB.out, hin]; rfl))
            rw [hin] at C1
            clear HVB hin
            rcases hcase with ⟨hc, hw⟩ | ⟨hc, rfl⟩
            · go_wp2_with (go_at_call 39; go_loud (refine (C1.out _).mono ?_; rintro e w1 ⟨rfl, rfl⟩))
              go_ret2
              exact ⟨by rw [HM.out]; rfl, BW.out⟩
            · go_wp2_with (go_at_call 39; go_loud (refine (C1.out _).mono ?_; rintro e w1 ⟨rfl, rfl⟩))
              go_ret2
              exact ⟨by rw [HM.out]; rfl, BW.out⟩
          | true =>
            rw [hin] at C1
            by_cases he : Lib.itoa m = s.data.toList
            · have hse : bstr (Lib.itoa m) = s := by rw [he, bstr_data]
              have HM := hid (valR_yes (s := s.data.toList) (by rw [HVB.out, hin, he]; simp))
              rw [HVN.out] at HM
              rw [hse] at C2
              clear HVB hin hse he
              rcases hcase with ⟨hc, hw⟩ | ⟨hc, rfl⟩
              · go_wp2_with (first | (go_at_call 39; go_loud (refine (C1.out _).mono ?_; rintro e w1 ⟨rfl, rfl⟩)) | (go_at_call 53; go_loud (refine (C2.out _).mono ?_; rintro e w2 ⟨rfl, hb2⟩)))
                go_ret2
                exact ⟨by rw [HM.out]; rfl, bthen BW.out hb2⟩
              · go_wp2_with (first | (go_at_call 39; go_loud (refine (C1.out _).mono ?_; rintro e w1 ⟨rfl, rfl⟩)) | (go_at_call 53; go_loud (refine (C2.out _).mono ?_; rintro e w2 ⟨rfl, hb2⟩)))
                go_ret2
                exact ⟨by rw [HM.out]; rfl, bthen BW.out hb2⟩
            · have hne : ((bstr (Lib.itoa m)).toList == s.toList) = false := by
                rw [beq_eq_false_iff_ne, ByteArray.toList_eq, ByteArray.toList_eq, bstr_toList]
                exact he
              have HM := hid (valR_no (s := s.data.toList) (by rw [HVB.out, hin]; simpa using he))
              have HE := hid he
              generalize bstr (Lib.itoa m) = t at *
              clear HVB hin he
              rcases hcase with ⟨hc, hw⟩ | ⟨hc, rfl⟩
              · go_wp2_with (first | (go_at_call 39; go_loud (refine (C1.out _).mono ?_; rintro e w1 ⟨rfl, rfl⟩)) | (go_at_call 53; go_loud (refine (C2.out _).mono ?_; rintro e w2 ⟨rfl, hb2⟩)))
                go_ret2
                exact ⟨by rw [HM.out]; rfl, bthen BW.out hb2⟩
              · go_wp2_with (first | (go_at_call 39; go_loud (refine (C1.out _).mono ?_; rintro e w1 ⟨rfl, rfl⟩)) | (go_at_call 53; go_loud (refine (C2.out _).mono ?_; rintro e w2 ⟨rfl, hb2⟩)))
                go_ret2
                exact ⟨by rw [HM.out]; rfl, bthen BW.out hb2⟩
end Go.Proofs.YtmpdaafkphpnoaaDoor
