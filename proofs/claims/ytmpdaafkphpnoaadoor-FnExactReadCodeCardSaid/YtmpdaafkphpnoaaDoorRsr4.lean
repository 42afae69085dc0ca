import Derived.Test.YtmpdaafkphpnoaaDoorRsr3
set_option linter.unusedVariables false
set_option linter.unusedSimpArgs false
namespace Go.Proofs.YtmpdaafkphpnoaaDoor
open Go.RowKit

theorem first_hit (m : UInt8) : ∀ (l : List UInt8), (∀ j : Nat, l[j]? ≠ some m) ∨ ∃ K : Nat, l[K]? = some m ∧ ∀ j : Nat, j < K → l[j]? ≠ some m := by
  intro l
  induction l with
  | nil => left; intro j; simp
  | cons b l ih =>
    by_cases hb : b = m
    · right; exact ⟨0, by simp [hb], fun j hj => absurd hj (by omega)⟩
    · rcases ih with h | ⟨K, h1, h2⟩
      · left
        intro j
        cases j with
        | zero => simpa using hb
        | succ j => simpa using h j
      · right
        refine ⟨K + 1, by simpa using h1, fun j hj => ?_⟩
        cases j with
        | zero => simpa using hb
        | succ j => simpa using h2 j (by omega)
theorem byte_ne {b : UInt8} (h : ¬ b = 61) : ((b.toNat : Int) != 61) = true := by
  have : ¬ b.toNat = 61 := fun z => h (UInt8.toNat_inj.1 (by rw [z]; rfl))
  simp; omega
theorem byte_eq {b : UInt8} (h : b = 61) : ((b.toNat : Int) != 61) = false := by subst h; rfl
theorem s_l03ReadStmt (w : World) (s : ByteArray) (hs : s.size ≤ 1048576) :
    Calls Tryd.prog 61 #[.string s] w fun e w' => e = .returned (.tuple #[sv (stmR s.data.toList).1, .bool (stmR s.data.toList).2]) ∧ Below w.heap.size w w' := by
  have hsz : s.data.toList.length = s.size := by rw [Array.length_toList]; rfl
  rcases first_hit 61 s.data.toList with h | ⟨K, h1, h2⟩
  · rw [stmR_none (by rw [cut_miss h])]
    exact s_l03ReadStmtN w s hs (hid fun j hj => byte_ne (fun q => h j (by rw [bytes_get s hj, q])))
  · have hK : K < s.size := by
      rcases Nat.lt_or_ge K s.size with q | q
      · exact q
      · rw [List.getElem?_eq_none (by omega)] at h1; cases h1
    have hit : Hid ((((s[K]'hK).toNat : Int) != 61) = false) := hid (byte_eq (by have := bytes_get s hK; rw [h1] at this; exact (Option.some.inj this).symm))
    have HQ : Hid (∀ j (h : j < s.size), j < K → ((((s[j]'h).toNat : Int)) != 61) = true) := hid fun j hj hjk => byte_ne (fun q => h2 j hjk (by rw [bytes_get s hj, q]))
    have HTR : Hid (s.extract (K + 1) s.size = bstr (s.data.toList.drop (K + 1))) := hid (by
      rw [extract_bstr, List.take_of_length_le (by rw [List.length_drop, hsz]; omega)])
    have HTL : Hid (s.extract 0 K = bstr (s.data.toList.take K)) := hid (by rw [extract_bstr]; simp)
    unfold stmR
    rw [cut_hit h2 h1]
    simp only
    have hr : (s.data.toList.drop (K + 1)).length ≤ 1048576 := by rw [List.length_drop, hsz]; omega
    have hl : (s.data.toList.take K).length ≤ 1048576 := by rw [List.length_take, hsz]; omega
    clear h1 h2
    generalize s.data.toList.drop (K + 1) = r at *
    generalize s.data.toList.take K = l at *
    have CS := fun W => s_l01Cut W (bstr r) 32 (by rw [bstr_size]; omega)
    rw [bstr_toList] at CS
    have hml : ∀ p, p ∈ cutL 32 r → p.length ≤ 1048576 := fun p hp => Nat.le_trans (cutL_mem_len hp) (by omega)
    have hcl : (cutL 32 r).length ≤ 9223372036854775807 := by
      have := cutL_len 32 (bstr r)
      rw [bstr_toList, bstr_size] at this
      omega
    generalize cutL 32 r = ps at *
    by_cases h3 : ps.length = 3
    · match ps, h3, CS, hml with
      | [p0, p1, p2], _, CS, hml =>
        have C1 : Hid (∀ W, Below w.heap.size w W → Calls Tryd.prog 60 #[.string (bstr r), .int .u8 32] W fun e w' => ∃ g c, e = .returned (.slice (some ⟨g, 0, none⟩) 3 c) ∧ C3 w' g (bstr p0) (bstr p1) (bstr p2) ∧ Below W.heap.size W w') := hid (fun W hW => (CS W).mono (fun e w' hq => by
          obtain ⟨v, rfl, ho, hb⟩ := hq
          obtain ⟨g, c, rfl, h1, _⟩ := own3 ho
          exact ⟨g, c, rfl, h1, hb⟩))
        have RD := fun (x : List UInt8) (hx : x.length ≤ 1048576) => hid (fun W (hW : Below w.heap.size w W) => by
          have := s_l01Value W (bstr x) (by rw [bstr_size]; omega)
          rw [bstr_toList, valR_num] at this
          exact this)
        have RO := hid (fun W (hW : Below w.heap.size w W) => by
          have := s_l01ReadOp W (bstr p1)
          rw [opR_num, bstr_toList] at this
          exact this)
        exact s_l03ReadStmt3 w s (bstr l) (bstr r) (bstr p0) (bstr p1) (bstr p2) K (valB l) (valB p0) (oB p1) (valB p2) (oNum p1) (vNum l) (vNum p0) (vNum p2) hs hK hit HQ HTR HTL C1 (RD l (by omega)) (RD p0 (hml p0 (by simp))) RO (RD p2 (hml p2 (by simp)))
    · rw [stmRs_no h3]
      refine s_l03ReadStmt0 w s (bstr r) K ps.length hs h3 hcl hK hit HQ HTR (hid (fun W hW => (CS W).mono fun e w' hq => ?_))
      obtain ⟨v, rfl, ho, hb⟩ := hq
      obtain ⟨A, c, rfl, _⟩ := Own.shape ho
      exact ⟨A, c, rfl, hb⟩
end Go.Proofs.YtmpdaafkphpnoaaDoor
