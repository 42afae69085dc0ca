import Derived.Test.YtmpdaafkphpnoaaShuf4s
set_option linter.unusedVariables false
set_option linter.unusedSimpArgs false
namespace Go.Proofs.Ytmpdaafkphpnoaa
open Go.RowKit

abbrev NoShuf (w : World) : Ending → World → Prop := fun e w' => e = .returned (.tuple #[.slice none 0 0, .bool false]) ∧ w = w'
theorem s_NKa (w : World) (kind lanes by_ : Int) (c0 : TrueAt w 79 #[.int .i64 lanes] false) :
    Calls Try.prog 40 #[.int .i64 kind, .int .i64 lanes, .int .i64 by_] w (NoShuf w) := by
  go_enter Try.func40, Try.ntmps40
  go_wp2_with fail
  refine c0.mono ?_
  rintro e w1 ⟨rfl, rfl⟩
  go_wp2_with fail
  go_ret2
  exact ⟨rfl, rfl⟩
theorem s_NKb (w : World) (kind lanes by_ : Int) (c0 : TrueAt w 79 #[.int .i64 lanes] true) (c1 : TrueAt w 59 #[.int .i64 kind, .int .i64 0, .int .i64 5] false) :
    Calls Try.prog 40 #[.int .i64 kind, .int .i64 lanes, .int .i64 by_] w (NoShuf w) := by
  go_enter Try.func40, Try.ntmps40
  go_wp2_with fail
  refine c0.mono ?_
  rintro e w1 ⟨rfl, rfl⟩
  go_wp2_with fail
  refine c1.mono ?_
  rintro e w1 ⟨rfl, rfl⟩
  go_wp2_with fail
  go_ret2
  exact ⟨rfl, rfl⟩
theorem s_NKc (w : World) (kind by_ : Int) (n : Nat) (hn : n ≤ 16) (c0 : TrueAt w 79 #[.int .i64 (n : Nat)] true) (c1 : TrueAt w 59 #[.int .i64 kind, .int .i64 0, .int .i64 5] true)
    (c2 : TrueAt w 59 #[.int .i64 by_, .int .i64 0, .int .i64 ((n : Nat) - 1)] false) :
    Calls Try.prog 40 #[.int .i64 kind, .int .i64 (n : Nat), .int .i64 by_] w (NoShuf w) := by
  go_enter Try.func40, Try.ntmps40
  go_wp2_with fail
  refine c0.mono ?_
  rintro e w1 ⟨rfl, rfl⟩
  go_wp2_with fail
  refine c1.mono ?_
  rintro e w1 ⟨rfl, rfl⟩
  go_wp2_with fail
  refine c2.mono ?_
  rintro e w1 ⟨rfl, rfl⟩
  go_wp2_with fail
  go_ret2
  exact ⟨rfl, rfl⟩
theorem s_NKd1 (w : World) (by_ : Int) (n : Nat) (hn : n ≤ 16) (hp : 0 < by_) (c0 : TrueAt w 79 #[.int .i64 (n : Nat)] true) (c1 : TrueAt w 59 #[.int .i64 1, .int .i64 0, .int .i64 5] true)
    (c2 : TrueAt w 59 #[.int .i64 by_, .int .i64 0, .int .i64 ((n : Nat) - 1)] true) :
    Calls Try.prog 40 #[.int .i64 1, .int .i64 (n : Nat), .int .i64 by_] w (NoShuf w) := by
  go_enter Try.func40, Try.ntmps40
  go_wp2_with fail
  refine c0.mono ?_
  rintro e w1 ⟨rfl, rfl⟩
  go_wp2_with fail
  refine c1.mono ?_
  rintro e w1 ⟨rfl, rfl⟩
  go_wp2_with fail
  refine c2.mono ?_
  rintro e w1 ⟨rfl, rfl⟩
  go_wp2_with fail
  go_ret2
  exact ⟨rfl, rfl⟩
theorem s_NKd3 (w : World) (by_ : Int) (n : Nat) (hn : n ≤ 16) (hp : 0 < by_) (c0 : TrueAt w 79 #[.int .i64 (n : Nat)] true) (c1 : TrueAt w 59 #[.int .i64 3, .int .i64 0, .int .i64 5] true)
    (c2 : TrueAt w 59 #[.int .i64 by_, .int .i64 0, .int .i64 ((n : Nat) - 1)] true) :
    Calls Try.prog 40 #[.int .i64 3, .int .i64 (n : Nat), .int .i64 by_] w (NoShuf w) := by
  go_enter Try.func40, Try.ntmps40
  go_wp2_with fail
  refine c0.mono ?_
  rintro e w1 ⟨rfl, rfl⟩
  go_wp2_with fail
  refine c1.mono ?_
  rintro e w1 ⟨rfl, rfl⟩
  go_wp2_with fail
  refine c2.mono ?_
  rintro e w1 ⟨rfl, rfl⟩
  go_wp2_with fail
  go_ret2
  exact ⟨rfl, rfl⟩
theorem s_NKd4 (w : World) (by_ : Int) (n : Nat) (hn : n ≤ 16) (hp : 0 < by_) (c0 : TrueAt w 79 #[.int .i64 (n : Nat)] true) (c1 : TrueAt w 59 #[.int .i64 4, .int .i64 0, .int .i64 5] true)
    (c2 : TrueAt w 59 #[.int .i64 by_, .int .i64 0, .int .i64 ((n : Nat) - 1)] true) :
    Calls Try.prog 40 #[.int .i64 4, .int .i64 (n : Nat), .int .i64 by_] w (NoShuf w) := by
  go_enter Try.func40, Try.ntmps40
  go_wp2_with fail
  refine c0.mono ?_
  rintro e w1 ⟨rfl, rfl⟩
  go_wp2_with fail
  refine c1.mono ?_
  rintro e w1 ⟨rfl, rfl⟩
  go_wp2_with fail
  refine c2.mono ?_
  rintro e w1 ⟨rfl, rfl⟩
  go_wp2_with fail
  go_ret2
  exact ⟨rfl, rfl⟩
theorem zip_wrap (n k : Nat) (hn : n ≤ 16) (hk : k < n) : wrap64 (((k : Nat) : Int) / 2 + wrap64 (((k : Nat) : Int) % 2 * (((n : Nat) : Int) / 2))) = ((k : Nat) : Int) / 2 + ((k : Nat) : Int) % 2 * (((n : Nat) : Int) / 2) := by
  have h1 : ((k : Nat) : Int) % 2 = 0 ∨ ((k : Nat) : Int) % 2 = 1 := by omega
  rcases h1 with h | h <;> rw [h] <;> unfold wrap64 <;> omega
theorem s_NamedShuffle (w : World) (kind lanes by_ : Int) :
    Calls Try.prog 40 #[.int .i64 kind, .int .i64 lanes, .int .i64 by_] w (RetIB w (m_NamedShuffle kind lanes by_)) := by
  have c0 := s_l02Lanes lanes w
  have c1 := s_l00In kind 0 5 w
  have c2 := s_l00In by_ 0 (lanes - 1) w
  have nil : ∀ {e : Ending} {w' : World}, m_NamedShuffle kind lanes by_ = ([], false) → (e = .returned (.tuple #[.slice none 0 0, .bool false]) ∧ w = w') → RetIB w (m_NamedShuffle kind lanes by_) e w' := by
    rintro e w' hm ⟨rfl, rfl⟩
    rw [hm]
    exact ⟨_, rfl, Own.nil _ _ _ _ _, Below.refl _ _⟩
  cases h0 : lanesB lanes with
  | false => rw [h0] at c0; exact (s_NKa w kind lanes by_ c0).mono fun e w' h => nil (mNot kind lanes by_ (by simp [namedB, h0])) h
  | true =>
    rw [h0] at c0
    have hor := lanesB_or h0
    obtain ⟨n, hn⟩ : ∃ n : Nat, lanes = n := ⟨lanes.toNat, by omega⟩
    subst hn
    have hn2 : 2 ≤ n := by omega
    have hn16 : n ≤ 16 := by omega
    cases h1 : inB kind 0 5 with
    | false => rw [h1] at c1; exact (s_NKb w kind n by_ c0 c1).mono fun e w' h => nil (mNot kind n by_ (by simp [namedB, h1])) h
    | true =>
      rw [h1] at c1
      cases h2 : inB by_ 0 ((n : Nat) - 1) with
      | false => rw [h2] at c2; exact (s_NKc w kind by_ n hn16 c0 c1 c2).mono fun e w' h => nil (mNot kind n by_ (by simp [namedB, h2])) h
      | true =>
        rw [h2] at c2
        have hk := inB_iff.1 h1
        have hby := inB_iff.1 h2
        have hlist : ∀ k, nlist k n by_ = (List.range n).map fun i => nf k n by_ (i : Nat) := fun k => by simp [nlist]
        have fin : ∀ {k : Int} {F : Nat → Int} {e : Ending} {w' : World}, m_NamedShuffle kind n by_ = (nlist k n by_, true) → (List.range n).map F = nlist k n by_ → RetIB w ((List.range n).map F, true) e w' → RetIB w (m_NamedShuffle kind n by_) e w' := by
          intro k F e w' hm hF h
          rw [hm, ← hF]; exact h
        by_cases hp : 0 < by_
        · rcases (show kind = 0 ∨ kind = 1 ∨ kind = 2 ∨ kind = 3 ∨ kind = 4 ∨ kind = 5 by omega) with rfl | rfl | rfl | rfl | rfl | rfl
          · exact (s_NK0p w n hn2 hn16 by_ hp (by omega) (fun i => nf 0 n by_ (i : Nat)) (hid fun k hk => by simp [nf]) c0 c1 c2).mono fun e w' h => fin (k := 0) (by simpa using mOk h0 h2 (by omega : (0:Int) ≤ 0) (by omega) (.inl rfl)) (hlist 0).symm h
          · exact (s_NKd1 w by_ n hn16 hp c0 c1 c2).mono fun e w' h => nil (mNot 1 n by_ (by simp [namedB, hp])) h
          · exact (s_NK2p w n hn2 hn16 by_ hp (by omega) (fun i => nf 2 n by_ (i : Nat)) (hid fun k hk => by simp [nf]) c0 c1 c2).mono fun e w' h => fin (k := 2) (by simpa using mOk h0 h2 (by omega : (0:Int) ≤ 2) (by omega) (.inr (.inl rfl))) (hlist 2).symm h
          · exact (s_NKd3 w by_ n hn16 hp c0 c1 c2).mono fun e w' h => nil (mNot 3 n by_ (by simp [namedB, hp])) h
          · exact (s_NKd4 w by_ n hn16 hp c0 c1 c2).mono fun e w' h => nil (mNot 4 n by_ (by simp [namedB, hp])) h
          · exact (s_NK5p w n hn2 hn16 by_ hp (by omega) (fun i => nf 5 n by_ (i : Nat)) (hid fun k hk => by simp [nf]) c0 c1 c2).mono fun e w' h => fin (k := 5) (by simpa using mOk h0 h2 (by omega : (0:Int) ≤ 5) (by omega) (.inr (.inr (.inl rfl)))) (hlist 5).symm h
        · have hz : by_ = 0 := by omega
          subst hz
          rcases (show kind = 0 ∨ kind = 1 ∨ kind = 2 ∨ kind = 3 ∨ kind = 4 ∨ kind = 5 by omega) with rfl | rfl | rfl | rfl | rfl | rfl
          · exact (s_NK0 w n hn2 hn16 (fun i => nf 0 n 0 (i : Nat)) (hid fun k hk => by simp [nf]) c0 c1 c2).mono fun e w' h => fin (k := 0) (by simpa using mOk h0 h2 (by omega : (0:Int) ≤ 0) (by omega) (.inl rfl)) (hlist 0).symm h
          · exact (s_NK1 w n hn2 hn16 (fun i => nf 1 n 0 (i : Nat)) (hid fun k hk => by simp [nf]) c0 c1 c2).mono fun e w' h => fin (k := 1) (by simpa using mOk h0 h2 (by omega : (0:Int) ≤ 1) (by omega) (.inr (.inr (.inr rfl)))) (hlist 1).symm h
          · exact (s_NK2 w n hn2 hn16 (fun i => nf 2 n 0 (i : Nat)) (hid fun k hk => by simp [nf]) c0 c1 c2).mono fun e w' h => fin (k := 2) (by simpa using mOk h0 h2 (by omega : (0:Int) ≤ 2) (by omega) (.inr (.inl rfl))) (hlist 2).symm h
          · exact (s_NK3 w n hn2 hn16 (fun i => nf 3 n 0 (i : Nat)) (hid fun k hk => by rw [zip_wrap n k hn16 hk]; simp [nf]) c0 c1 c2).mono fun e w' h => fin (k := 3) (by simpa using mOk h0 h2 (by omega : (0:Int) ≤ 3) (by omega) (.inr (.inr (.inr rfl)))) (hlist 3).symm h
          · have hm := mOk h0 h2 (by omega : (0:Int) ≤ 4) (by omega) (.inr (.inr (.inr rfl)))
            have hz2 := zip_order n h0
            have hlen : (nlist 3 n 0).length = n := by rw [nlist_length]; simp
            have hF : (List.range n).map (fun i => nf 3 n 0 (i : Nat)) = nlist 3 n 0 := by simp [nlist]
            have hinv : invTo (nlist 3 n 0) (nlist 3 n 0).length = inv (nlist 3 n 0) := by rcases lanesB_or h0 with h | h | h | h <;> rw [h] <;> decide +kernel
            have hin : ∀ k, k < (nlist 3 n 0).length → 0 ≤ el (nlist 3 n 0) k ∧ el (nlist 3 n 0) k < (nlist 3 n 0).length := fun k hk => shufB_el hz2.2 hk
            refine (s_NK4 w n hn2 hn16 (fun i => nf 3 n 0 (i : Nat)) (hid fun k hk => by rw [zip_wrap n k hn16 hk]; simp [nf]) c0 c1 c2 (fun v w' => OI w' w.heap.size w'.heap.size v (inv (nlist 3 n 0)) ∧ Below w.heap.size w w') ?_).mono ?_
            · intro W v ho hb
              rw [hF] at ho
              obtain ⟨A2, c2', rfl, _, _, hr2⟩ := ho.shp
              refine (s_l04Inverse W A2 c2' (nlist 3 n 0) (by rw [hlen]; omega) hin hr2).mono ?_
              rintro e w3 ⟨v3, rfl, ho3, hb3⟩
              rw [hinv] at ho3
              exact ⟨v3, rfl, Own.wide ho3 hb.size (Nat.le_refl _), bthen hb hb3⟩
            · rintro e w' ⟨v, rfl, ho, hb⟩
              rw [hm]
              exact ⟨v, rfl, by simpa using ho, hb⟩
          · exact (s_NK5 w n hn2 hn16 (fun i => nf 5 n 0 (i : Nat)) (hid fun k hk => by simp [nf]) c0 c1 c2).mono fun e w' h => fin (k := 5) (by simpa using mOk h0 h2 (by omega : (0:Int) ≤ 5) (by omega) (.inr (.inr (.inl rfl)))) (hlist 5).symm h
end Go.Proofs.Ytmpdaafkphpnoaa
