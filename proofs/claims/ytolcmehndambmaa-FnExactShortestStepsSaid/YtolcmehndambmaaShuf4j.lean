import Derived.Test.YtolcmehndambmaaShuf4i
set_option linter.unusedVariables false
set_option linter.unusedSimpArgs false
namespace Go.Proofs.Ytolcmehndambmaa
open Go.RowKit

theorem mNot (kind lanes by_ : Int) (h : namedB kind lanes by_ = false) : m_NamedShuffle kind lanes by_ = ([], false) := by simp [m_NamedShuffle, h]
theorem mOk {kind lanes by_ : Int} (hL : lanesB lanes = true) (hB : inB by_ 0 (lanes - 1) = true) (h0 : 0 ≤ kind) (h5 : kind ≤ 5) (h : kind = 0 ∨ kind = 2 ∨ kind = 5 ∨ by_ = 0) :
    m_NamedShuffle kind lanes by_ = (if kind = 4 then inv (nlist 3 lanes 0) else nlist kind lanes by_, true) := by
  have : namedB kind lanes by_ = true := by
    simp only [namedB, hL, hB, Bool.and_eq_true, inB_iff, true_and, and_true]
    refine ⟨by omega, ?_⟩
    simp; omega
  simp [m_NamedShuffle, this]
theorem i_NamedShuffle (w : World) (kind lanes by_ : Int) :
    Calls Try.prog 50 #[.int .i64 kind, .int .i64 lanes, .int .i64 by_] w (RetIB w (m_NamedShuffle kind lanes by_)) := by
  have hb2 : Below w.heap.size w (WN w lanes by_) := balloc (ballocw w _) _
  have hcl : (WN w lanes by_).cell? ⟨w.heap.size, 0, none⟩ = some (.int .i64 lanes) := by simp [WN]
  have hcb : (WN w lanes by_).cell? ⟨w.heap.size + 1, 0, none⟩ = some (.int .i64 by_) := by simp [WN]
  have hsz : (WN w lanes by_).heap.size = w.heap.size + 2 := by simp [WN]
  have c0 := i_isLanes lanes (WN w lanes by_)
  have c1 := i_within by_ 0 (lanes - 1) (WN w lanes by_)
  have nil : ∀ {e : Ending} {w' : World}, m_NamedShuffle kind lanes by_ = ([], false) → (e = .returned (.tuple #[.slice none 0 0, .bool false]) ∧ WN w lanes by_ = w') → RetIB w (m_NamedShuffle kind lanes by_) e w' := by
    rintro e w' hm ⟨rfl, rfl⟩
    rw [hm]
    exact ⟨_, rfl, Own.nil _ _ _ _ _, hb2⟩
  cases h0 : lanesB lanes with
  | false =>
    have hm := mNot kind lanes by_ (by simp [namedB, h0])
    rw [h0] at c0
    exact (i_NKa w kind lanes by_ c0).mono fun e w' h => nil hm h
  | true =>
    have hor := lanesB_or h0
    rw [h0] at c0
    cases h1 : inB by_ 0 (lanes - 1) with
    | false =>
      have hm := mNot kind lanes by_ (by simp [namedB, h1])
      rw [h1] at c1
      exact (i_NKb w kind lanes by_ (by omega) (by omega) c0 c1).mono fun e w' h => nil hm h
    | true =>
      have hby := inB_iff.1 h1
      rw [h1] at c1
      obtain ⟨n, hn⟩ : ∃ n : Nat, lanes = n := ⟨lanes.toNat, by omega⟩
      have hlist : ∀ k, nlist k lanes by_ = (List.range n).map fun i => nf k lanes by_ (i : Nat) := fun k => by simp [nlist, hn]
      have each := fun (g : Nat) (lb : Array Value) (h : Nat → Int) (eg : Ent Try.prog g) (hp : FvI Try.prog (WN w lanes by_) g lb n h) => i_Named1 (WN w lanes by_) w.heap.size n g lb h (by omega) eg (hn ▸ hcl) (by omega) hp
      have cz := i_zip (WN w lanes by_) lanes h0
      have fin : ∀ {k : Int} {e : Ending} {w' : World}, m_NamedShuffle kind lanes by_ = (nlist k lanes by_, true) → (∃ v, e = .returned (.tuple #[v, .bool true]) ∧ OI w' (WN w lanes by_).heap.size w'.heap.size v (nlist k lanes by_) ∧ Below (WN w lanes by_).heap.size (WN w lanes by_) w') → RetIB w (m_NamedShuffle kind lanes by_) e w' := by
        rintro k e w' hm ⟨v, rfl, ho, hb⟩
        rw [hm]
        exact ⟨v, rfl, Own.wide ho hb2.size (Nat.le_refl _), bthen hb2 hb⟩
      by_cases k0 : kind = 0
      · subst k0
        have hm := mOk h0 h1 (by omega : (0:Int) ≤ 0) (by omega) (.inl rfl)
        have hc := each 111 #[.pointer (some ⟨w.heap.size + 1, 0, none⟩), .pointer (some ⟨w.heap.size, 0, none⟩)] (fun i => nf 0 lanes by_ (i : Nat)) (enters_of Try.func111 (by kernel_rfl) rfl)
          (fun W hW k hk => i_Named2 W (w.heap.size + 1) w.heap.size k by_ lanes (by omega) (by omega) (by omega) (by omega) (by omega) (bcell hW hcb) (bcell hW hcl))
        rw [← hlist] at hc
        exact (i_NK0 w lanes by_ (by omega) (by omega) c0 c1 _ hc).mono fun e w' h => fin (k := 0) (by simpa using hm) h
      by_cases k2 : kind = 2
      · subst k2
        have hm := mOk h0 h1 (by omega : (0:Int) ≤ 2) (by omega) (.inr (.inl rfl))
        have hc := each 112 #[.pointer (some ⟨w.heap.size + 1, 0, none⟩)] (fun i => nf 2 lanes by_ (i : Nat)) (enters_of Try.func112 (by kernel_rfl) rfl)
          (fun W hW k hk => i_Named3 W (w.heap.size + 1) k by_ (by omega) (bcell hW hcb))
        rw [← hlist] at hc
        exact (i_NK2 w lanes by_ (by omega) (by omega) c0 c1 _ hc).mono fun e w' h => fin (k := 2) (by simpa using hm) h
      by_cases k5 : kind = 5
      · subst k5
        have hm := mOk h0 h1 (by omega : (0:Int) ≤ 5) (by omega) (.inr (.inr (.inl rfl)))
        have hc := each 113 #[.pointer (some ⟨w.heap.size + 1, 0, none⟩)] (fun i => nf 5 lanes by_ (i : Nat)) (enters_of Try.func113 (by kernel_rfl) rfl)
          (fun W hW k hk => i_Named4 W (w.heap.size + 1) k by_ (by omega) (bcell hW hcb))
        rw [← hlist] at hc
        exact (i_NK5 w lanes by_ (by omega) (by omega) c0 c1 _ hc).mono fun e w' h => fin (k := 5) (by simpa using hm) h
      have b0 : (kind == 0) = false := by simpa using k0
      have b2 : (kind == 2) = false := by simpa using k2
      have b5 : (kind == 5) = false := by simpa using k5
      by_cases hz : by_ = 0
      · have bz : (by_ != 0) = false := by simpa using hz
        by_cases k1 : kind = 1
        · subst k1
          have hm := mOk h0 h1 (by omega : (0:Int) ≤ 1) (by omega) (.inr (.inr (.inr hz)))
          have hc := each 114 #[.pointer (some ⟨w.heap.size, 0, none⟩)] (fun i => nf 1 lanes by_ (i : Nat)) (enters_of Try.func114 (by kernel_rfl) rfl)
            (fun W hW k hk => i_Named5 W w.heap.size k lanes (by omega) (by omega) (by omega) (bcell hW hcl))
          rw [← hlist] at hc
          exact (i_NK1 w lanes by_ (by omega) (by omega) c0 c1 _ hc bz).mono fun e w' h => fin (k := 1) (by simpa using hm) h
        by_cases k3 : kind = 3
        · subst k3
          have hm := mOk h0 h1 (by omega : (0:Int) ≤ 3) (by omega) (.inr (.inr (.inr hz)))
          rw [show nlist 3 lanes 0 = nlist 3 lanes by_ from by rw [hz]] at cz
          exact (i_NK3 w lanes by_ (by omega) (by omega) c0 c1 _ bz cz).mono fun e w' h => fin (k := 3) (by simpa using hm) h
        by_cases k4 : kind = 4
        · subst k4
          have hm := mOk h0 h1 (by omega : (0:Int) ≤ 4) (by omega) (.inr (.inr (.inr hz)))
          have hz2 := zip_order lanes h0
          have hlen : (nlist 3 lanes 0).length = lanes.toNat := nlist_length _ _ _
          have HI : m_inverse (nlist 3 lanes 0) = (inv (nlist 3 lanes 0), true) := by unfold m_inverse; rw [hlen, hz2.1]; rfl
          refine (i_NK4 w lanes by_ (by omega) (by omega) c0 c1 (fun v w' => OI w' w.heap.size w'.heap.size v (inv (nlist 3 lanes 0)) ∧ Below w.heap.size w w')
            (fun v w' => OI w' (WN w lanes by_).heap.size w'.heap.size v (nlist 3 lanes 0) ∧ Below (WN w lanes by_).heap.size (WN w lanes by_) w') bz cz ?_).mono ?_
          · rintro W v ⟨ho, hb⟩
            obtain ⟨A2, c2, rfl, _, _, hr2⟩ := ho.shp
            have hiv := i_inverse W A2 c2 (nlist 3 lanes 0) (by rw [hlen]; omega) hr2
            rw [HI] at hiv
            refine hiv.mono ?_
            rintro e w3 ⟨v3, rfl, ho3, hb3⟩
            exact ⟨v3, rfl, Own.wide ho3 (bthen hb2 hb).size (Nat.le_refl _), bthen (bthen hb2 hb) hb3⟩
          · rintro e w' ⟨v, rfl, ho, hb⟩
            rw [hm]
            exact ⟨v, rfl, by simpa using ho, hb⟩
        have hm := mNot kind lanes by_ (by
          rw [← Bool.not_eq_true]; intro hh; simp only [namedB, Bool.and_eq_true, inB_iff] at hh; omega)
        exact (i_NKe w lanes by_ (by omega) (by omega) kind c0 c1 b0 b2 b5 bz (by simpa using k1) (by simpa using k3) (by simpa using k4)).mono fun e w' h => nil hm h
      · have bz : (by_ != 0) = true := by simpa using hz
        have hm := mNot kind lanes by_ (by
          rw [← Bool.not_eq_true]; intro hh; simp only [namedB, Bool.and_eq_true, inB_iff] at hh
          obtain ⟨⟨⟨_, hk⟩, _⟩, hh⟩ := hh
          simp at hh; omega)
        exact (i_NKz w lanes by_ (by omega) (by omega) kind c0 c1 b0 b2 b5 bz).mono fun e w' h => nil hm h
end Go.Proofs.Ytolcmehndambmaa
