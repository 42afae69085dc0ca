import Derived.Test.YtmpdaafkphpnoaaDoorDec
set_option linter.unusedVariables false
set_option linter.unusedSimpArgs false
namespace Go.Proofs.YtmpdaafkphpnoaaDoor
open Go.RowKit

/-! ### The text of a list -/
def listB (xs : List Int) : Bool := decide (xs.length ≤ 70) && xs.all (fun x => inB x (-1000000000) 1000000000)
def listT (xs : List Int) : List UInt8 := if xs = [] then [110, 111, 110, 101] else Lib.join (xs.map Lib.itoa) [44]
theorem listB_el {xs : List Int} (h : listB xs = true) {k : Nat} (hk : k < xs.length) : -1000000000 ≤ el xs k ∧ el xs k ≤ 1000000000 := by
  simp only [listB, Bool.and_eq_true, List.all_eq_true] at h
  exact inB_iff.1 (h.2 _ (el_mem hk))
theorem listB_len {xs : List Int} (h : listB xs = true) : xs.length ≤ 70 := by
  simp only [listB, Bool.and_eq_true, decide_eq_true_eq] at h
  exact h.1
/-- Own texts. -/
def strs (l : List (List UInt8)) : List Value := l.map fun b => .string (bstr b)
theorem infoStr : (Tryd.prog.info? 9).map (fun i => (i.zero, i.size, i.bytes)) = some (some (.string ⟨#[]⟩), 1, 16) := by kernel_rfl
theorem join_snoc (l : List (List UInt8)) (x sep : List UInt8) (h : l ≠ []) : Lib.join (l ++ [x]) sep = Lib.join l sep ++ sep ++ x := by
  cases l with
  | nil => exact absurd rfl h
  | cons y r =>
    rw [List.cons_append, Lib.join_cons, Lib.join_cons]
    simp [Lib.joinTail]
theorem joinTail_len {r : List (List UInt8)} {m : Nat} (sep : List UInt8) (hm : ∀ x ∈ r, x.length ≤ m) : (Lib.joinTail sep r).length ≤ r.length * (m + sep.length) := by
  induction r with
  | nil => simp [Lib.joinTail]
  | cons y r ih =>
    have := ih (fun z hz => hm z (List.mem_cons_of_mem _ hz))
    have h3 := hm y List.mem_cons_self
    simp only [Lib.joinTail, List.map_cons, List.flatten_cons, List.length_append, List.length_cons] at this ⊢
    rw [Nat.add_mul]; omega
theorem join_len {l : List (List UInt8)} {m : Nat} (sep : List UInt8) (hm : ∀ x ∈ l, x.length ≤ m) : (Lib.join l sep).length ≤ l.length * (m + sep.length) := by
  cases l with
  | nil => simp [Lib.join_nil]
  | cons x r =>
    rw [Lib.join_cons, List.length_append]
    have h1 := hm x (List.mem_cons_self)
    have h2 := joinTail_len sep (fun z hz => hm z (List.mem_cons_of_mem _ hz)) (r := r)
    rw [List.length_cons, Nat.add_mul]; omega
theorem listT_len {xs : List Int} (h : listB xs = true) : (listT xs).length ≤ 840 := by
  unfold listT
  split
  · simp
  · have := join_len (l := xs.map Lib.itoa) (m := 11) [44] (by
      intro x hx
      obtain ⟨a, ha, rfl⟩ := List.mem_map.1 hx
      simp only [listB, Bool.and_eq_true, List.all_eq_true] at h
      have := inB_iff.1 (h.2 _ ha)
      exact itoa_len this.1 this.2)
    have hl := listB_len h
    simp at this ⊢; omega
theorem g_Join {w : World} {lo n : Nat} {v : Value} (l : List (List UInt8)) (sep : List UInt8) (hl : l ≠ []) (hn : l.length ≤ 140737488355328) (hlen : (Lib.join l sep).length ≤ 140737488355328) (h : Own w lo w.heap.size 9 1 v n (strs l)) :
    Calls Tryd.prog 27 #[v, .string (bstr sep)] w fun e w' => e = .returned (.string (bstr (Lib.join l sep))) ∧ Below w.heap.size w w' := by
  obtain ⟨A, c, rfl, hnc, _, hsh⟩ := h.shape
  have hn' : l.length = n := by have := h.1.1; simpa [strs] using this
  subst hn'
  have e1 : (l.map bstr).map (·.data.toList) = l := by rw [List.map_map]; simp [Function.comp_def, bstr_toList]
  rcases hsh with ⟨_, q⟩ | ⟨g, rfl, _, hg, hc, _⟩
  · exact absurd (List.eq_nil_of_length_eq_zero q) hl
  · have := Tryd.strings_Join g 0 c (l.map bstr) (bstr sep) w (fun j x hx => by
      rw [Nat.zero_add]
      refine hc j _ ?_
      rw [List.getElem?_map] at hx
      obtain ⟨b, hb, rfl⟩ := Option.map_eq_some_iff.1 hx
      simp [strs, hb]) hg (by simpa using hn) (by simpa using hnc) (by rw [e1, bstr_toList]; exact hlen)
    rw [e1, bstr_toList, List.length_map] at this
    exact this
theorem i_isValue (n : Int) (w : World) : Calls Tryd.prog 45 #[.int .i64 n] w fun e w' => e = .returned (.bool (inB n (-1000000000) 1000000000)) ∧ w = w' := by
  have c0 := i_within n (-1000000000) 1000000000 w
  generalize inB n (-1000000000) 1000000000 = b at *
  go_enter Tryd.func45, Tryd.ntmps45
  go_wp2_with fail
  refine c0.mono ?_
  rintro e w1 ⟨rfl, rfl⟩
  go_wp2_with fail
  go_ret
  exact ⟨rfl, rfl⟩
theorem i_isList (w : World) (A : Option Addr) (c : Nat) (xs : List Int) (hl : xs.length ≤ 9223372036854775807) (hR : RdI w A xs) :
    Calls Tryd.prog 25 #[.slice A xs.length c] w fun e w' => e = .returned (.bool (listB xs)) ∧ Below w.heap.size w w' := by
  have hall := areAllI w A xs.length c (fun k => .int .i64 (el xs k)) 45 #[] (fun k => inB (el xs k) (-1000000000) 1000000000) hl hR (enters_of Tryd.func45 (by kernel_rfl) rfl) (fun W hW k hk => (i_isValue (el xs k) W).mono fun e w' h => ⟨h.1, by rw [← h.2]; exact Below.refl _ _⟩)
  rw [allN_ints xs (fun x => inB x (-1000000000) 1000000000)] at hall
  by_cases h70 : xs.length ≤ 70
  · have HM := hid (show listB xs = xs.all (fun x => inB x (-1000000000) 1000000000) by simp [listB, h70])
    generalize xs.all (fun x => inB x (-1000000000) 1000000000) = b at *
    have HL := hid hall
    clear hall hR
    go_enter Tryd.func25, Tryd.ntmps25
    go_wp2_with (go_at_call 44; go_loud (refine HL.out.mono ?_; rintro e w' ⟨rfl, hb'⟩))
    go_ret
    exact ⟨ret_b HM.out.symm, hb'⟩
  · have HM := hid (show listB xs = false by simp [listB, h70])
    have hd : ¬ ((xs.length : Int) ≤ 70) := by omega
    clear hall hR h70
    go_enter Tryd.func25, Tryd.ntmps25
    go_wp2
    go_ret
    exact ⟨ret_b (by rw [HM.out]), Below.refl _ _⟩
theorem s_l01List (w : World) (A : Option Addr) (c : Nat) (xs : List Int) (hl : xs.length ≤ 9223372036854775807) (hR : RdI w A xs) :
    Calls Tryd.prog 21 #[.slice A xs.length c] w fun e w' => e = .returned (.bool (listB xs)) ∧ Below w.heap.size w w' := by
  go_enter Tryd.func21, Tryd.ntmps21
  go_wp2
  go_loopg [3] xs.length (fun gg s wr => ∃ k : Nat, k ≤ xs.length ∧ xs.length - k ≤ gg ∧ s = .int .i64 k ∧ Aside (Below w.heap.size w wr) ∧ Aside (xs.all (fun x => inB x (-1000000000) 1000000000) = (xs.drop k).all (fun x => inB x (-1000000000) 1000000000)))
  case atStart => exact ⟨0, Nat.zero_le _, by omega, rfl, Below.refl _ _, rfl⟩
  case round =>
    obtain ⟨k, hk, hg, rfl, BW, IX⟩ := hrel
    by_cases hlt : k < xs.length
    · obtain ⟨b, off, rfl, hc⟩ := (hR.below BW.out).get hlt
      have C := hid (fun W => s_l00In (el xs k) (-1000000000) 1000000000 W)
      have IX' : Aside (xs.all (fun x => inB x (-1000000000) 1000000000) = (inB (el xs k) (-1000000000) 1000000000 && (xs.drop (k + 1)).all (fun x => inB x (-1000000000) 1000000000))) := by have := IX.out; rw [el_drop hlt] at this; exact this
      clear IX
      cases hq : inB (el xs k) (-1000000000) 1000000000 with
      | true =>
        rw [hq] at C
        have IX'' : Aside (xs.all (fun x => inB x (-1000000000) 1000000000) = (xs.drop (k + 1)).all (fun x => inB x (-1000000000) 1000000000)) := by have := IX'.out; rw [hq] at this; exact this
        clear IX' hq
        go_wp2_with (go_at_call 39; refine (C.out _).mono ?_; rintro e w' ⟨rfl, rfl⟩)
        go_roundg (xs.length - (k + 1))
        case measure => omega
        case rel => exact ⟨k + 1, by omega, by omega, by go_num, ⟨BW.out.os, BW.out.tape, BW.out.output, BW.out.size, BW.out.block⟩, IX''⟩
      | false =>
        rw [hq] at C
        have IX'' : Aside (listB xs = false) := by have := IX'.out; rw [hq] at this; show _ = _; unfold listB; rw [this]; simp
        clear IX' hq
        go_wp2_with (go_at_call 39; refine (C.out _).mono ?_; rintro e w' ⟨rfl, rfl⟩)
        go_ret
        exact ⟨ret_b IX''.out.symm, ⟨BW.out.os, BW.out.tape, BW.out.output, BW.out.size, BW.out.block⟩⟩
    · have : k = xs.length := by omega
      subst this
      have IX' : Aside (listB xs = decide ((xs.length : Int) ≤ 70)) := by
        have := IX.out; show _ = _; unfold listB; rw [this]; simp; omega
      clear IX
      go_wp2
      go_ret
      exact ⟨ret_b (by rw [IX'.out]), BW.out⟩
end Go.Proofs.YtmpdaafkphpnoaaDoor
