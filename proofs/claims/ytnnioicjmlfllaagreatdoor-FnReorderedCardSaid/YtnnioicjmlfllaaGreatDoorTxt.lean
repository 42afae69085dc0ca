import Derived.Test.YtnnioicjmlfllaaGreatDoorDec
set_option linter.unusedVariables false
set_option linter.unusedSimpArgs false
namespace Go.Proofs.YtnnioicjmlfllaaGreatDoor
open Go.RowKit

/-! ### The text of a list -/
def listB (xs : List Int) : Bool := decide (xs.length ≤ 70) && xs.all (fun x => inB x (-1000000000) 1000000000)
def listT (xs : List Int) : List UInt8 := if xs = [] then [110, 111, 110, 101] else Lib.join (xs.map Lib.itoa) [44]
theorem listB_el {xs : List Int} (h : listB xs = true) {k : Nat} (hk : k < xs.length) : -1000000000 ≤ el xs k ∧ el xs k ≤ 1000000000 := by
  simp only [listB, Bool.and_eq_true, List.all_eq_true] at h
  exact inB_iff.1 (h.2 _ (el_mem hk))
theorem listB_len {xs : List Int} (h : listB xs = true) : xs.length ≤ 70 := by
  simp only [listB, Bool.and_eq_true, decide_eq_true_eq] at h
  exact h.1
/-- Own texts. -/
def strs (l : List (List UInt8)) : List Value := l.map fun b => .string (bstr b)
theorem infoStr : (Tryz.prog.info? 9).map (fun i => (i.zero, i.size, i.bytes)) = some (some (.string ⟨#[]⟩), 1, 16) := by kernel_rfl
theorem join_snoc (l : List (List UInt8)) (x sep : List UInt8) (h : l ≠ []) : Lib.join (l ++ [x]) sep = Lib.join l sep ++ sep ++ x := by
  cases l with
  | nil => exact absurd rfl h
  | cons y r =>
    rw [List.cons_append, Lib.join_cons, Lib.join_cons]
    simp [Lib.joinTail]
theorem joinTail_len {r : List (List UInt8)} {m : Nat} (sep : List UInt8) (hm : ∀ x ∈ r, x.length ≤ m) : (Lib.joinTail sep r).length ≤ r.length * (m + sep.length) := by
  induction r with
  | nil => simp [Lib.joinTail]
  | cons y r ih =>
    have := ih (fun z hz => hm z (List.mem_cons_of_mem _ hz))
    have h3 := hm y List.mem_cons_self
    simp only [Lib.joinTail, List.map_cons, List.flatten_cons, List.length_append, List.length_cons] at this ⊢
    rw [Nat.add_mul]; omega
theorem join_len {l : List (List UInt8)} {m : Nat} (sep : List UInt8) (hm : ∀ x ∈ l, x.length ≤ m) : (Lib.join l sep).length ≤ l.length * (m + sep.length) := by
  cases l with
  | nil => simp [Lib.join_nil]
  | cons x r =>
    rw [Lib.join_cons, List.length_append]
    have h1 := hm x (List.mem_cons_self)
    have h2 := joinTail_len sep (fun z hz => hm z (List.mem_cons_of_mem _ hz)) (r := r)
    rw [List.length_cons, Nat.add_mul]; omega
theorem listT_len {xs : List Int} (h : listB xs = true) : (listT xs).length ≤ 840 := by
  unfold listT
  split
  · simp
  · have := join_len (l := xs.map Lib.itoa) (m := 11) [44] (by
      intro x hx
      obtain ⟨a, ha, rfl⟩ := List.mem_map.1 hx
      simp only [listB, Bool.and_eq_true, List.all_eq_true] at h
      have := inB_iff.1 (h.2 _ ha)
      exact itoa_len this.1 this.2)
    have hl := listB_len h
    simp at this ⊢; omega
theorem g_Join {w : World} {lo n : Nat} {v : Value} (l : List (List UInt8)) (sep : List UInt8) (hl : l ≠ []) (hn : l.length ≤ 140737488355328) (hlen : (Lib.join l sep).length ≤ 140737488355328) (h : Own w lo w.heap.size 9 1 v n (strs l)) :
    Calls Tryz.prog 93 #[v, .string (bstr sep)] w fun e w' => e = .returned (.string (bstr (Lib.join l sep))) ∧ Below w.heap.size w w' := by
  obtain ⟨A, c, rfl, hnc, _, hsh⟩ := h.shape
  have hn' : l.length = n := by have := h.1.1; simpa [strs] using this
  subst hn'
  have e1 : (l.map bstr).map (·.data.toList) = l := by rw [List.map_map]; simp [Function.comp_def, bstr_toList]
  rcases hsh with ⟨_, q⟩ | ⟨g, rfl, _, hg, hc, _⟩
  · exact absurd (List.eq_nil_of_length_eq_zero q) hl
  · have := Tryz.strings_Join g 0 c (l.map bstr) (bstr sep) w (fun j x hx => by
      rw [Nat.zero_add]
      refine hc j _ ?_
      rw [List.getElem?_map] at hx
      obtain ⟨b, hb, rfl⟩ := Option.map_eq_some_iff.1 hx
      simp [strs, hb]) hg (by simpa using hn) (by simpa using hnc) (by rw [e1, bstr_toList]; exact hlen)
    rw [e1, bstr_toList, List.length_map] at this
    exact this
theorem i_isValue (n : Int) (w : World) : Calls Tryz.prog 126 #[.int .i64 n] w fun e w' => e = .returned (.bool (inB n (-1000000000) 1000000000)) ∧ w = w' := by
  have c0 := i_within n (-1000000000) 1000000000 w
  generalize inB n (-1000000000) 1000000000 = b at *
  go_enter Tryz.func126, Tryz.ntmps126
  go_wp2_with fail
  refine c0.mono ?_
  rintro e w1 ⟨rfl, rfl⟩
  go_wp2_with fail
  go_ret
  exact ⟨rfl, rfl⟩

end Go.Proofs.YtnnioicjmlfllaaGreatDoor
