import Derived.Test.YtnnioicjmlfllaaGreatDoorStr
import Derived.Laws.IdiomStrings
import Derived.Lib.UnsafeStr
set_option linter.unusedVariables false
set_option linter.unusedSimpArgs false
namespace Go.Proofs.YtnnioicjmlfllaaGreatDoor
open Go.RowKit

/-- append(v, x...), both of the call's own. -/
theorem wp_appendV {P : Program} {ops : Array Oper} {rest : List Oper} {o : Oper} {a : Act} {Q : Exit → Act → World → Prop} {W : World} (lo : Nat) (hgd : o.guard = none) (s x : Operand) (t e : TypeId) (z : Value) (bytes : Nat)
    (ho : o.op = .call { callee := .builtin .append, args := #[s, x], argTypes := #[t, t] })
    (ht : P.underlying t = some (.slice e)) (hinfo : (P.info? e).map (fun i => (i.zero, i.size, i.bytes)) = some (some z, 1, bytes)) (hz : z.cells.size = 1)
    (v : Value) (n : Nat) (cs : List Value) (vx : Value) (m lo' hi' : Nat) (cs' : List Value) (hs : a.eval s = v) (hx : a.eval x = vx)
    (HO : Own W lo W.heap.size e 1 v n cs) (HX : Own W lo' hi' e 1 vx m cs') (h1 : ∀ u ∈ cs', u.oneCell' = true) (hlo : lo ≤ W.heap.size) (hl : n + m ≤ 9223372036854775807) (hby : (n + m) * bytes ≤ 140737488355328)
    (h : ∀ v1 w1, Own w1 lo w1.heap.size e 1 v1 (n + m) (cs ++ cs') → Below lo W w1 → wpList P ops Q rest (a.put o.dst v1) w1) :
    wpList P ops Q (o :: rest) a W := by
  obtain ⟨i0, hi, hzz⟩ := Option.map_eq_some_iff.1 hinfo
  simp only [Prod.mk.injEq] at hzz
  obtain ⟨hz0, hz1, hz2⟩ := hzz
  obtain ⟨A, c, rfl, hmc, _, hsh⟩ := HX.shape
  have hlen : cs'.length = m * 1 := HX.1.1
  rcases hsh with ⟨rfl, rfl⟩ | ⟨g, rfl, _, _, hc, _⟩
  · have hnil : cs' = [] := List.eq_nil_of_length_eq_zero (by simpa using hlen)
    subst hnil
    have hrun : (Builtin.append_ #[t, t] o.type #[v, .slice none 0 c]).run P W = .ok v W := by
      rcases HO.1.2 with ⟨rfl, rfl⟩ | ⟨g, cap, cur, rfl, _, _, hnc, _⟩
      · simp [Builtin.append_, run_underlying ht, sizeOf, typeInfo, hi, Builtin.lenOf, Builtin.firstCells]
      · simp [Builtin.append_, run_underlying ht, sizeOf, typeInfo, hi, Builtin.lenOf, Builtin.firstCells, hnc, storeCells]
    refine wpList_plain hgd fun K hK => ?_
    unfold Oper.wp execOp
    simp only [ho, resolve, invoke, builtin, Sem.run_bind, Sem.run_pure, Result.andThen_ok, List.map_toArray, List.map_cons, List.map_nil, hs, hx]
    rw [hrun]
    exact hK _ _ (h v W (by simpa using HO) (Below.refl _ _))
  · refine wpList_append_own W hgd s x t ho lo e i0 z 1 bytes ht hi hz0 hz1 hz2 hz (by omega) v n cs hs HO.1 ⟨g, 0, none⟩ m c cs' hx (by simpa using hlen) (fun j u hu => by rw [← hc j u hu]; congr 1; unfold Addr.add; split <;> simp_all) h1 (by simp only [maxLen]; omega) hby hlo ?_
    intro v1 w1 hown hg _
    refine h v1 w1 (Own.of hown) ((Below.refl lo W).grown hg hlo ?_)
    intro k hk
    exact (HO.1.lt k hk).1
/-- append([]T{y}, x...). -/
theorem wp_pushV {P : Program} {ops : Array Oper} {rest : List Oper} {o : Oper} {a : Act} {Q : Exit → Act → World → Prop} {W : World} (lo : Nat) (hgd : o.guard = none) (s x : Operand) (t e : TypeId) (z : Value) (bytes : Nat)
    (ho : o.op = .call { callee := .builtin .append, args := #[s, x], argTypes := #[t, t] })
    (ht : P.underlying t = some (.slice e)) (hinfo : (P.info? e).map (fun i => (i.zero, i.size, i.bytes)) = some (some z, 1, bytes)) (hz : z.cells.size = 1)
    (y vx : Value) (m : Nat) (cs' : List Value) (hs : a.eval s = .slice (some ⟨W.heap.size, 0, none⟩) 1 1) (hx : a.eval x = vx)
    (HX : Own W lo W.heap.size e 1 vx m cs') (h1 : ∀ u ∈ cs', u.oneCell' = true) (hlo : lo ≤ W.heap.size) (hl : m + 1 ≤ 9223372036854775807) (hby : (m + 1) * bytes ≤ 140737488355328)
    (h : ∀ v1 w1, Own w1 lo w1.heap.size e 1 v1 (m + 1) (y :: cs') → Below lo W w1 → wpList P ops Q rest (a.put o.dst v1) w1) :
    wpList P ops Q (o :: rest) a (W.alloc (.cells #[y] e)) := by
  have hb := (Below.refl lo W).alloc hlo (.cells #[y] e)
  refine wp_appendV lo hgd s x t e z bytes ho ht hinfo hz _ 1 [y] vx m lo W.heap.size cs' hs hx (Own.of (World.ownsRow_lit (base := lo) (e := e) (size := 1) W #[y] 1 hlo (by simp [maxLen]) rfl)) (Own.eqv HX (Eqv.of (ballocw W _) (Nat.le_refl _))) h1 (Nat.le_trans hlo (ballocw W _).size) (by omega) (by rw [Nat.add_comm]; exact hby) ?_
  intro v1 w1 H HB
  exact h v1 w1 (by rw [Nat.add_comm]; exact H) (hb.trans HB)
/-! ### A number in decimal, byte by byte -/
theorem dec_one {u : Nat} (h : u < 10) : Lib.decDigits u = [UInt8.ofNat (48 + u)] := by rw [Lib.decDigits, dif_pos h]
theorem dec_more {u : Nat} (h : ¬ u < 10) : Lib.decDigits u = Lib.decDigits (u / 10) ++ [UInt8.ofNat (48 + u % 10)] := by rw [Lib.decDigits, dif_neg h]
/-- The bytes l stand behind what r is still to give of u. -/
def DecI (u : Nat) (r : Int) (l : List UInt8) : Prop := (l = [] ∧ r.natAbs = u) ∨ (l ≠ [] ∧ (r = 0 → Lib.decDigits u = l) ∧ (r ≠ 0 → Lib.decDigits u = Lib.decDigits r.natAbs ++ l))
theorem DecI.step {u : Nat} {r : Int} {l : List UInt8} (h : DecI u r l) (hgo : l = [] ∨ r ≠ 0) : DecI u (r.tdiv 10) (UInt8.ofNat (48 + r.natAbs % 10) :: l) := by
  right
  have hq : (r.tdiv 10).natAbs = r.natAbs / 10 := by rw [Int.natAbs_tdiv]; rfl
  have h0 : r.tdiv 10 = 0 ↔ r.natAbs < 10 := by
    rw [← Int.natAbs_eq_zero, hq]; omega
  have e : Lib.decDigits u = Lib.decDigits r.natAbs ++ l := by
    rcases h with ⟨rfl, h⟩ | ⟨hl, h1, h2⟩
    · rw [h]; simp
    · rcases hgo with q | q
      · exact absurd q hl
      · exact h2 q
  refine ⟨by simp, fun hz => ?_, fun hz => ?_⟩
  · have hlt := h0.1 hz
    rw [e, dec_one hlt, Nat.mod_eq_of_lt hlt]; rfl
  · have hge : ¬ r.natAbs < 10 := fun q => hz (h0.2 q)
    rw [e, dec_more hge, hq]; simp
theorem DecI.done {u : Nat} {r : Int} {l : List UInt8} (h : DecI u r l) (hl : l ≠ []) (hr : r = 0) : Lib.decDigits u = l := by
  rcases h with ⟨q, _⟩ | ⟨_, h1, _⟩
  · exact absurd q hl
  · exact h1 hr
theorem DecI.len {u : Nat} {r : Int} {l : List UInt8} (h : DecI u r l) (hu : u ≤ 9223372036854775808) : l.length ≤ 20 := by
  have hl := decDigits_len 19 u (by simp; omega)
  rcases h with ⟨rfl, _⟩ | ⟨_, h1, h2⟩
  · simp
  · by_cases hr : r = 0
    · rw [h1 hr] at hl; omega
    · rw [h2 hr, List.length_append] at hl; omega
/-- How much is left. -/
def decM (r : Int) (l : List UInt8) : Nat := r.natAbs + (if l = [] then 1 else 0)
theorem decM_step {r : Int} {l : List UInt8} (x : UInt8) (h : l = [] ∨ r ≠ 0) : decM (r.tdiv 10) (x :: l) < decM r l := by
  unfold decM
  have hq : (r.tdiv 10).natAbs = r.natAbs / 10 := by rw [Int.natAbs_tdiv]; rfl
  rw [if_neg (by simp), hq]
  by_cases e : l = []
  · rw [if_pos e]; omega
  · rw [if_neg e]
    have : r ≠ 0 := h.resolve_left e
    omega
def bcl (l : List UInt8) : List Value := l.map fun b => .int .u8 b.toNat
theorem infoB : (Tryz.prog.info? 5).map (fun i => (i.zero, i.size, i.bytes)) = some (some (.int .u8 0), 1, 1) := by kernel_rfl
theorem wrap64_in {x : Int} (h0 : -9223372036854775808 ≤ x) (h1 : x ≤ 9223372036854775807) : wrap64 x = x := by unfold wrap64; omega
theorem dec_div {r n : Int} (h : r.natAbs ≤ n.natAbs) (h0 : -9223372036854775808 ≤ n) (h1 : n ≤ 9223372036854775807) : wrap64 (r.tdiv 10) = r.tdiv 10 ∧ (r.tdiv 10).natAbs ≤ n.natAbs := by
  have hq : (r.tdiv 10).natAbs = r.natAbs / 10 := by rw [Int.natAbs_tdiv]; rfl
  exact ⟨wrap64_in (by omega) (by omega), by omega⟩
/-- The remainder's digit. -/
theorem dec_mod (r : Int) : ∃ m : Nat, m < 10 ∧ r.natAbs % 10 = m ∧ wrap64 (m : Int) = m ∧ wrap64 (48 + (m : Int)) = 48 + m ∧ (r.tmod 10 = m ∧ ((m : Int) < 0 ↔ False) ∨ (r.tmod 10 = -(m : Int) ∧ 0 < m)) := by
  have hm : (r.tmod 10).natAbs = r.natAbs % 10 := by rw [Int.natAbs_tmod]; rfl
  have hl : r.natAbs % 10 < 10 := Nat.mod_lt _ (by decide)
  generalize r.natAbs % 10 = k at *
  generalize r.tmod 10 = d at *
  refine ⟨k, hl, rfl, wrap64_in (by omega) (by omega), wrap64_in (by omega) (by omega), ?_⟩
  by_cases h : d < 0
  · right; exact ⟨by omega, by omega⟩
  · left; exact ⟨by omega, ⟨fun q => by omega, False.elim⟩⟩
theorem dec_bnd {l : List UInt8} (h : l.length ≤ 20) : l.length + 1 ≤ 9223372036854775807 ∧ (l.length + 1) * 1 ≤ 140737488355328 := by omega
theorem bcl_one (l : List UInt8) : ∀ u ∈ bcl l, u.oneCell' = true := by
  intro u hu
  obtain ⟨b, _, rfl⟩ := List.mem_map.1 hu
  rfl
theorem conv_own {w : World} {lo hi n : Nat} {v : Value} (l : List UInt8) (hl : l ≠ []) (h : Own w lo hi 5 1 v n (bcl l)) : (convert 22 9 v).run Tryz.prog w = .ok (.string (bstr l)) w := by
  obtain ⟨A, c, rfl, _, _, hsh⟩ := h.shape
  have hn : l.length = n := by have := h.1.1; simpa [bcl] using this
  subst hn
  rcases hsh with ⟨_, q2⟩ | ⟨g, rfl, _, _, hc, _⟩
  · exact absurd (List.eq_nil_of_length_eq_zero q2) hl
  · refine run_convert_bytes_back w _ _ 5 ⟨g, 0, none⟩ c l (by kernel_rfl) (by kernel_rfl) (by kernel_rfl) fun j hj => ?_
    have := hc j (.int .u8 (l[j].toNat : Int)) (by simp [bcl, hj])
    rw [← this]; congr 1; unfold Addr.add; split <;> simp_all
theorem bcl_digit (m : Nat) (l : List UInt8) : Value.int .u8 ((48 + (m : Int)) % 256) :: bcl l = bcl (UInt8.ofNat (48 + m) :: l) := by
  simp [bcl]
theorem itoa_neg {n : Int} (h : n < 0) : Lib.itoa n = 45 :: Lib.decDigits n.natAbs := by unfold Lib.itoa; rw [if_pos h]
theorem itoa_pos {n : Int} (h : ¬ n < 0) : Lib.itoa n = Lib.decDigits n.natAbs := by unfold Lib.itoa; rw [if_neg h, show n.toNat = n.natAbs by omega]
end Go.Proofs.YtnnioicjmlfllaaGreatDoor
