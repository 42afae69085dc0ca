import Derived.Test.YtmpdaafkphpnoaaDoorCod
set_option linter.unusedVariables false
set_option linter.unusedSimpArgs false
namespace Go.Proofs.YtmpdaafkphpnoaaDoor
open Go.RowKit

def stmT (x : SmV) : List UInt8 := Lib.itoa x.d ++ [61] ++ Lib.itoa x.a ++ [32] ++ opTx x.o.toNat ++ [32] ++ Lib.itoa x.b
def codeT (xs : List SmV) : List UInt8 := Lib.join (xs.map stmT) [59]
theorem itoa_small {n : Int} (h0 : 0 ≤ n) (h1 : n ≤ 31) : (Lib.itoa n).length ≤ 11 := itoa_len (by omega) (by omega)
theorem stmT_len {x : SmV} (h : stmB x = true) : (stmT x).length ≤ 40 := by
  unfold stmB at h
  simp only [Bool.and_eq_true, inB_iff] at h
  have h1 := itoa_small h.2.1.1 h.2.1.2
  have h2 := itoa_small h.2.2.1.1 h.2.2.1.2
  have h3 := itoa_small h.2.2.2.1 h.2.2.2.2
  have h4 := opTx_len x.o.toNat
  unfold stmT
  simp only [List.length_append, List.length_singleton]; omega
theorem codeB_row {xs : List SmV} (h : codeB xs = true) {k : Nat} (hk : k < xs.length) : stmB (sel xs k) = true := by
  simp only [codeB, Bool.and_eq_true, List.all_eq_true] at h; exact h.2 _ (sel_mem hk)
theorem code_take_len {xs : List SmV} (h : codeB xs = true) (k : Nat) : (Lib.join ((xs.take k).map stmT) [59]).length ≤ 656 := by
  have hj := join_len (l := (xs.take k).map stmT) (m := 40) [59] (by
      intro x hx
      obtain ⟨a, ha, rfl⟩ := List.mem_map.1 hx
      simp only [codeB, Bool.and_eq_true, List.all_eq_true] at h
      exact stmT_len (h.2 _ (List.mem_of_mem_take ha)))
  have hl := codeB_len h
  rw [List.length_map, List.length_take, List.length_singleton] at hj
  omega
theorem maps_take_succ {α : Type} (f : SmV → α) {xs : List SmV} {k : Nat} (h : k < xs.length) : (xs.take (k + 1)).map f = (xs.take k).map f ++ [f (sel xs k)] := by rw [sel_take h]; simp
abbrev catS (bd ba bt bb : ByteArray) : ByteArray := bd ++ { data := #[61] } ++ ba ++ { data := #[32] } ++ bt ++ { data := #[32] } ++ bb
theorem catS_stm (x : SmV) : catS (bstr (Lib.itoa x.d)) (bstr (Lib.itoa x.a)) (bstr (opTx x.o.toNat)) (bstr (Lib.itoa x.b)) = bstr (stmT x) := by
  unfold catS stmT
  rw [← bstr_append, ← bstr_append, ← bstr_append, ← bstr_append, ← bstr_append, ← bstr_append]; rfl
theorem one_size (x : UInt8) : ({ data := #[x] } : ByteArray).size = 1 := rfl
structure CatOk (bo bd ba bt bb : ByteArray) : Prop where
  f1 : ¬ 9223372036854775807 < bd.size + 1
  f2 : ¬ 9223372036854775807 < bd.size + 1 + ba.size
  f3 : ¬ 9223372036854775807 < bd.size + 1 + ba.size + 1
  f4 : ¬ 9223372036854775807 < bd.size + 1 + ba.size + 1 + bt.size
  f5 : ¬ 9223372036854775807 < bd.size + 1 + ba.size + 1 + bt.size + 1
  f6 : ¬ 9223372036854775807 < bd.size + 1 + ba.size + 1 + bt.size + 1 + bb.size
  f7 : ¬ 9223372036854775807 < bo.size + (bd.size + 1 + ba.size + 1 + bt.size + 1 + bb.size)
  f8 : ¬ 9223372036854775807 < bo.size + 1 + (bd.size + 1 + ba.size + 1 + bt.size + 1 + bb.size)
theorem catOk {bo bd ba bt bb : ByteArray} (h0 : bo.size ≤ 700) (h1 : bd.size ≤ 11) (h2 : ba.size ≤ 11) (h3 : bt.size ≤ 4) (h4 : bb.size ≤ 11) : CatOk bo bd ba bt bb := by
  constructor <;> omega
abbrev Cl4 (w : World) (b p : Nat) (o d a s : Int) : Prop := w.cell? ⟨b, p, none⟩ = some (.int .i64 o) ∧ w.cell? ⟨b, p + 1, none⟩ = some (.int .i64 d) ∧ w.cell? ⟨b, p + 2, none⟩ = some (.int .i64 a) ∧ w.cell? ⟨b, p + 3, none⟩ = some (.int .i64 s)
theorem cl4 {w W : World} {b p : Nat} {o d a s : Int} (hb : Below w.heap.size w W) (h : Cl4 w b p o d a s) : Cl4 W b p o d a s := ⟨bcell hb h.1, bcell hb h.2.1, bcell hb h.2.2.1, bcell hb h.2.2.2⟩
theorem step_num {k m : Nat} (h : k < m) (hm : m ≤ 16) : Value.int .i64 (wrap64 ((k : Int) + 1)) = .int .i64 ((k + 1 : Nat) : Int) := by rw [wrap64_in (by omega) (by omega)]; rfl
theorem wpAnyH_mono {P : Program} {ops : Array Oper} {Q : Exit → Act → World → Prop} {md : Region.Mode} {S S' : World → Prop} (h : ∀ w, S' w → S w) :
    ∀ (fuel : Nat) (listed : Array Bool) (a : Act) (w : World), wpAnyH P md ops Q S' fuel listed a w → wpAnyH P md ops Q S fuel listed a w
  | 0, _, _, _, x => x
  | fuel + 1, _, _, _, x => ⟨x.1, fun i hi => wpOp_mono (fun a' w' y => ⟨h _ y.1, wpAnyH_mono h fuel _ a' w' y.2⟩) (x.2 i hi)⟩
set_option maxRecDepth 100000 in
set_option maxHeartbeats 1000000 in
theorem s_l03Text (w : World) (A : Option Addr) (c : Nat) (xs : List SmV) (hv : codeB xs = true) (hR : RdC w A xs) :
    Calls Tryd.prog 30 #[.slice A xs.length c] w fun e w' => e = .returned (.string (bstr (codeT xs))) ∧ Below w.heap.size w w' := by
  have h16 := codeB_len hv
  have HV := hid hv
  clear hv
  go_enter Tryd.func30, Tryd.ntmps30
  go_wp2
  go_loopg [3, 4] xs.length (fun gg v s wr => ∃ (k : Nat) (t : List UInt8), k ≤ xs.length ∧ xs.length - k ≤ gg ∧ s = .int .i64 k ∧ v = .string (bstr t) ∧ Aside (t = Lib.join ((xs.take k).map stmT) [59]) ∧ Aside (Below w.heap.size w wr))
  case atStart => exact ⟨0, [], Nat.zero_le _, by omega, rfl, rfl, rfl, Below.refl _ _⟩
  case round =>
    obtain ⟨k, t, hk, hg, rfl, rfl, TX, BW⟩ := hrel
    by_cases hlt : k < xs.length
    · obtain ⟨b, off, rfl, hc⟩ := (hR.below BW.out).get hlt
      have hrow := codeB_row HV.out hlt
      have htl := code_take_len HV.out k
      rw [← TX.out] at htl
      have hcs := catS_stm (sel xs k)
      have HS : Hid ((if 0 < k then t ++ [59] else t) ++ stmT (sel xs k) = Lib.join ((xs.take (k + 1)).map stmT) [59]) := hid (by
        rw [TX.out, maps_take_succ _ hlt]
        by_cases q : 0 < k
        · rw [if_pos q, join_snoc]
          intro z
          have := congrArg List.length z
          rw [List.length_map, List.length_take, List.length_nil] at this; omega
        · obtain rfl : k = 0 := by omega
          simp [Lib.join_one, Lib.join_nil])
      generalize sel xs k = x at *
      obtain ⟨o, d, a, s⟩ := x
      unfold stmB at hrow
      simp only [Bool.and_eq_true, inB_iff] at hrow
      obtain ⟨⟨ho0, ho1⟩, ⟨hd0, hd1⟩, ⟨ha0, ha1⟩, hs0, hs1⟩ := hrow
      obtain ⟨n, rfl⟩ : ∃ n : Nat, o = n := ⟨o.toNat, by omega⟩
      have hn : n < 18 := by omega
      have hc4 : Cl4 wr b (off + k * 4) n d a s := ⟨hc.o, hc.d, hc.a, hc.b⟩
      have C1 := fun W => s_l01Dec W d (by omega) (by omega)
      have C2 := fun W => s_l01Dec W a (by omega) (by omega)
      have C3 := fun W => s_l01Dec W s (by omega) (by omega)
      have z1 : (bstr (Lib.itoa d)).size ≤ 11 := by rw [bstr_size]; exact itoa_small hd0 hd1
      have z2 : (bstr (Lib.itoa a)).size ≤ 11 := by rw [bstr_size]; exact itoa_small ha0 ha1
      have z3 : (bstr (Lib.itoa s)).size ≤ 11 := by rw [bstr_size]; exact itoa_small hs0 hs1
      have z4 : (bstr (opTx n)).size ≤ 4 := by rw [bstr_size]; exact opTx_len n
      have hop : ∀ (W : World) (g : Nat), Ops W g → W.cell? ⟨g, n, none⟩ = some (.string (bstr (opTx n))) := fun W g h => h n hn
      simp only [show (n : Int).toNat = n from rfl] at hcs
      generalize bstr (Lib.itoa d) = bd at *
      generalize bstr (Lib.itoa a) = ba at *
      generalize bstr (Lib.itoa s) = bb at *
      generalize bstr (opTx n) = bt at *
      have HC1 := hid C1
      have HC2 := hid C2
      have HC3 := hid C3
      have HOP := hid hop
      have HCS := hid hcs
      have hn' : (n : Int) < 18 := by omega
      have hk' : (k : Int) < (xs.length : Int) := by omega
      clear hc hR ho0 ho1 hd0 hd1 ha0 ha1 hs0 hs1 C1 C2 C3 hop hcs TX
      by_cases hk0 : 0 < k
      · have hok := catOk (bo := bstr t) (by rw [bstr_size]; omega) z1 z2 z4 z3
        have f0 : ¬ 9223372036854775807 < (bstr t).size + 1 := by rw [bstr_size]; omega
        obtain ⟨f1, f2, f3, f4, f5, f6, f7, f8⟩ := hok
        have HT : Hid (bstr t ++ { data := #[59] } = bstr (t ++ [59])) := hid (bstr_append t [59])
        rw [if_pos hk0] at HS
        have HBd := hid (bthen BW.out (bdrewL wr))
        have SD := hid (cl4 (bdrewL wr) hc4)
        have HG := hid hg
        have H16 := hid h16
        have HKL := hid hlt
        clear hc4 z1 z2 z3 z4 htl hn hg h16 hk hlt
        go_wp2_with fail
        refine wp_region_noPanic ?_
        refine wp_region_held_drew (S := fun W => W.cell? ⟨b, off + k * 4, none⟩ = some (.int .i64 n) ∧ W.cell? ⟨b, off + k * 4 + 1, none⟩ = some (.int .i64 d) ∧ W.cell? ⟨b, off + k * 4 + 2, none⟩ = some (.int .i64 a) ∧ W.cell? ⟨b, off + k * 4 + 3, none⟩ = some (.int .i64 s)) (by kernel_rfl) ?_ (fun hHeld => ?_)
        · exact SD.out
        refine wpAnyH_take (i := 0) (oi := { dst := some 15, op := Go.Op.move (Go.Operand.tmp 3), type := 9, pos := "l03_scalar.go:230", after := #[], guard := none }) (v := ?_) rfl (by kernel_rfl) (by kernel_rfl) (by kernel_rfl) (fun _ _ _ h => h) (Or.inl ⟨by rfl, ?_⟩) (by assumption) ?_
        rotate_left
        · intro w hSw
          (try dsimp only at hSw)
          go_simp
          all_goals with_reducible rfl
        try simp only [Act.put, List.setIfInBounds_toArray, List.set_cons_zero, List.set_cons_succ]
        refine wpAnyH_take (i := 1) (oi := { dst := some 16, op := Go.Op.move (Go.Operand.tmp 0), type := 35, pos := "l03_scalar.go:230", after := #[], guard := none }) (v := ?_) rfl (by kernel_rfl) (by kernel_rfl) (by kernel_rfl) (fun _ _ _ h => h) (Or.inl ⟨by rfl, ?_⟩) (by assumption) ?_
        rotate_left
        · intro w hSw
          (try dsimp only at hSw)
          go_simp
          all_goals with_reducible rfl
        try simp only [Act.put, List.setIfInBounds_toArray, List.set_cons_zero, List.set_cons_succ]
        refine wpAnyH_take (i := 2) (oi := { dst := some 17, op := Go.Op.move (Go.Operand.tmp 4), type := 3, pos := "l03_scalar.go:230", after := #[], guard := none }) (v := ?_) rfl (by kernel_rfl) (by kernel_rfl) (by kernel_rfl) (fun _ _ _ h => h) (Or.inl ⟨by rfl, ?_⟩) (by assumption) ?_
        rotate_left
        · intro w hSw
          (try dsimp only at hSw)
          go_simp
          all_goals with_reducible rfl
        try simp only [Act.put, List.setIfInBounds_toArray, List.set_cons_zero, List.set_cons_succ]
        refine wpAnyH_take (i := 3) (oi := { dst := some 18, op := Go.Op.indexAddr 35 (Go.Operand.tmp 16) (Go.Operand.tmp 17), type := 0, pos := "l03_scalar.go:230", after := #[{ on := 1, ground := Go.Ground.data }, { on := 2, ground := Go.Ground.data }], guard := none }) (v := ?_) rfl (by kernel_rfl) (by kernel_rfl) (by kernel_rfl) (fun _ _ _ h => h) (Or.inl ⟨by rfl, ?_⟩) (by assumption) ?_
        rotate_left
        · intro w hSw
          (try dsimp only at hSw)
          go_simp
          all_goals with_reducible rfl
        try simp only [Act.put, List.setIfInBounds_toArray, List.set_cons_zero, List.set_cons_succ]
        refine wpAnyH_take (i := 4) (oi := { dst := some 19, op := Go.Op.fieldAddr 57 (Go.Operand.tmp 18) 1, type := 0, pos := "l03_scalar.go:230", after := #[{ on := 3, ground := Go.Ground.data }], guard := none }) (v := ?_) rfl (by kernel_rfl) (by kernel_rfl) (by kernel_rfl) (fun _ _ _ h => h) (Or.inl ⟨by rfl, ?_⟩) (by assumption) ?_
        rotate_left
        · intro w hSw
          (try dsimp only at hSw)
          go_simp
          all_goals with_reducible rfl
        try simp only [Act.put, List.setIfInBounds_toArray, List.set_cons_zero, List.set_cons_succ]
        refine wpAnyH_take (i := 5) (oi := { dst := some 20, op := Go.Op.load 2 (Go.Operand.tmp 19), type := 2, pos := "l03_scalar.go:230", after := #[{ on := 4, ground := Go.Ground.data }], guard := none }) (v := ?_) rfl (by kernel_rfl) (by kernel_rfl) (by kernel_rfl) (fun _ _ _ h => h) (Or.inl ⟨by rfl, ?_⟩) (by assumption) ?_
        rotate_left
        · intro w hSw
          (try dsimp only at hSw)
          go_simp
          all_goals with_reducible rfl
        try simp only [Act.put, List.setIfInBounds_toArray, List.set_cons_zero, List.set_cons_succ]
        refine wpAnyH_take (i := 8) (oi := { dst := some 23, op := Go.Op.move (Go.Operand.tmp 0), type := 35, pos := "l03_scalar.go:230", after := #[], guard := none }) (v := ?_) rfl (by kernel_rfl) (by kernel_rfl) (by kernel_rfl) (fun _ _ _ h => h) (Or.inl ⟨by rfl, ?_⟩) (by assumption) ?_
        rotate_left
        · intro w hSw
          (try dsimp only at hSw)
          go_simp
          all_goals with_reducible rfl
        try simp only [Act.put, List.setIfInBounds_toArray, List.set_cons_zero, List.set_cons_succ]
        refine wpAnyH_take (i := 9) (oi := { dst := some 24, op := Go.Op.move (Go.Operand.tmp 4), type := 3, pos := "l03_scalar.go:230", after := #[], guard := none }) (v := ?_) rfl (by kernel_rfl) (by kernel_rfl) (by kernel_rfl) (fun _ _ _ h => h) (Or.inl ⟨by rfl, ?_⟩) (by assumption) ?_
        rotate_left
        · intro w hSw
          (try dsimp only at hSw)
          go_simp
          all_goals with_reducible rfl
        try simp only [Act.put, List.setIfInBounds_toArray, List.set_cons_zero, List.set_cons_succ]
        refine wpAnyH_take (i := 10) (oi := { dst := some 25, op := Go.Op.indexAddr 35 (Go.Operand.tmp 23) (Go.Operand.tmp 24), type := 0, pos := "l03_scalar.go:230", after := #[{ on := 8, ground := Go.Ground.data }, { on := 9, ground := Go.Ground.data }], guard := none }) (v := ?_) rfl (by kernel_rfl) (by kernel_rfl) (by kernel_rfl) (fun _ _ _ h => h) (Or.inl ⟨by rfl, ?_⟩) (by assumption) ?_
        rotate_left
        · intro w hSw
          (try dsimp only at hSw)
          go_simp
          all_goals with_reducible rfl
        try simp only [Act.put, List.setIfInBounds_toArray, List.set_cons_zero, List.set_cons_succ]
        refine wpAnyH_take (i := 11) (oi := { dst := some 26, op := Go.Op.fieldAddr 57 (Go.Operand.tmp 25) 2, type := 0, pos := "l03_scalar.go:230", after := #[{ on := 10, ground := Go.Ground.data }], guard := none }) (v := ?_) rfl (by kernel_rfl) (by kernel_rfl) (by kernel_rfl) (fun _ _ _ h => h) (Or.inl ⟨by rfl, ?_⟩) (by assumption) ?_
        rotate_left
        · intro w hSw
          (try dsimp only at hSw)
          go_simp
          all_goals with_reducible rfl
        try simp only [Act.put, List.setIfInBounds_toArray, List.set_cons_zero, List.set_cons_succ]
        refine wpAnyH_take (i := 12) (oi := { dst := some 27, op := Go.Op.load 2 (Go.Operand.tmp 26), type := 2, pos := "l03_scalar.go:230", after := #[{ on := 11, ground := Go.Ground.data }], guard := none }) (v := ?_) rfl (by kernel_rfl) (by kernel_rfl) (by kernel_rfl) (fun _ _ _ h => h) (Or.inl ⟨by rfl, ?_⟩) (by assumption) ?_
        rotate_left
        · intro w hSw
          (try dsimp only at hSw)
          go_simp
          all_goals with_reducible rfl
        try simp only [Act.put, List.setIfInBounds_toArray, List.set_cons_zero, List.set_cons_succ]
        refine wpAnyH_take (i := 17) (oi := { dst := some 32, op := Go.Op.move (Go.Operand.tmp 0), type := 35, pos := "l03_scalar.go:230", after := #[], guard := none }) (v := ?_) rfl (by kernel_rfl) (by kernel_rfl) (by kernel_rfl) (fun _ _ _ h => h) (Or.inl ⟨by rfl, ?_⟩) (by assumption) ?_
        rotate_left
        · intro w hSw
          (try dsimp only at hSw)
          go_simp
          all_goals with_reducible rfl
        try simp only [Act.put, List.setIfInBounds_toArray, List.set_cons_zero, List.set_cons_succ]
        refine wpAnyH_take (i := 18) (oi := { dst := some 33, op := Go.Op.move (Go.Operand.tmp 4), type := 3, pos := "l03_scalar.go:230", after := #[], guard := none }) (v := ?_) rfl (by kernel_rfl) (by kernel_rfl) (by kernel_rfl) (fun _ _ _ h => h) (Or.inl ⟨by rfl, ?_⟩) (by assumption) ?_
        rotate_left
        · intro w hSw
          (try dsimp only at hSw)
          go_simp
          all_goals with_reducible rfl
        try simp only [Act.put, List.setIfInBounds_toArray, List.set_cons_zero, List.set_cons_succ]
        refine wpAnyH_take (i := 19) (oi := { dst := some 34, op := Go.Op.indexAddr 35 (Go.Operand.tmp 32) (Go.Operand.tmp 33), type := 0, pos := "l03_scalar.go:230", after := #[{ on := 17, ground := Go.Ground.data }, { on := 18, ground := Go.Ground.data }], guard := none }) (v := ?_) rfl (by kernel_rfl) (by kernel_rfl) (by kernel_rfl) (fun _ _ _ h => h) (Or.inl ⟨by rfl, ?_⟩) (by assumption) ?_
        rotate_left
        · intro w hSw
          (try dsimp only at hSw)
          go_simp
          all_goals with_reducible rfl
        try simp only [Act.put, List.setIfInBounds_toArray, List.set_cons_zero, List.set_cons_succ]
        refine wpAnyH_take (i := 20) (oi := { dst := some 35, op := Go.Op.fieldAddr 57 (Go.Operand.tmp 34) 0, type := 0, pos := "l03_scalar.go:230", after := #[{ on := 19, ground := Go.Ground.data }], guard := none }) (v := ?_) rfl (by kernel_rfl) (by kernel_rfl) (by kernel_rfl) (fun _ _ _ h => h) (Or.inl ⟨by rfl, ?_⟩) (by assumption) ?_
        rotate_left
        · intro w hSw
          (try dsimp only at hSw)
          go_simp
          all_goals with_reducible rfl
        try simp only [Act.put, List.setIfInBounds_toArray, List.set_cons_zero, List.set_cons_succ]
        refine wpAnyH_take (i := 21) (oi := { dst := some 36, op := Go.Op.load 2 (Go.Operand.tmp 35), type := 2, pos := "l03_scalar.go:230", after := #[{ on := 20, ground := Go.Ground.data }], guard := none }) (v := ?_) rfl (by kernel_rfl) (by kernel_rfl) (by kernel_rfl) (fun _ _ _ h => h) (Or.inl ⟨by rfl, ?_⟩) (by assumption) ?_
        rotate_left
        · intro w hSw
          (try dsimp only at hSw)
          go_simp
          all_goals with_reducible rfl
        try simp only [Act.put, List.setIfInBounds_toArray, List.set_cons_zero, List.set_cons_succ]
        refine wpAnyH_take (i := 26) (oi := { dst := some 41, op := Go.Op.move (Go.Operand.tmp 0), type := 35, pos := "l03_scalar.go:230", after := #[], guard := none }) (v := ?_) rfl (by kernel_rfl) (by kernel_rfl) (by kernel_rfl) (fun _ _ _ h => h) (Or.inl ⟨by rfl, ?_⟩) (by assumption) ?_
        rotate_left
        · intro w hSw
          (try dsimp only at hSw)
          go_simp
          all_goals with_reducible rfl
        try simp only [Act.put, List.setIfInBounds_toArray, List.set_cons_zero, List.set_cons_succ]
        refine wpAnyH_take (i := 27) (oi := { dst := some 42, op := Go.Op.move (Go.Operand.tmp 4), type := 3, pos := "l03_scalar.go:230", after := #[], guard := none }) (v := ?_) rfl (by kernel_rfl) (by kernel_rfl) (by kernel_rfl) (fun _ _ _ h => h) (Or.inl ⟨by rfl, ?_⟩) (by assumption) ?_
        rotate_left
        · intro w hSw
          (try dsimp only at hSw)
          go_simp
          all_goals with_reducible rfl
        try simp only [Act.put, List.setIfInBounds_toArray, List.set_cons_zero, List.set_cons_succ]
        refine wpAnyH_take (i := 28) (oi := { dst := some 43, op := Go.Op.indexAddr 35 (Go.Operand.tmp 41) (Go.Operand.tmp 42), type := 0, pos := "l03_scalar.go:230", after := #[{ on := 26, ground := Go.Ground.data }, { on := 27, ground := Go.Ground.data }], guard := none }) (v := ?_) rfl (by kernel_rfl) (by kernel_rfl) (by kernel_rfl) (fun _ _ _ h => h) (Or.inl ⟨by rfl, ?_⟩) (by assumption) ?_
        rotate_left
        · intro w hSw
          (try dsimp only at hSw)
          go_simp
          all_goals with_reducible rfl
        try simp only [Act.put, List.setIfInBounds_toArray, List.set_cons_zero, List.set_cons_succ]
        refine wpAnyH_take (i := 29) (oi := { dst := some 44, op := Go.Op.fieldAddr 57 (Go.Operand.tmp 43) 3, type := 0, pos := "l03_scalar.go:230", after := #[{ on := 28, ground := Go.Ground.data }], guard := none }) (v := ?_) rfl (by kernel_rfl) (by kernel_rfl) (by kernel_rfl) (fun _ _ _ h => h) (Or.inl ⟨by rfl, ?_⟩) (by assumption) ?_
        rotate_left
        · intro w hSw
          (try dsimp only at hSw)
          go_simp
          all_goals with_reducible rfl
        try simp only [Act.put, List.setIfInBounds_toArray, List.set_cons_zero, List.set_cons_succ]
        refine wpAnyH_take (i := 30) (oi := { dst := some 45, op := Go.Op.load 2 (Go.Operand.tmp 44), type := 2, pos := "l03_scalar.go:230", after := #[{ on := 29, ground := Go.Ground.data }], guard := none }) (v := ?_) rfl (by kernel_rfl) (by kernel_rfl) (by kernel_rfl) (fun _ _ _ h => h) (Or.inl ⟨by rfl, ?_⟩) (by assumption) ?_
        rotate_left
        · intro w hSw
          (try dsimp only at hSw)
          go_simp
          all_goals with_reducible rfl
        try simp only [Act.put, List.setIfInBounds_toArray, List.set_cons_zero, List.set_cons_succ]
        refine wpAnyH_ready (rs := [6]) (by kernel_rfl) (by simp) ?_
        refine AllReadyH.cons (o := { dst := some 21, op := Go.Op.call { callee := Go.Callee.value (Go.Operand.func 53), args := #[Go.Operand.tmp 20], argTypes := #[2] }, type := 9, pos := "l03_scalar.go:230", after := #[{ on := 5, ground := Go.Ground.data }], guard := none }) rfl (fun K hK => ?_) AllReadyH.nil
        go_simp; go_at_call 53; with_reducible refine (HC1.out _).mono ?_; rintro e w1 ⟨rfl, hb1⟩; have S1 := hid (cl4 hb1 SD.out); have B1 := hid (bthen HBd.out hb1); go_wp2_with fail
        refine hK.out _ _ ?_ (fun hHeld => ?_)
        · exact S1.out
        clear hK K
        try simp only [Act.put, List.setIfInBounds_toArray, List.set_cons_zero, List.set_cons_succ]
        refine wpAnyH_take (i := 7) (oi := { dst := some 22, op := Go.Op.binOp Go.BinOp.add 9 (Go.Operand.tmp 21) (Go.Operand.const (Go.Value.string { data := #[61] })) 9, type := 9, pos := "l03_scalar.go:230", after := #[{ on := 6, ground := Go.Ground.data }], guard := none }) (v := ?_) rfl (by kernel_rfl) (by kernel_rfl) (by kernel_rfl) (fun _ _ _ h => h) (Or.inl ⟨by rfl, ?_⟩) (by assumption) ?_
        rotate_left
        · intro w hSw
          (try dsimp only at hSw)
          go_simp
          all_goals with_reducible rfl
        try simp only [Act.put, List.setIfInBounds_toArray, List.set_cons_zero, List.set_cons_succ]
        refine wpAnyH_ready (rs := [13]) (by kernel_rfl) (by simp) ?_
        refine AllReadyH.cons (o := { dst := some 28, op := Go.Op.call { callee := Go.Callee.value (Go.Operand.func 53), args := #[Go.Operand.tmp 27], argTypes := #[2] }, type := 9, pos := "l03_scalar.go:230", after := #[{ on := 12, ground := Go.Ground.data }, { on := 6, ground := Go.Ground.chain }], guard := none }) rfl (fun K hK => ?_) AllReadyH.nil
        go_simp; go_at_call 53; with_reducible refine (HC2.out _).mono ?_; rintro e w2 ⟨rfl, hb2⟩; have S2 := hid (cl4 hb2 S1.out); have B2 := hid (bthen B1.out hb2); go_wp2_with fail
        refine hK.out _ _ ?_ (fun hHeld => ?_)
        · exact S2.out
        clear hK K
        try simp only [Act.put, List.setIfInBounds_toArray, List.set_cons_zero, List.set_cons_succ]
        refine wpAnyH_take (i := 14) (oi := { dst := some 29, op := Go.Op.binOp Go.BinOp.add 9 (Go.Operand.tmp 22) (Go.Operand.tmp 28) 9, type := 9, pos := "l03_scalar.go:230", after := #[{ on := 7, ground := Go.Ground.data }, { on := 13, ground := Go.Ground.data }], guard := none }) (v := ?_) rfl (by kernel_rfl) (by kernel_rfl) (by kernel_rfl) (fun _ _ _ h => h) (Or.inl ⟨by rfl, ?_⟩) (by assumption) ?_
        rotate_left
        · intro w hSw
          (try dsimp only at hSw)
          go_simp
          all_goals with_reducible rfl
        try simp only [Act.put, List.setIfInBounds_toArray, List.set_cons_zero, List.set_cons_succ]
        refine wpAnyH_take (i := 15) (oi := { dst := some 30, op := Go.Op.binOp Go.BinOp.add 9 (Go.Operand.tmp 29) (Go.Operand.const (Go.Value.string { data := #[32] })) 9, type := 9, pos := "l03_scalar.go:230", after := #[{ on := 14, ground := Go.Ground.data }], guard := none }) (v := ?_) rfl (by kernel_rfl) (by kernel_rfl) (by kernel_rfl) (fun _ _ _ h => h) (Or.inl ⟨by rfl, ?_⟩) (by assumption) ?_
        rotate_left
        · intro w hSw
          (try dsimp only at hSw)
          go_simp
          all_goals with_reducible rfl
        try simp only [Act.put, List.setIfInBounds_toArray, List.set_cons_zero, List.set_cons_succ]
        refine wpAnyH_ready (rs := [16]) (by kernel_rfl) (by simp) ?_
        refine AllReadyH.cons (o := { dst := some 31, op := Go.Op.call { callee := Go.Callee.value (Go.Operand.func 54), args := #[], argTypes := #[] }, type := 50, pos := "l03_scalar.go:230", after := #[{ on := 13, ground := Go.Ground.chain }], guard := none }) rfl (fun K hK => ?_) AllReadyH.nil
        go_simp; go_at_call 54; with_reducible refine (s_l01OpTexts _).mono ?_; rintro e w3 ⟨g, rfl, hg3, hb3⟩; have S3 := hid (cl4 hb3 S2.out); have B3 := hid (bthen B2.out hb3); have k3 := HOP.out _ _ hg3; have K3 := hid k3; go_wp2_with fail
        refine hK.out _ _ ?_ (fun hHeld => ?_)
        · exact S3.out
        clear hK K
        try simp only [Act.put, List.setIfInBounds_toArray, List.set_cons_zero, List.set_cons_succ]
        refine wpAnyH_mono (S' := fun W => (W.cell? ⟨b, off + k * 4, none⟩ = some (.int .i64 n) ∧ W.cell? ⟨b, off + k * 4 + 1, none⟩ = some (.int .i64 d) ∧ W.cell? ⟨b, off + k * 4 + 2, none⟩ = some (.int .i64 a) ∧ W.cell? ⟨b, off + k * 4 + 3, none⟩ = some (.int .i64 s)) ∧ W.cell? ⟨g, n, none⟩ = some (.string bt)) (fun W h => h.1) _ _ _ _ ?_; have hHeld2 : (fun W : World => (W.cell? ⟨b, off + k * 4, none⟩ = some (.int .i64 n) ∧ W.cell? ⟨b, off + k * 4 + 1, none⟩ = some (.int .i64 d) ∧ W.cell? ⟨b, off + k * 4 + 2, none⟩ = some (.int .i64 a) ∧ W.cell? ⟨b, off + k * 4 + 3, none⟩ = some (.int .i64 s)) ∧ W.cell? ⟨g, n, none⟩ = some (.string bt)) w3 := ⟨S3.out, K3.out⟩; clear k3 hg3
        refine wpAnyH_take (i := 22) (oi := { dst := some 37, op := Go.Op.indexAddr 50 (Go.Operand.tmp 31) (Go.Operand.tmp 36), type := 0, pos := "l03_scalar.go:230", after := #[{ on := 16, ground := Go.Ground.data }, { on := 21, ground := Go.Ground.data }], guard := none }) (v := ?_) rfl (by kernel_rfl) (by kernel_rfl) (by kernel_rfl) (fun _ _ _ h => h) (Or.inl ⟨by rfl, ?_⟩) (by assumption) ?_
        rotate_left
        · intro w hSw
          (try dsimp only at hSw)
          go_simp
          all_goals with_reducible rfl
        try simp only [Act.put, List.setIfInBounds_toArray, List.set_cons_zero, List.set_cons_succ]
        refine wpAnyH_take (i := 23) (oi := { dst := some 38, op := Go.Op.load 9 (Go.Operand.tmp 37), type := 9, pos := "l03_scalar.go:230", after := #[{ on := 22, ground := Go.Ground.data }], guard := none }) (v := ?_) rfl (by kernel_rfl) (by kernel_rfl) (by kernel_rfl) (fun _ _ _ h => h) (Or.inl ⟨by rfl, ?_⟩) (by assumption) ?_
        rotate_left
        · intro w hSw
          (try dsimp only at hSw)
          go_simp
          all_goals with_reducible rfl
        try simp only [Act.put, List.setIfInBounds_toArray, List.set_cons_zero, List.set_cons_succ]
        refine wpAnyH_take (i := 24) (oi := { dst := some 39, op := Go.Op.binOp Go.BinOp.add 9 (Go.Operand.tmp 30) (Go.Operand.tmp 38) 9, type := 9, pos := "l03_scalar.go:230", after := #[{ on := 15, ground := Go.Ground.data }, { on := 23, ground := Go.Ground.data }], guard := none }) (v := ?_) rfl (by kernel_rfl) (by kernel_rfl) (by kernel_rfl) (fun _ _ _ h => h) (Or.inl ⟨by rfl, ?_⟩) (by assumption) ?_
        rotate_left
        · intro w hSw
          (try dsimp only at hSw)
          go_simp
          all_goals with_reducible rfl
        try simp only [Act.put, List.setIfInBounds_toArray, List.set_cons_zero, List.set_cons_succ]
        refine wpAnyH_take (i := 25) (oi := { dst := some 40, op := Go.Op.binOp Go.BinOp.add 9 (Go.Operand.tmp 39) (Go.Operand.const (Go.Value.string { data := #[32] })) 9, type := 9, pos := "l03_scalar.go:230", after := #[{ on := 24, ground := Go.Ground.data }], guard := none }) (v := ?_) rfl (by kernel_rfl) (by kernel_rfl) (by kernel_rfl) (fun _ _ _ h => h) (Or.inl ⟨by rfl, ?_⟩) (by assumption) ?_
        rotate_left
        · intro w hSw
          (try dsimp only at hSw)
          go_simp
          all_goals with_reducible rfl
        try simp only [Act.put, List.setIfInBounds_toArray, List.set_cons_zero, List.set_cons_succ]
        refine wpAnyH_ready (rs := [31]) (by kernel_rfl) (by simp) ?_
        refine AllReadyH.cons (o := { dst := some 46, op := Go.Op.call { callee := Go.Callee.value (Go.Operand.func 53), args := #[Go.Operand.tmp 45], argTypes := #[2] }, type := 9, pos := "l03_scalar.go:230", after := #[{ on := 30, ground := Go.Ground.data }, { on := 16, ground := Go.Ground.chain }], guard := none }) rfl (fun K hK => ?_) AllReadyH.nil
        go_simp; go_at_call 53; with_reducible refine (HC3.out _).mono ?_; rintro e w4 ⟨rfl, hb4⟩; have S4 := hid (cl4 hb4 S3.out); have B4 := hid (bthen B3.out hb4); have K4 := hid (bcell hb4 K3.out); go_wp2_with fail
        refine hK.out _ _ ?_ (fun hHeld => ?_)
        · exact ⟨S4.out, K4.out⟩
        clear hK K
        try simp only [Act.put, List.setIfInBounds_toArray, List.set_cons_zero, List.set_cons_succ]
        refine wpAnyH_take (i := 32) (oi := { dst := some 47, op := Go.Op.binOp Go.BinOp.add 9 (Go.Operand.tmp 40) (Go.Operand.tmp 46) 9, type := 9, pos := "l03_scalar.go:230", after := #[{ on := 25, ground := Go.Ground.data }, { on := 31, ground := Go.Ground.data }], guard := none }) (v := ?_) rfl (by kernel_rfl) (by kernel_rfl) (by kernel_rfl) (fun _ _ _ h => h) (Or.inl ⟨by rfl, ?_⟩) (by assumption) ?_
        rotate_left
        · intro w hSw
          (try dsimp only at hSw)
          go_simp
          all_goals with_reducible rfl
        try simp only [Act.put, List.setIfInBounds_toArray, List.set_cons_zero, List.set_cons_succ]
        refine wpAnyH_take (i := 33) (oi := { dst := some 48, op := Go.Op.binOp Go.BinOp.add 9 (Go.Operand.tmp 15) (Go.Operand.tmp 47) 9, type := 9, pos := "l03_scalar.go:230", after := #[{ on := 0, ground := Go.Ground.data }, { on := 32, ground := Go.Ground.data }], guard := none }) (v := ?_) rfl (by kernel_rfl) (by kernel_rfl) (by kernel_rfl) (fun _ _ _ h => h) (Or.inl ⟨by rfl, ?_⟩) (by assumption) ?_
        rotate_left
        · intro w hSw
          (try dsimp only at hSw)
          go_simp
          all_goals with_reducible rfl
        try simp only [Act.put, List.setIfInBounds_toArray, List.set_cons_zero, List.set_cons_succ]
        refine wpAnyH_take (i := 34) (oi := { dst := some 3, op := Go.Op.assign (Go.Operand.tmp 48), type := 9, pos := "l03_scalar.go:230", after := #[{ on := 33, ground := Go.Ground.data }, { on := 31, ground := Go.Ground.chain }, { on := 0, ground := Go.Ground.phase }, { on := 1, ground := Go.Ground.phase }, { on := 2, ground := Go.Ground.phase }, { on := 3, ground := Go.Ground.phase }, { on := 4, ground := Go.Ground.phase }, { on := 5, ground := Go.Ground.phase }, { on := 6, ground := Go.Ground.phase }, { on := 7, ground := Go.Ground.phase }, { on := 8, ground := Go.Ground.phase }, { on := 9, ground := Go.Ground.phase }, { on := 10, ground := Go.Ground.phase }, { on := 11, ground := Go.Ground.phase }, { on := 12, ground := Go.Ground.phase }, { on := 13, ground := Go.Ground.phase }, { on := 14, ground := Go.Ground.phase }, { on := 15, ground := Go.Ground.phase }, { on := 16, ground := Go.Ground.phase }, { on := 17, ground := Go.Ground.phase }, { on := 18, ground := Go.Ground.phase }, { on := 19, ground := Go.Ground.phase }, { on := 20, ground := Go.Ground.phase }, { on := 21, ground := Go.Ground.phase }, { on := 22, ground := Go.Ground.phase }, { on := 23, ground := Go.Ground.phase }, { on := 24, ground := Go.Ground.phase }, { on := 25, ground := Go.Ground.phase }, { on := 26, ground := Go.Ground.phase }, { on := 27, ground := Go.Ground.phase }, { on := 28, ground := Go.Ground.phase }, { on := 29, ground := Go.Ground.phase }, { on := 30, ground := Go.Ground.phase }, { on := 31, ground := Go.Ground.phase }, { on := 32, ground := Go.Ground.phase }, { on := 33, ground := Go.Ground.phase }], guard := none }) (v := ?_) rfl (by kernel_rfl) (by kernel_rfl) (by kernel_rfl) (fun _ _ _ h => h) (Or.inl ⟨by rfl, ?_⟩) (by assumption) ?_
        rotate_left
        · intro w hSw
          (try dsimp only at hSw)
          go_simp
          all_goals with_reducible rfl
        try simp only [Act.put, List.setIfInBounds_toArray, List.set_cons_zero, List.set_cons_succ]
        refine wpAnyH_done (by kernel_rfl) ?_ _
        refine NoPanic.normal ?_
        have HBE := hid B4.out
        go_wp2_with fail
        go_roundg (xs.length - (k + 1))
        case measure => exact Nat.lt_of_lt_of_le (Nat.sub_lt_sub_left HKL.out (Nat.lt_succ_self k)) HG.out
        case rel =>
          refine ⟨k + 1, _, Nat.succ_le_of_lt HKL.out, Nat.le_refl _, by first | exact step_num HKL.out H16.out | go_num, ?_, HS.out, HBE.out⟩
          show Value.string (bstr t ++ { data := #[59] } ++ catS bd ba bt bb) = _
          rw [HCS.out, HT.out, bstr_append]
      · have hok := catOk (bo := bstr t) (by rw [bstr_size]; omega) z1 z2 z4 z3
        obtain ⟨f1, f2, f3, f4, f5, f6, f7, f8⟩ := hok
        rw [if_neg hk0] at HS
        have HBd := hid (bthen BW.out (bdrewL wr))
        have SD := hid (cl4 (bdrewL wr) hc4)
        have HG := hid hg
        have H16 := hid h16
        have HKL := hid hlt
        clear hc4 z1 z2 z3 z4 htl hn hg h16 hk hlt
        go_wp2_with fail
        refine wp_region_noPanic ?_
        refine wp_region_held_drew (S := fun W => W.cell? ⟨b, off + k * 4, none⟩ = some (.int .i64 n) ∧ W.cell? ⟨b, off + k * 4 + 1, none⟩ = some (.int .i64 d) ∧ W.cell? ⟨b, off + k * 4 + 2, none⟩ = some (.int .i64 a) ∧ W.cell? ⟨b, off + k * 4 + 3, none⟩ = some (.int .i64 s)) (by kernel_rfl) ?_ (fun hHeld => ?_)
        · exact SD.out
        refine wpAnyH_take (i := 0) (oi := { dst := some 15, op := Go.Op.move (Go.Operand.tmp 3), type := 9, pos := "l03_scalar.go:230", after := #[], guard := none }) (v := ?_) rfl (by kernel_rfl) (by kernel_rfl) (by kernel_rfl) (fun _ _ _ h => h) (Or.inl ⟨by rfl, ?_⟩) (by assumption) ?_
        rotate_left
        · intro w hSw
          (try dsimp only at hSw)
          go_simp
          all_goals with_reducible rfl
        try simp only [Act.put, List.setIfInBounds_toArray, List.set_cons_zero, List.set_cons_succ]
        refine wpAnyH_take (i := 1) (oi := { dst := some 16, op := Go.Op.move (Go.Operand.tmp 0), type := 35, pos := "l03_scalar.go:230", after := #[], guard := none }) (v := ?_) rfl (by kernel_rfl) (by kernel_rfl) (by kernel_rfl) (fun _ _ _ h => h) (Or.inl ⟨by rfl, ?_⟩) (by assumption) ?_
        rotate_left
        · intro w hSw
          (try dsimp only at hSw)
          go_simp
          all_goals with_reducible rfl
        try simp only [Act.put, List.setIfInBounds_toArray, List.set_cons_zero, List.set_cons_succ]
        refine wpAnyH_take (i := 2) (oi := { dst := some 17, op := Go.Op.move (Go.Operand.tmp 4), type := 3, pos := "l03_scalar.go:230", after := #[], guard := none }) (v := ?_) rfl (by kernel_rfl) (by kernel_rfl) (by kernel_rfl) (fun _ _ _ h => h) (Or.inl ⟨by rfl, ?_⟩) (by assumption) ?_
        rotate_left
        · intro w hSw
          (try dsimp only at hSw)
          go_simp
          all_goals with_reducible rfl
        try simp only [Act.put, List.setIfInBounds_toArray, List.set_cons_zero, List.set_cons_succ]
        refine wpAnyH_take (i := 3) (oi := { dst := some 18, op := Go.Op.indexAddr 35 (Go.Operand.tmp 16) (Go.Operand.tmp 17), type := 0, pos := "l03_scalar.go:230", after := #[{ on := 1, ground := Go.Ground.data }, { on := 2, ground := Go.Ground.data }], guard := none }) (v := ?_) rfl (by kernel_rfl) (by kernel_rfl) (by kernel_rfl) (fun _ _ _ h => h) (Or.inl ⟨by rfl, ?_⟩) (by assumption) ?_
        rotate_left
        · intro w hSw
          (try dsimp only at hSw)
          go_simp
          all_goals with_reducible rfl
        try simp only [Act.put, List.setIfInBounds_toArray, List.set_cons_zero, List.set_cons_succ]
        refine wpAnyH_take (i := 4) (oi := { dst := some 19, op := Go.Op.fieldAddr 57 (Go.Operand.tmp 18) 1, type := 0, pos := "l03_scalar.go:230", after := #[{ on := 3, ground := Go.Ground.data }], guard := none }) (v := ?_) rfl (by kernel_rfl) (by kernel_rfl) (by kernel_rfl) (fun _ _ _ h => h) (Or.inl ⟨by rfl, ?_⟩) (by assumption) ?_
        rotate_left
        · intro w hSw
          (try dsimp only at hSw)
          go_simp
          all_goals with_reducible rfl
        try simp only [Act.put, List.setIfInBounds_toArray, List.set_cons_zero, List.set_cons_succ]
        refine wpAnyH_take (i := 5) (oi := { dst := some 20, op := Go.Op.load 2 (Go.Operand.tmp 19), type := 2, pos := "l03_scalar.go:230", after := #[{ on := 4, ground := Go.Ground.data }], guard := none }) (v := ?_) rfl (by kernel_rfl) (by kernel_rfl) (by kernel_rfl) (fun _ _ _ h => h) (Or.inl ⟨by rfl, ?_⟩) (by assumption) ?_
        rotate_left
        · intro w hSw
          (try dsimp only at hSw)
          go_simp
          all_goals with_reducible rfl
        try simp only [Act.put, List.setIfInBounds_toArray, List.set_cons_zero, List.set_cons_succ]
        refine wpAnyH_take (i := 8) (oi := { dst := some 23, op := Go.Op.move (Go.Operand.tmp 0), type := 35, pos := "l03_scalar.go:230", after := #[], guard := none }) (v := ?_) rfl (by kernel_rfl) (by kernel_rfl) (by kernel_rfl) (fun _ _ _ h => h) (Or.inl ⟨by rfl, ?_⟩) (by assumption) ?_
        rotate_left
        · intro w hSw
          (try dsimp only at hSw)
          go_simp
          all_goals with_reducible rfl
        try simp only [Act.put, List.setIfInBounds_toArray, List.set_cons_zero, List.set_cons_succ]
        refine wpAnyH_take (i := 9) (oi := { dst := some 24, op := Go.Op.move (Go.Operand.tmp 4), type := 3, pos := "l03_scalar.go:230", after := #[], guard := none }) (v := ?_) rfl (by kernel_rfl) (by kernel_rfl) (by kernel_rfl) (fun _ _ _ h => h) (Or.inl ⟨by rfl, ?_⟩) (by assumption) ?_
        rotate_left
        · intro w hSw
          (try dsimp only at hSw)
          go_simp
          all_goals with_reducible rfl
        try simp only [Act.put, List.setIfInBounds_toArray, List.set_cons_zero, List.set_cons_succ]
        refine wpAnyH_take (i := 10) (oi := { dst := some 25, op := Go.Op.indexAddr 35 (Go.Operand.tmp 23) (Go.Operand.tmp 24), type := 0, pos := "l03_scalar.go:230", after := #[{ on := 8, ground := Go.Ground.data }, { on := 9, ground := Go.Ground.data }], guard := none }) (v := ?_) rfl (by kernel_rfl) (by kernel_rfl) (by kernel_rfl) (fun _ _ _ h => h) (Or.inl ⟨by rfl, ?_⟩) (by assumption) ?_
        rotate_left
        · intro w hSw
          (try dsimp only at hSw)
          go_simp
          all_goals with_reducible rfl
        try simp only [Act.put, List.setIfInBounds_toArray, List.set_cons_zero, List.set_cons_succ]
        refine wpAnyH_take (i := 11) (oi := { dst := some 26, op := Go.Op.fieldAddr 57 (Go.Operand.tmp 25) 2, type := 0, pos := "l03_scalar.go:230", after := #[{ on := 10, ground := Go.Ground.data }], guard := none }) (v := ?_) rfl (by kernel_rfl) (by kernel_rfl) (by kernel_rfl) (fun _ _ _ h => h) (Or.inl ⟨by rfl, ?_⟩) (by assumption) ?_
        rotate_left
        · intro w hSw
          (try dsimp only at hSw)
          go_simp
          all_goals with_reducible rfl
        try simp only [Act.put, List.setIfInBounds_toArray, List.set_cons_zero, List.set_cons_succ]
        refine wpAnyH_take (i := 12) (oi := { dst := some 27, op := Go.Op.load 2 (Go.Operand.tmp 26), type := 2, pos := "l03_scalar.go:230", after := #[{ on := 11, ground := Go.Ground.data }], guard := none }) (v := ?_) rfl (by kernel_rfl) (by kernel_rfl) (by kernel_rfl) (fun _ _ _ h => h) (Or.inl ⟨by rfl, ?_⟩) (by assumption) ?_
        rotate_left
        · intro w hSw
          (try dsimp only at hSw)
          go_simp
          all_goals with_reducible rfl
        try simp only [Act.put, List.setIfInBounds_toArray, List.set_cons_zero, List.set_cons_succ]
        refine wpAnyH_take (i := 17) (oi := { dst := some 32, op := Go.Op.move (Go.Operand.tmp 0), type := 35, pos := "l03_scalar.go:230", after := #[], guard := none }) (v := ?_) rfl (by kernel_rfl) (by kernel_rfl) (by kernel_rfl) (fun _ _ _ h => h) (Or.inl ⟨by rfl, ?_⟩) (by assumption) ?_
        rotate_left
        · intro w hSw
          (try dsimp only at hSw)
          go_simp
          all_goals with_reducible rfl
        try simp only [Act.put, List.setIfInBounds_toArray, List.set_cons_zero, List.set_cons_succ]
        refine wpAnyH_take (i := 18) (oi := { dst := some 33, op := Go.Op.move (Go.Operand.tmp 4), type := 3, pos := "l03_scalar.go:230", after := #[], guard := none }) (v := ?_) rfl (by kernel_rfl) (by kernel_rfl) (by kernel_rfl) (fun _ _ _ h => h) (Or.inl ⟨by rfl, ?_⟩) (by assumption) ?_
        rotate_left
        · intro w hSw
          (try dsimp only at hSw)
          go_simp
          all_goals with_reducible rfl
        try simp only [Act.put, List.setIfInBounds_toArray, List.set_cons_zero, List.set_cons_succ]
        refine wpAnyH_take (i := 19) (oi := { dst := some 34, op := Go.Op.indexAddr 35 (Go.Operand.tmp 32) (Go.Operand.tmp 33), type := 0, pos := "l03_scalar.go:230", after := #[{ on := 17, ground := Go.Ground.data }, { on := 18, ground := Go.Ground.data }], guard := none }) (v := ?_) rfl (by kernel_rfl) (by kernel_rfl) (by kernel_rfl) (fun _ _ _ h => h) (Or.inl ⟨by rfl, ?_⟩) (by assumption) ?_
        rotate_left
        · intro w hSw
          (try dsimp only at hSw)
          go_simp
          all_goals with_reducible rfl
        try simp only [Act.put, List.setIfInBounds_toArray, List.set_cons_zero, List.set_cons_succ]
        refine wpAnyH_take (i := 20) (oi := { dst := some 35, op := Go.Op.fieldAddr 57 (Go.Operand.tmp 34) 0, type := 0, pos := "l03_scalar.go:230", after := #[{ on := 19, ground := Go.Ground.data }], guard := none }) (v := ?_) rfl (by kernel_rfl) (by kernel_rfl) (by kernel_rfl) (fun _ _ _ h => h) (Or.inl ⟨by rfl, ?_⟩) (by assumption) ?_
        rotate_left
        · intro w hSw
          (try dsimp only at hSw)
          go_simp
          all_goals with_reducible rfl
        try simp only [Act.put, List.setIfInBounds_toArray, List.set_cons_zero, List.set_cons_succ]
        refine wpAnyH_take (i := 21) (oi := { dst := some 36, op := Go.Op.load 2 (Go.Operand.tmp 35), type := 2, pos := "l03_scalar.go:230", after := #[{ on := 20, ground := Go.Ground.data }], guard := none }) (v := ?_) rfl (by kernel_rfl) (by kernel_rfl) (by kernel_rfl) (fun _ _ _ h => h) (Or.inl ⟨by rfl, ?_⟩) (by assumption) ?_
        rotate_left
        · intro w hSw
          (try dsimp only at hSw)
          go_simp
          all_goals with_reducible rfl
        try simp only [Act.put, List.setIfInBounds_toArray, List.set_cons_zero, List.set_cons_succ]
        refine wpAnyH_take (i := 26) (oi := { dst := some 41, op := Go.Op.move (Go.Operand.tmp 0), type := 35, pos := "l03_scalar.go:230", after := #[], guard := none }) (v := ?_) rfl (by kernel_rfl) (by kernel_rfl) (by kernel_rfl) (fun _ _ _ h => h) (Or.inl ⟨by rfl, ?_⟩) (by assumption) ?_
        rotate_left
        · intro w hSw
          (try dsimp only at hSw)
          go_simp
          all_goals with_reducible rfl
        try simp only [Act.put, List.setIfInBounds_toArray, List.set_cons_zero, List.set_cons_succ]
        refine wpAnyH_take (i := 27) (oi := { dst := some 42, op := Go.Op.move (Go.Operand.tmp 4), type := 3, pos := "l03_scalar.go:230", after := #[], guard := none }) (v := ?_) rfl (by kernel_rfl) (by kernel_rfl) (by kernel_rfl) (fun _ _ _ h => h) (Or.inl ⟨by rfl, ?_⟩) (by assumption) ?_
        rotate_left
        · intro w hSw
          (try dsimp only at hSw)
          go_simp
          all_goals with_reducible rfl
        try simp only [Act.put, List.setIfInBounds_toArray, List.set_cons_zero, List.set_cons_succ]
        refine wpAnyH_take (i := 28) (oi := { dst := some 43, op := Go.Op.indexAddr 35 (Go.Operand.tmp 41) (Go.Operand.tmp 42), type := 0, pos := "l03_scalar.go:230", after := #[{ on := 26, ground := Go.Ground.data }, { on := 27, ground := Go.Ground.data }], guard := none }) (v := ?_) rfl (by kernel_rfl) (by kernel_rfl) (by kernel_rfl) (fun _ _ _ h => h) (Or.inl ⟨by rfl, ?_⟩) (by assumption) ?_
        rotate_left
        · intro w hSw
          (try dsimp only at hSw)
          go_simp
          all_goals with_reducible rfl
        try simp only [Act.put, List.setIfInBounds_toArray, List.set_cons_zero, List.set_cons_succ]
        refine wpAnyH_take (i := 29) (oi := { dst := some 44, op := Go.Op.fieldAddr 57 (Go.Operand.tmp 43) 3, type := 0, pos := "l03_scalar.go:230", after := #[{ on := 28, ground := Go.Ground.data }], guard := none }) (v := ?_) rfl (by kernel_rfl) (by kernel_rfl) (by kernel_rfl) (fun _ _ _ h => h) (Or.inl ⟨by rfl, ?_⟩) (by assumption) ?_
        rotate_left
        · intro w hSw
          (try dsimp only at hSw)
          go_simp
          all_goals with_reducible rfl
        try simp only [Act.put, List.setIfInBounds_toArray, List.set_cons_zero, List.set_cons_succ]
        refine wpAnyH_take (i := 30) (oi := { dst := some 45, op := Go.Op.load 2 (Go.Operand.tmp 44), type := 2, pos := "l03_scalar.go:230", after := #[{ on := 29, ground := Go.Ground.data }], guard := none }) (v := ?_) rfl (by kernel_rfl) (by kernel_rfl) (by kernel_rfl) (fun _ _ _ h => h) (Or.inl ⟨by rfl, ?_⟩) (by assumption) ?_
        rotate_left
        · intro w hSw
          (try dsimp only at hSw)
          go_simp
          all_goals with_reducible rfl
        try simp only [Act.put, List.setIfInBounds_toArray, List.set_cons_zero, List.set_cons_succ]
        refine wpAnyH_ready (rs := [6]) (by kernel_rfl) (by simp) ?_
        refine AllReadyH.cons (o := { dst := some 21, op := Go.Op.call { callee := Go.Callee.value (Go.Operand.func 53), args := #[Go.Operand.tmp 20], argTypes := #[2] }, type := 9, pos := "l03_scalar.go:230", after := #[{ on := 5, ground := Go.Ground.data }], guard := none }) rfl (fun K hK => ?_) AllReadyH.nil
        go_simp; go_at_call 53; with_reducible refine (HC1.out _).mono ?_; rintro e w1 ⟨rfl, hb1⟩; have S1 := hid (cl4 hb1 SD.out); have B1 := hid (bthen HBd.out hb1); go_wp2_with fail
        refine hK.out _ _ ?_ (fun hHeld => ?_)
        · exact S1.out
        clear hK K
        try simp only [Act.put, List.setIfInBounds_toArray, List.set_cons_zero, List.set_cons_succ]
        refine wpAnyH_take (i := 7) (oi := { dst := some 22, op := Go.Op.binOp Go.BinOp.add 9 (Go.Operand.tmp 21) (Go.Operand.const (Go.Value.string { data := #[61] })) 9, type := 9, pos := "l03_scalar.go:230", after := #[{ on := 6, ground := Go.Ground.data }], guard := none }) (v := ?_) rfl (by kernel_rfl) (by kernel_rfl) (by kernel_rfl) (fun _ _ _ h => h) (Or.inl ⟨by rfl, ?_⟩) (by assumption) ?_
        rotate_left
        · intro w hSw
          (try dsimp only at hSw)
          go_simp
          all_goals with_reducible rfl
        try simp only [Act.put, List.setIfInBounds_toArray, List.set_cons_zero, List.set_cons_succ]
        refine wpAnyH_ready (rs := [13]) (by kernel_rfl) (by simp) ?_
        refine AllReadyH.cons (o := { dst := some 28, op := Go.Op.call { callee := Go.Callee.value (Go.Operand.func 53), args := #[Go.Operand.tmp 27], argTypes := #[2] }, type := 9, pos := "l03_scalar.go:230", after := #[{ on := 12, ground := Go.Ground.data }, { on := 6, ground := Go.Ground.chain }], guard := none }) rfl (fun K hK => ?_) AllReadyH.nil
        go_simp; go_at_call 53; with_reducible refine (HC2.out _).mono ?_; rintro e w2 ⟨rfl, hb2⟩; have S2 := hid (cl4 hb2 S1.out); have B2 := hid (bthen B1.out hb2); go_wp2_with fail
        refine hK.out _ _ ?_ (fun hHeld => ?_)
        · exact S2.out
        clear hK K
        try simp only [Act.put, List.setIfInBounds_toArray, List.set_cons_zero, List.set_cons_succ]
        refine wpAnyH_take (i := 14) (oi := { dst := some 29, op := Go.Op.binOp Go.BinOp.add 9 (Go.Operand.tmp 22) (Go.Operand.tmp 28) 9, type := 9, pos := "l03_scalar.go:230", after := #[{ on := 7, ground := Go.Ground.data }, { on := 13, ground := Go.Ground.data }], guard := none }) (v := ?_) rfl (by kernel_rfl) (by kernel_rfl) (by kernel_rfl) (fun _ _ _ h => h) (Or.inl ⟨by rfl, ?_⟩) (by assumption) ?_
        rotate_left
        · intro w hSw
          (try dsimp only at hSw)
          go_simp
          all_goals with_reducible rfl
        try simp only [Act.put, List.setIfInBounds_toArray, List.set_cons_zero, List.set_cons_succ]
        refine wpAnyH_take (i := 15) (oi := { dst := some 30, op := Go.Op.binOp Go.BinOp.add 9 (Go.Operand.tmp 29) (Go.Operand.const (Go.Value.string { data := #[32] })) 9, type := 9, pos := "l03_scalar.go:230", after := #[{ on := 14, ground := Go.Ground.data }], guard := none }) (v := ?_) rfl (by kernel_rfl) (by kernel_rfl) (by kernel_rfl) (fun _ _ _ h => h) (Or.inl ⟨by rfl, ?_⟩) (by assumption) ?_
        rotate_left
        · intro w hSw
          (try dsimp only at hSw)
          go_simp
          all_goals with_reducible rfl
        try simp only [Act.put, List.setIfInBounds_toArray, List.set_cons_zero, List.set_cons_succ]
        refine wpAnyH_ready (rs := [16]) (by kernel_rfl) (by simp) ?_
        refine AllReadyH.cons (o := { dst := some 31, op := Go.Op.call { callee := Go.Callee.value (Go.Operand.func 54), args := #[], argTypes := #[] }, type := 50, pos := "l03_scalar.go:230", after := #[{ on := 13, ground := Go.Ground.chain }], guard := none }) rfl (fun K hK => ?_) AllReadyH.nil
        go_simp; go_at_call 54; with_reducible refine (s_l01OpTexts _).mono ?_; rintro e w3 ⟨g, rfl, hg3, hb3⟩; have S3 := hid (cl4 hb3 S2.out); have B3 := hid (bthen B2.out hb3); have k3 := HOP.out _ _ hg3; have K3 := hid k3; go_wp2_with fail
        refine hK.out _ _ ?_ (fun hHeld => ?_)
        · exact S3.out
        clear hK K
        try simp only [Act.put, List.setIfInBounds_toArray, List.set_cons_zero, List.set_cons_succ]
        refine wpAnyH_mono (S' := fun W => (W.cell? ⟨b, off + k * 4, none⟩ = some (.int .i64 n) ∧ W.cell? ⟨b, off + k * 4 + 1, none⟩ = some (.int .i64 d) ∧ W.cell? ⟨b, off + k * 4 + 2, none⟩ = some (.int .i64 a) ∧ W.cell? ⟨b, off + k * 4 + 3, none⟩ = some (.int .i64 s)) ∧ W.cell? ⟨g, n, none⟩ = some (.string bt)) (fun W h => h.1) _ _ _ _ ?_; have hHeld2 : (fun W : World => (W.cell? ⟨b, off + k * 4, none⟩ = some (.int .i64 n) ∧ W.cell? ⟨b, off + k * 4 + 1, none⟩ = some (.int .i64 d) ∧ W.cell? ⟨b, off + k * 4 + 2, none⟩ = some (.int .i64 a) ∧ W.cell? ⟨b, off + k * 4 + 3, none⟩ = some (.int .i64 s)) ∧ W.cell? ⟨g, n, none⟩ = some (.string bt)) w3 := ⟨S3.out, K3.out⟩; clear k3 hg3
        refine wpAnyH_take (i := 22) (oi := { dst := some 37, op := Go.Op.indexAddr 50 (Go.Operand.tmp 31) (Go.Operand.tmp 36), type := 0, pos := "l03_scalar.go:230", after := #[{ on := 16, ground := Go.Ground.data }, { on := 21, ground := Go.Ground.data }], guard := none }) (v := ?_) rfl (by kernel_rfl) (by kernel_rfl) (by kernel_rfl) (fun _ _ _ h => h) (Or.inl ⟨by rfl, ?_⟩) (by assumption) ?_
        rotate_left
        · intro w hSw
          (try dsimp only at hSw)
          go_simp
          all_goals with_reducible rfl
        try simp only [Act.put, List.setIfInBounds_toArray, List.set_cons_zero, List.set_cons_succ]
        refine wpAnyH_take (i := 23) (oi := { dst := some 38, op := Go.Op.load 9 (Go.Operand.tmp 37), type := 9, pos := "l03_scalar.go:230", after := #[{ on := 22, ground := Go.Ground.data }], guard := none }) (v := ?_) rfl (by kernel_rfl) (by kernel_rfl) (by kernel_rfl) (fun _ _ _ h => h) (Or.inl ⟨by rfl, ?_⟩) (by assumption) ?_
        rotate_left
        · intro w hSw
          (try dsimp only at hSw)
          go_simp
          all_goals with_reducible rfl
        try simp only [Act.put, List.setIfInBounds_toArray, List.set_cons_zero, List.set_cons_succ]
        refine wpAnyH_take (i := 24) (oi := { dst := some 39, op := Go.Op.binOp Go.BinOp.add 9 (Go.Operand.tmp 30) (Go.Operand.tmp 38) 9, type := 9, pos := "l03_scalar.go:230", after := #[{ on := 15, ground := Go.Ground.data }, { on := 23, ground := Go.Ground.data }], guard := none }) (v := ?_) rfl (by kernel_rfl) (by kernel_rfl) (by kernel_rfl) (fun _ _ _ h => h) (Or.inl ⟨by rfl, ?_⟩) (by assumption) ?_
        rotate_left
        · intro w hSw
          (try dsimp only at hSw)
          go_simp
          all_goals with_reducible rfl
        try simp only [Act.put, List.setIfInBounds_toArray, List.set_cons_zero, List.set_cons_succ]
        refine wpAnyH_take (i := 25) (oi := { dst := some 40, op := Go.Op.binOp Go.BinOp.add 9 (Go.Operand.tmp 39) (Go.Operand.const (Go.Value.string { data := #[32] })) 9, type := 9, pos := "l03_scalar.go:230", after := #[{ on := 24, ground := Go.Ground.data }], guard := none }) (v := ?_) rfl (by kernel_rfl) (by kernel_rfl) (by kernel_rfl) (fun _ _ _ h => h) (Or.inl ⟨by rfl, ?_⟩) (by assumption) ?_
        rotate_left
        · intro w hSw
          (try dsimp only at hSw)
          go_simp
          all_goals with_reducible rfl
        try simp only [Act.put, List.setIfInBounds_toArray, List.set_cons_zero, List.set_cons_succ]
        refine wpAnyH_ready (rs := [31]) (by kernel_rfl) (by simp) ?_
        refine AllReadyH.cons (o := { dst := some 46, op := Go.Op.call { callee := Go.Callee.value (Go.Operand.func 53), args := #[Go.Operand.tmp 45], argTypes := #[2] }, type := 9, pos := "l03_scalar.go:230", after := #[{ on := 30, ground := Go.Ground.data }, { on := 16, ground := Go.Ground.chain }], guard := none }) rfl (fun K hK => ?_) AllReadyH.nil
        go_simp; go_at_call 53; with_reducible refine (HC3.out _).mono ?_; rintro e w4 ⟨rfl, hb4⟩; have S4 := hid (cl4 hb4 S3.out); have B4 := hid (bthen B3.out hb4); have K4 := hid (bcell hb4 K3.out); go_wp2_with fail
        refine hK.out _ _ ?_ (fun hHeld => ?_)
        · exact ⟨S4.out, K4.out⟩
        clear hK K
        try simp only [Act.put, List.setIfInBounds_toArray, List.set_cons_zero, List.set_cons_succ]
        refine wpAnyH_take (i := 32) (oi := { dst := some 47, op := Go.Op.binOp Go.BinOp.add 9 (Go.Operand.tmp 40) (Go.Operand.tmp 46) 9, type := 9, pos := "l03_scalar.go:230", after := #[{ on := 25, ground := Go.Ground.data }, { on := 31, ground := Go.Ground.data }], guard := none }) (v := ?_) rfl (by kernel_rfl) (by kernel_rfl) (by kernel_rfl) (fun _ _ _ h => h) (Or.inl ⟨by rfl, ?_⟩) (by assumption) ?_
        rotate_left
        · intro w hSw
          (try dsimp only at hSw)
          go_simp
          all_goals with_reducible rfl
        try simp only [Act.put, List.setIfInBounds_toArray, List.set_cons_zero, List.set_cons_succ]
        refine wpAnyH_take (i := 33) (oi := { dst := some 48, op := Go.Op.binOp Go.BinOp.add 9 (Go.Operand.tmp 15) (Go.Operand.tmp 47) 9, type := 9, pos := "l03_scalar.go:230", after := #[{ on := 0, ground := Go.Ground.data }, { on := 32, ground := Go.Ground.data }], guard := none }) (v := ?_) rfl (by kernel_rfl) (by kernel_rfl) (by kernel_rfl) (fun _ _ _ h => h) (Or.inl ⟨by rfl, ?_⟩) (by assumption) ?_
        rotate_left
        · intro w hSw
          (try dsimp only at hSw)
          go_simp
          all_goals with_reducible rfl
        try simp only [Act.put, List.setIfInBounds_toArray, List.set_cons_zero, List.set_cons_succ]
        refine wpAnyH_take (i := 34) (oi := { dst := some 3, op := Go.Op.assign (Go.Operand.tmp 48), type := 9, pos := "l03_scalar.go:230", after := #[{ on := 33, ground := Go.Ground.data }, { on := 31, ground := Go.Ground.chain }, { on := 0, ground := Go.Ground.phase }, { on := 1, ground := Go.Ground.phase }, { on := 2, ground := Go.Ground.phase }, { on := 3, ground := Go.Ground.phase }, { on := 4, ground := Go.Ground.phase }, { on := 5, ground := Go.Ground.phase }, { on := 6, ground := Go.Ground.phase }, { on := 7, ground := Go.Ground.phase }, { on := 8, ground := Go.Ground.phase }, { on := 9, ground := Go.Ground.phase }, { on := 10, ground := Go.Ground.phase }, { on := 11, ground := Go.Ground.phase }, { on := 12, ground := Go.Ground.phase }, { on := 13, ground := Go.Ground.phase }, { on := 14, ground := Go.Ground.phase }, { on := 15, ground := Go.Ground.phase }, { on := 16, ground := Go.Ground.phase }, { on := 17, ground := Go.Ground.phase }, { on := 18, ground := Go.Ground.phase }, { on := 19, ground := Go.Ground.phase }, { on := 20, ground := Go.Ground.phase }, { on := 21, ground := Go.Ground.phase }, { on := 22, ground := Go.Ground.phase }, { on := 23, ground := Go.Ground.phase }, { on := 24, ground := Go.Ground.phase }, { on := 25, ground := Go.Ground.phase }, { on := 26, ground := Go.Ground.phase }, { on := 27, ground := Go.Ground.phase }, { on := 28, ground := Go.Ground.phase }, { on := 29, ground := Go.Ground.phase }, { on := 30, ground := Go.Ground.phase }, { on := 31, ground := Go.Ground.phase }, { on := 32, ground := Go.Ground.phase }, { on := 33, ground := Go.Ground.phase }], guard := none }) (v := ?_) rfl (by kernel_rfl) (by kernel_rfl) (by kernel_rfl) (fun _ _ _ h => h) (Or.inl ⟨by rfl, ?_⟩) (by assumption) ?_
        rotate_left
        · intro w hSw
          (try dsimp only at hSw)
          go_simp
          all_goals with_reducible rfl
        try simp only [Act.put, List.setIfInBounds_toArray, List.set_cons_zero, List.set_cons_succ]
        refine wpAnyH_done (by kernel_rfl) ?_ _
        refine NoPanic.normal ?_
        have HBE := hid B4.out
        go_wp2_with fail
        go_roundg (xs.length - (k + 1))
        case measure => exact Nat.lt_of_lt_of_le (Nat.sub_lt_sub_left HKL.out (Nat.lt_succ_self k)) HG.out
        case rel =>
          refine ⟨k + 1, _, Nat.succ_le_of_lt HKL.out, Nat.le_refl _, by first | exact step_num HKL.out H16.out | go_num, ?_, HS.out, HBE.out⟩
          show Value.string (bstr t ++ catS bd ba bt bb) = _
          rw [HCS.out, bstr_append]
    · obtain rfl : k = xs.length := by omega
      have TX' : Hid (bstr (codeT xs) = bstr t) := hid (by have := TX.out; rw [this, List.take_length]; rfl)
      clear TX
      go_wp2
      go_ret
      exact ⟨by rw [TX'.out]; rfl, BW.out⟩
end Go.Proofs.YtmpdaafkphpnoaaDoor
