import Derived.Test.YtnnioicjmlfllaaGreatDoorCod2
set_option linter.unusedVariables false
set_option linter.unusedSimpArgs false
namespace Go.Proofs.YtnnioicjmlfllaaGreatDoor
open Go.RowKit

/-- append(v, y) at a step of a region that draws its order. -/
theorem step_append1 {P : Program} {ops : Array Oper} {o : Oper} {a : Act} {K : Act → World → Prop} {Q : Exit → Act → World → Prop} {E : Prop} {W : World} (lo : Nat) (hgd : o.guard = none) (s x : Operand) (t e : TypeId) (z : Value) (bytes : Nat)
    (ho : o.op = .call { callee := .builtin .append, args := #[s, x], argTypes := #[t, t] })
    (ht : P.underlying t = some (.slice e)) (hinfo : (P.info? e).map (fun i => (i.zero, i.size, i.bytes)) = some (some z, 1, bytes)) (hz : z.cells.size = 1)
    (v : Value) (n : Nat) (cs : List Value) (y : Value) (hs : a.eval s = v) (hx : a.eval x = .slice (some ⟨W.heap.size, 0, none⟩) 1 1) (h1 : y.oneCell' = true)
    (HO : Own W lo W.heap.size e 1 v n cs) (hlo : lo ≤ W.heap.size) (hl : n + 1 ≤ 9223372036854775807) (hby : (n + 1) * bytes ≤ 140737488355328)
    (h : ∀ v1 w1, Own w1 lo w1.heap.size e 1 v1 (n + 1) (cs ++ [y]) → Below lo W w1 → (∀ (p : Addr) (u : Value), p.block < W.heap.size → v.ownBlock ≠ some p.block → W.cell? p = some u → w1.cell? p = some u) → K (a.put o.dst v1) w1) :
    if Region.wanted o (yielded ops a.tmps) = true then Oper.wp P o a (W.alloc (.cells #[y] e)) K Q else E := by
  obtain ⟨i0, hi, hzz⟩ := Option.map_eq_some_iff.1 hinfo
  simp only [Prod.mk.injEq] at hzz
  obtain ⟨hz0, hz1, hz2⟩ := hzz
  refine step_append_lies _ hgd s x t ho lo e i0 z 1 bytes ht hi hz0 hz1 hz2 hz (by omega) v n cs hs (HO.1.alloc _) ⟨W.heap.size, 0, none⟩ 1 1 [y] hx rfl
    (World.news_of_block (cs := #[y]) (t := e) (fr := (0, 0)) (heap_alloc_new W _)) (by simpa using h1) (by omega) (by simp only [maxLen]; omega) hby (by simp; omega) (W.heap.size + 1) (by simp) ?_
  intro g cap w1 hown hg _ _
  refine h _ w1 (Own.of hown) ?_ ?_
  · refine ((Below.refl lo W).alloc hlo _).grown hg (by simp; omega) ?_
    intro k hk
    exact (HO.1.lt k hk).1
  · intro p u hp hne hc
    rw [hg.cell_far _ (by simp; omega) (Ne.symm hne), World.cell?_alloc_lt _ _ _ hp]
    exact hc
set_option maxRecDepth 100000 in
set_option maxHeartbeats 1000000 in
theorem i_codeText (w : World) (A : Option Addr) (c : Nat) (xs : List SmV) (hv : codeB xs = true) (hp : Pow w) (hA : Asc w) (hR : RdC w A xs) :
    Calls Tryz.prog 42 #[.slice A xs.length c] w fun e w' => e = .returned (.string (bstr (codeT xs))) ∧ Below w.heap.size w w' := by
  have h16 := codeB_len hv
  have HV := hid hv
  have HP := hid hp
  have HA := hid hA
  clear hv hp hA
  go_enter Tryz.func42, Tryz.ntmps42
  go_wp2
  go_loopg [3, 8] xs.length (fun gg v s wr => ∃ k : Nat, k ≤ xs.length ∧ xs.length - k ≤ gg ∧ s = .int .i64 k ∧ Aside (Below w.heap.size w wr) ∧ Aside (Own wr w.heap.size wr.heap.size 9 1 v k (strs ((xs.take k).map stmT))))
  case atStart => exact ⟨0, Nat.zero_le _, by omega, rfl, Below.refl _ _, Own.nil _ _ _ _ _⟩
  case round =>
    obtain ⟨k, hk, hg, rfl, BW, OW⟩ := hrel
    by_cases hlt : k < xs.length
    · obtain ⟨b, off, rfl, hc⟩ := (hR.below BW.out).get hlt
      have hrow := codeB_row HV.out hlt
      have hcs := catS_stm (sel xs k)
      have HS : Hid (strs ((xs.take k).map stmT) ++ [.string (bstr (stmT (sel xs k)))] = strs ((xs.take (k + 1)).map stmT)) := hid (by rw [strs_snoc, maps_take_succ _ hlt])
      generalize sel xs k = x at *
      obtain ⟨o, d, a, s⟩ := x
      unfold stmB at hrow
      simp only [Bool.and_eq_true, inB_iff] at hrow
      obtain ⟨⟨ho0, ho1⟩, ⟨hd0, hd1⟩, ⟨ha0, ha1⟩, hs0, hs1⟩ := hrow
      obtain ⟨n, rfl⟩ : ∃ n : Nat, o = n := ⟨o.toNat, by omega⟩
      have hn : n < 18 := by omega
      have c0 := hc.o
      have c1 := hc.d
      have c2 := hc.a
      have c3 := hc.b
      have C1 := fun W (hW : Below w.heap.size w W) => i_Decimal W d (by omega) (by omega) (HP.out.below hW)
      have C2 := fun W (hW : Below w.heap.size w W) => i_Decimal W a (by omega) (by omega) (HP.out.below hW)
      have C3 := fun W (hW : Below w.heap.size w W) => i_Decimal W s (by omega) (by omega) (HP.out.below hW)
      have CO := hid (fun W (hW : Below w.heap.size w W) => i_opTexts W (HA.out.below hW))
      have z1 : (bstr (Lib.itoa d)).size ≤ 11 := by rw [bstr_size]; exact itoa_small hd0 hd1
      have z2 : (bstr (Lib.itoa a)).size ≤ 11 := by rw [bstr_size]; exact itoa_small ha0 ha1
      have z3 : (bstr (Lib.itoa s)).size ≤ 11 := by rw [bstr_size]; exact itoa_small hs0 hs1
      have z4 : (bstr (opTx n)).size ≤ 4 := by rw [bstr_size]; exact opTx_len n
      have hop : ∀ (W : World) (g : Nat), Ops W g → W.cell? ⟨g, n, none⟩ = some (.string (bstr (opTx n))) := fun W g h => h n hn
      simp only [show (n : Int).toNat = n from rfl] at hcs
      generalize bstr (Lib.itoa d) = bd at *
      generalize bstr (Lib.itoa a) = ba at *
      generalize bstr (Lib.itoa s) = bb at *
      generalize bstr (opTx n) = bt at *
      have HC1 := hid C1
      have HC2 := hid C2
      have HC3 := hid C3
      have HOP := hid hop
      have HCS := hid hcs
      have hn' : (n : Int) < 18 := by omega
      have hk' : (k : Int) < (xs.length : Int) := by omega
      obtain ⟨f1, f2, f3, f4, f5, f6, f7, f8⟩ := catOk (bo := bstr []) (by rw [bstr_size]; simp) z1 z2 z4 z3
      have HB5 := hid (bthen BW.out (ballocw wr (.cells #[.int .i64 n, .int .i64 d, .int .i64 a, .int .i64 s] 45)))
      have H5 := hid (heap_alloc_new wr (.cells #[.int .i64 n, .int .i64 d, .int .i64 a, .int .i64 s] 45))
      have HZ5 := hid (show (wr.alloc (.cells #[.int .i64 n, .int .i64 d, .int .i64 a, .int .i64 s] 45)).heap.size = wr.heap.size + 1 by simp)
      have HE5 := hid (Own.eqv OW.out (Eqv.of (ballocw wr (.cells #[.int .i64 n, .int .i64 d, .int .i64 a, .int .i64 s] 45)) (Nat.le_refl _)))
      have HG := hid hg
      have H16 := hid h16
      have HKL := hid hlt
      have HZW := hid BW.out.size
      clear hc hR ho0 ho1 hd0 hd1 ha0 ha1 hs0 hs1 C1 C2 C3 hop hcs f7 f8 z1 z2 z3 z4 hn hg h16 hk hlt OW BW
      go_wp2_with fail
      generalize wr.alloc (.cells #[.int .i64 n, .int .i64 d, .int .i64 a, .int .i64 s] 45) = V at *
      have S5 : Hid (Cl4 V wr.heap.size 0 n d a s) := hid (by refine ⟨?_, ?_, ?_, ?_⟩ <;> (rw [cell_of_row _ _ _ _ _ _ H5.out]; rfl))
      have HBd := hid (bthen HB5.out (bdrewL V))
      have SD := hid (cl4 (bdrewL V) S5.out)
      have NE : Hid (∀ q, wr.heap.size ≤ q → u3.ownBlock ≠ some q) := hid (fun q hq z => absurd (HE5.out.2 q z) (Nat.not_lt_of_le hq))
      refine wp_region_noPanic ?_
      refine wp_region_held_drew (S := fun W => W.cell? ⟨wr.heap.size, 0, none⟩ = some (.int .i64 n) ∧ W.cell? ⟨wr.heap.size, 1, none⟩ = some (.int .i64 d) ∧ W.cell? ⟨wr.heap.size, 2, none⟩ = some (.int .i64 a) ∧ W.cell? ⟨wr.heap.size, 3, none⟩ = some (.int .i64 s)) (by kernel_rfl) ?_ (fun hHeld => ?_)
      · exact SD.out
      refine wpAnyH_take (i := 0) (oi := { dst := some 12, op := Go.Op.move (Go.Operand.tmp 3), type := 82, pos := "l03_scalar.go:268", after := #[], guard := none }) (v := ?_) rfl (by kernel_rfl) (by kernel_rfl) (by kernel_rfl) (fun _ _ _ h => h) (Or.inl ⟨by rfl, ?_⟩) (by assumption) ?_
      rotate_left
      · intro w hSw
        (try dsimp only at hSw)
        go_simp
        all_goals with_reducible rfl
      try simp only [Act.put, List.setIfInBounds_toArray, List.set_cons_zero, List.set_cons_succ]
      refine wpAnyH_take (i := 1) (oi := { dst := some 13, op := Go.Op.fieldAddr 45 (Go.Operand.tmp 5) 1, type := 0, pos := "l03_scalar.go:268", after := #[], guard := none }) (v := ?_) rfl (by kernel_rfl) (by kernel_rfl) (by kernel_rfl) (fun _ _ _ h => h) (Or.inl ⟨by rfl, ?_⟩) (by assumption) ?_
      rotate_left
      · intro w hSw
        (try dsimp only at hSw)
        go_simp
        all_goals with_reducible rfl
      try simp only [Act.put, List.setIfInBounds_toArray, List.set_cons_zero, List.set_cons_succ]
      refine wpAnyH_take (i := 2) (oi := { dst := some 14, op := Go.Op.load 2 (Go.Operand.tmp 13), type := 2, pos := "l03_scalar.go:268", after := #[{ on := 1, ground := Go.Ground.data }], guard := none }) (v := ?_) rfl (by kernel_rfl) (by kernel_rfl) (by kernel_rfl) (fun _ _ _ h => h) (Or.inl ⟨by rfl, ?_⟩) (by assumption) ?_
      rotate_left
      · intro w hSw
        (try dsimp only at hSw)
        go_simp
        all_goals with_reducible rfl
      try simp only [Act.put, List.setIfInBounds_toArray, List.set_cons_zero, List.set_cons_succ]
      refine wpAnyH_take (i := 5) (oi := { dst := some 17, op := Go.Op.fieldAddr 45 (Go.Operand.tmp 5) 2, type := 0, pos := "l03_scalar.go:268", after := #[], guard := none }) (v := ?_) rfl (by kernel_rfl) (by kernel_rfl) (by kernel_rfl) (fun _ _ _ h => h) (Or.inl ⟨by rfl, ?_⟩) (by assumption) ?_
      rotate_left
      · intro w hSw
        (try dsimp only at hSw)
        go_simp
        all_goals with_reducible rfl
      try simp only [Act.put, List.setIfInBounds_toArray, List.set_cons_zero, List.set_cons_succ]
      refine wpAnyH_take (i := 6) (oi := { dst := some 18, op := Go.Op.load 2 (Go.Operand.tmp 17), type := 2, pos := "l03_scalar.go:268", after := #[{ on := 5, ground := Go.Ground.data }], guard := none }) (v := ?_) rfl (by kernel_rfl) (by kernel_rfl) (by kernel_rfl) (fun _ _ _ h => h) (Or.inl ⟨by rfl, ?_⟩) (by assumption) ?_
      rotate_left
      · intro w hSw
        (try dsimp only at hSw)
        go_simp
        all_goals with_reducible rfl
      try simp only [Act.put, List.setIfInBounds_toArray, List.set_cons_zero, List.set_cons_succ]
      refine wpAnyH_take (i := 11) (oi := { dst := some 23, op := Go.Op.fieldAddr 45 (Go.Operand.tmp 5) 0, type := 0, pos := "l03_scalar.go:268", after := #[], guard := none }) (v := ?_) rfl (by kernel_rfl) (by kernel_rfl) (by kernel_rfl) (fun _ _ _ h => h) (Or.inl ⟨by rfl, ?_⟩) (by assumption) ?_
      rotate_left
      · intro w hSw
        (try dsimp only at hSw)
        go_simp
        all_goals with_reducible rfl
      try simp only [Act.put, List.setIfInBounds_toArray, List.set_cons_zero, List.set_cons_succ]
      refine wpAnyH_take (i := 12) (oi := { dst := some 24, op := Go.Op.load 2 (Go.Operand.tmp 23), type := 2, pos := "l03_scalar.go:268", after := #[{ on := 11, ground := Go.Ground.data }], guard := none }) (v := ?_) rfl (by kernel_rfl) (by kernel_rfl) (by kernel_rfl) (fun _ _ _ h => h) (Or.inl ⟨by rfl, ?_⟩) (by assumption) ?_
      rotate_left
      · intro w hSw
        (try dsimp only at hSw)
        go_simp
        all_goals with_reducible rfl
      try simp only [Act.put, List.setIfInBounds_toArray, List.set_cons_zero, List.set_cons_succ]
      refine wpAnyH_take (i := 17) (oi := { dst := some 29, op := Go.Op.fieldAddr 45 (Go.Operand.tmp 5) 3, type := 0, pos := "l03_scalar.go:268", after := #[], guard := none }) (v := ?_) rfl (by kernel_rfl) (by kernel_rfl) (by kernel_rfl) (fun _ _ _ h => h) (Or.inl ⟨by rfl, ?_⟩) (by assumption) ?_
      rotate_left
      · intro w hSw
        (try dsimp only at hSw)
        go_simp
        all_goals with_reducible rfl
      try simp only [Act.put, List.setIfInBounds_toArray, List.set_cons_zero, List.set_cons_succ]
      refine wpAnyH_take (i := 18) (oi := { dst := some 30, op := Go.Op.load 2 (Go.Operand.tmp 29), type := 2, pos := "l03_scalar.go:268", after := #[{ on := 17, ground := Go.Ground.data }], guard := none }) (v := ?_) rfl (by kernel_rfl) (by kernel_rfl) (by kernel_rfl) (fun _ _ _ h => h) (Or.inl ⟨by rfl, ?_⟩) (by assumption) ?_
      rotate_left
      · intro w hSw
        (try dsimp only at hSw)
        go_simp
        all_goals with_reducible rfl
      try simp only [Act.put, List.setIfInBounds_toArray, List.set_cons_zero, List.set_cons_succ]
      refine wpAnyH_ready (rs := [3]) (by kernel_rfl) (by simp) ?_
      refine AllReadyH.cons (o := { dst := some 15, op := Go.Op.call { callee := Go.Callee.value (Go.Operand.func 91), args := #[Go.Operand.tmp 14], argTypes := #[2] }, type := 9, pos := "l03_scalar.go:268", after := #[{ on := 2, ground := Go.Ground.data }], guard := none }) rfl (fun K hK => ?_) AllReadyH.nil
      go_simp; go_at_call 91; with_reducible refine (HC1.out _ HBd.out).mono ?_; rintro e w1 ⟨rfl, hb1⟩; have S1 := hid (cl4 hb1 SD.out); have B1 := hid (bthen HBd.out hb1); have E1 := hid (bthen (bdrewL V) hb1); go_wp2_with fail
      refine hK.out _ _ ?_ (fun hHeld => ?_)
      · exact S1.out
      clear hK K
      try simp only [Act.put, List.setIfInBounds_toArray, List.set_cons_zero, List.set_cons_succ]
      refine wpAnyH_take (i := 4) (oi := { dst := some 16, op := Go.Op.binOp Go.BinOp.add 9 (Go.Operand.tmp 15) (Go.Operand.const (Go.Value.string { data := #[61] })) 9, type := 9, pos := "l03_scalar.go:268", after := #[{ on := 3, ground := Go.Ground.data }], guard := none }) (v := ?_) rfl (by kernel_rfl) (by kernel_rfl) (by kernel_rfl) (fun _ _ _ h => h) (Or.inl ⟨by rfl, ?_⟩) (by assumption) ?_
      rotate_left
      · intro w hSw
        (try dsimp only at hSw)
        go_simp
        all_goals with_reducible rfl
      try simp only [Act.put, List.setIfInBounds_toArray, List.set_cons_zero, List.set_cons_succ]
      refine wpAnyH_ready (rs := [7]) (by kernel_rfl) (by simp) ?_
      refine AllReadyH.cons (o := { dst := some 19, op := Go.Op.call { callee := Go.Callee.value (Go.Operand.func 91), args := #[Go.Operand.tmp 18], argTypes := #[2] }, type := 9, pos := "l03_scalar.go:268", after := #[{ on := 6, ground := Go.Ground.data }, { on := 3, ground := Go.Ground.chain }], guard := none }) rfl (fun K hK => ?_) AllReadyH.nil
      go_simp; go_at_call 91; with_reducible refine (HC2.out _ B1.out).mono ?_; rintro e w2 ⟨rfl, hb2⟩; have S2 := hid (cl4 hb2 S1.out); have B2 := hid (bthen B1.out hb2); have E2 := hid (bthen E1.out hb2); go_wp2_with fail
      refine hK.out _ _ ?_ (fun hHeld => ?_)
      · exact S2.out
      clear hK K
      try simp only [Act.put, List.setIfInBounds_toArray, List.set_cons_zero, List.set_cons_succ]
      refine wpAnyH_take (i := 8) (oi := { dst := some 20, op := Go.Op.binOp Go.BinOp.add 9 (Go.Operand.tmp 16) (Go.Operand.tmp 19) 9, type := 9, pos := "l03_scalar.go:268", after := #[{ on := 4, ground := Go.Ground.data }, { on := 7, ground := Go.Ground.data }], guard := none }) (v := ?_) rfl (by kernel_rfl) (by kernel_rfl) (by kernel_rfl) (fun _ _ _ h => h) (Or.inl ⟨by rfl, ?_⟩) (by assumption) ?_
      rotate_left
      · intro w hSw
        (try dsimp only at hSw)
        go_simp
        all_goals with_reducible rfl
      try simp only [Act.put, List.setIfInBounds_toArray, List.set_cons_zero, List.set_cons_succ]
      refine wpAnyH_take (i := 9) (oi := { dst := some 21, op := Go.Op.binOp Go.BinOp.add 9 (Go.Operand.tmp 20) (Go.Operand.const (Go.Value.string { data := #[32] })) 9, type := 9, pos := "l03_scalar.go:268", after := #[{ on := 8, ground := Go.Ground.data }], guard := none }) (v := ?_) rfl (by kernel_rfl) (by kernel_rfl) (by kernel_rfl) (fun _ _ _ h => h) (Or.inl ⟨by rfl, ?_⟩) (by assumption) ?_
      rotate_left
      · intro w hSw
        (try dsimp only at hSw)
        go_simp
        all_goals with_reducible rfl
      try simp only [Act.put, List.setIfInBounds_toArray, List.set_cons_zero, List.set_cons_succ]
      refine wpAnyH_ready (rs := [10]) (by kernel_rfl) (by simp) ?_
      refine AllReadyH.cons (o := { dst := some 22, op := Go.Op.call { callee := Go.Callee.value (Go.Operand.func 92), args := #[], argTypes := #[] }, type := 82, pos := "l03_scalar.go:268", after := #[{ on := 7, ground := Go.Ground.chain }], guard := none }) rfl (fun K hK => ?_) AllReadyH.nil
      go_simp; go_at_call 92; with_reducible refine (CO.out _ B2.out).mono ?_; rintro e w3 ⟨g, rfl, hg3, hb3, hle⟩; have S3 := hid (cl4 hb3 S2.out); have B3 := hid (bthen B2.out hb3); have E3 := hid (bthen E2.out hb3); have k3 := HOP.out _ _ hg3; have K3 := hid k3; have HLE := hid (Nat.le_trans E2.out.size hle); clear hle; go_wp2_with fail
      refine hK.out _ _ ?_ (fun hHeld => ?_)
      · exact S3.out
      clear hK K
      try simp only [Act.put, List.setIfInBounds_toArray, List.set_cons_zero, List.set_cons_succ]
      refine wpAnyH_mono (S' := fun W => (W.cell? ⟨wr.heap.size, 0, none⟩ = some (.int .i64 n) ∧ W.cell? ⟨wr.heap.size, 1, none⟩ = some (.int .i64 d) ∧ W.cell? ⟨wr.heap.size, 2, none⟩ = some (.int .i64 a) ∧ W.cell? ⟨wr.heap.size, 3, none⟩ = some (.int .i64 s)) ∧ W.cell? ⟨g, n, none⟩ = some (.string bt)) (fun W h => h.1) _ _ _ _ ?_; have hHeld2 : (fun W : World => (W.cell? ⟨wr.heap.size, 0, none⟩ = some (.int .i64 n) ∧ W.cell? ⟨wr.heap.size, 1, none⟩ = some (.int .i64 d) ∧ W.cell? ⟨wr.heap.size, 2, none⟩ = some (.int .i64 a) ∧ W.cell? ⟨wr.heap.size, 3, none⟩ = some (.int .i64 s)) ∧ W.cell? ⟨g, n, none⟩ = some (.string bt)) w3 := ⟨S3.out, K3.out⟩; clear k3 hg3
      refine wpAnyH_take (i := 13) (oi := { dst := some 25, op := Go.Op.indexAddr 82 (Go.Operand.tmp 22) (Go.Operand.tmp 24), type := 0, pos := "l03_scalar.go:268", after := #[{ on := 10, ground := Go.Ground.data }, { on := 12, ground := Go.Ground.data }], guard := none }) (v := ?_) rfl (by kernel_rfl) (by kernel_rfl) (by kernel_rfl) (fun _ _ _ h => h) (Or.inl ⟨by rfl, ?_⟩) (by assumption) ?_
      rotate_left
      · intro w hSw
        (try dsimp only at hSw)
        go_simp
        all_goals with_reducible rfl
      try simp only [Act.put, List.setIfInBounds_toArray, List.set_cons_zero, List.set_cons_succ]
      refine wpAnyH_take (i := 14) (oi := { dst := some 26, op := Go.Op.load 9 (Go.Operand.tmp 25), type := 9, pos := "l03_scalar.go:268", after := #[{ on := 13, ground := Go.Ground.data }], guard := none }) (v := ?_) rfl (by kernel_rfl) (by kernel_rfl) (by kernel_rfl) (fun _ _ _ h => h) (Or.inl ⟨by rfl, ?_⟩) (by assumption) ?_
      rotate_left
      · intro w hSw
        (try dsimp only at hSw)
        go_simp
        all_goals with_reducible rfl
      try simp only [Act.put, List.setIfInBounds_toArray, List.set_cons_zero, List.set_cons_succ]
      refine wpAnyH_take (i := 15) (oi := { dst := some 27, op := Go.Op.binOp Go.BinOp.add 9 (Go.Operand.tmp 21) (Go.Operand.tmp 26) 9, type := 9, pos := "l03_scalar.go:268", after := #[{ on := 9, ground := Go.Ground.data }, { on := 14, ground := Go.Ground.data }], guard := none }) (v := ?_) rfl (by kernel_rfl) (by kernel_rfl) (by kernel_rfl) (fun _ _ _ h => h) (Or.inl ⟨by rfl, ?_⟩) (by assumption) ?_
      rotate_left
      · intro w hSw
        (try dsimp only at hSw)
        go_simp
        all_goals with_reducible rfl
      try simp only [Act.put, List.setIfInBounds_toArray, List.set_cons_zero, List.set_cons_succ]
      refine wpAnyH_take (i := 16) (oi := { dst := some 28, op := Go.Op.binOp Go.BinOp.add 9 (Go.Operand.tmp 27) (Go.Operand.const (Go.Value.string { data := #[32] })) 9, type := 9, pos := "l03_scalar.go:268", after := #[{ on := 15, ground := Go.Ground.data }], guard := none }) (v := ?_) rfl (by kernel_rfl) (by kernel_rfl) (by kernel_rfl) (fun _ _ _ h => h) (Or.inl ⟨by rfl, ?_⟩) (by assumption) ?_
      rotate_left
      · intro w hSw
        (try dsimp only at hSw)
        go_simp
        all_goals with_reducible rfl
      try simp only [Act.put, List.setIfInBounds_toArray, List.set_cons_zero, List.set_cons_succ]
      refine wpAnyH_ready (rs := [19]) (by kernel_rfl) (by simp) ?_
      refine AllReadyH.cons (o := { dst := some 31, op := Go.Op.call { callee := Go.Callee.value (Go.Operand.func 91), args := #[Go.Operand.tmp 30], argTypes := #[2] }, type := 9, pos := "l03_scalar.go:268", after := #[{ on := 18, ground := Go.Ground.data }, { on := 10, ground := Go.Ground.chain }], guard := none }) rfl (fun K hK => ?_) AllReadyH.nil
      go_simp; go_at_call 91; with_reducible refine (HC3.out _ B3.out).mono ?_; rintro e w4 ⟨rfl, hb4⟩; have S4 := hid (cl4 hb4 S3.out); have B4 := hid (bthen B3.out hb4); have E4 := hid (bthen E3.out hb4); have K4 := hid (bcell hb4 K3.out); have HOWN := hid (Own.wide (Own.eqv HE5.out (Eqv.of E4.out (Nat.le_trans (Nat.le_succ _) (Nat.le_of_eq HZ5.out.symm)))) (Nat.le_refl _) (Nat.le_trans (Nat.le_trans (Nat.le_succ _) (Nat.le_of_eq HZ5.out.symm)) E4.out.size)); go_wp2_with fail
      refine hK.out _ _ ?_ (fun hHeld => ?_)
      · exact ⟨S4.out, K4.out⟩
      clear hK K
      try simp only [Act.put, List.setIfInBounds_toArray, List.set_cons_zero, List.set_cons_succ]
      refine wpAnyH_take (i := 20) (oi := { dst := some 32, op := Go.Op.binOp Go.BinOp.add 9 (Go.Operand.tmp 28) (Go.Operand.tmp 31) 9, type := 9, pos := "l03_scalar.go:268", after := #[{ on := 16, ground := Go.Ground.data }, { on := 19, ground := Go.Ground.data }], guard := none }) (v := ?_) rfl (by kernel_rfl) (by kernel_rfl) (by kernel_rfl) (fun _ _ _ h => h) (Or.inl ⟨by rfl, ?_⟩) (by assumption) ?_
      rotate_left
      · intro w hSw
        (try dsimp only at hSw)
        go_simp
        all_goals with_reducible rfl
      try simp only [Act.put, List.setIfInBounds_toArray, List.set_cons_zero, List.set_cons_succ]
      refine wpAnyH_ready (rs := [21]) (by kernel_rfl) (by simp) ?_
      refine AllReadyH.cons (o := { dst := some 33, op := Go.Op.buildSlice 82 1 #[(0, Go.Operand.tmp 32)], type := 82, pos := "l03_scalar.go:268", after := #[{ on := 20, ground := Go.Ground.data }], guard := none }) rfl (fun K hK => ?_) AllReadyH.nil
      go_simp
      refine hK.out _ _ ?_ (fun hHeld => ?_)
      · exact ⟨cl4 (ballocw w4 _) S4.out, bcell (ballocw w4 _) K4.out⟩
      clear hK K
      try simp only [Act.put, List.setIfInBounds_toArray, List.set_cons_zero, List.set_cons_succ]
      refine wpAnyH_ready (rs := [22]) (by kernel_rfl) (by simp) ?_
      refine AllReadyH.cons (o := { dst := some 34, op := Go.Op.call { callee := Go.Callee.builtin Go.Builtin.append, args := #[Go.Operand.tmp 12, Go.Operand.tmp 33], argTypes := #[82, 82] }, type := 82, pos := "l03_scalar.go:268", after := #[{ on := 0, ground := Go.Ground.data }, { on := 21, ground := Go.Ground.data }, { on := 19, ground := Go.Ground.chain }], guard := none }) rfl (fun K hK => ?_) AllReadyH.nil
      refine step_append1 w.heap.size (by rfl) _ _ 82 9 (.string ⟨#[]⟩) 16 (by rfl) Tryz.underlying82 infoStr rfl u3 k _ (.string (catS bd ba bt bb)) (by rfl) (by rfl) rfl HOWN.out B4.out.size (Nat.le_trans (Nat.le_trans (Nat.succ_le_of_lt HKL.out) H16.out) (by decide)) (Nat.le_trans (Nat.mul_le_mul_right 16 (Nat.le_trans (Nat.succ_le_of_lt HKL.out) H16.out)) (by decide)) ?_; intro v1 w5 hown1 hbel1 hfar; replace hown1 := hid hown1; replace hbel1 := hid hbel1; have FAR := hid hfar; clear hfar
      refine hK.out _ _ ?_ (fun hHeld => ?_)
      · exact ⟨⟨FAR.out _ _ (World.block_lt_of_cell? _ _ S4.out.1) (NE.out _ (Nat.le_refl _)) S4.out.1, FAR.out _ _ (World.block_lt_of_cell? _ _ S4.out.2.1) (NE.out _ (Nat.le_refl _)) S4.out.2.1, FAR.out _ _ (World.block_lt_of_cell? _ _ S4.out.2.2.1) (NE.out _ (Nat.le_refl _)) S4.out.2.2.1, FAR.out _ _ (World.block_lt_of_cell? _ _ S4.out.2.2.2) (NE.out _ (Nat.le_refl _)) S4.out.2.2.2⟩, FAR.out _ _ (World.block_lt_of_cell? _ _ K4.out) (NE.out _ (Nat.le_trans (Nat.le_trans (Nat.le_succ _) (Nat.le_of_eq HZ5.out.symm)) HLE.out)) K4.out⟩
      clear hK K
      try simp only [Act.put, List.setIfInBounds_toArray, List.set_cons_zero, List.set_cons_succ]
      refine wpAnyH_take (i := 23) (oi := { dst := some 3, op := Go.Op.assign (Go.Operand.tmp 34), type := 82, pos := "l03_scalar.go:268", after := #[{ on := 22, ground := Go.Ground.data }, { on := 22, ground := Go.Ground.chain }, { on := 0, ground := Go.Ground.phase }, { on := 1, ground := Go.Ground.phase }, { on := 2, ground := Go.Ground.phase }, { on := 3, ground := Go.Ground.phase }, { on := 4, ground := Go.Ground.phase }, { on := 5, ground := Go.Ground.phase }, { on := 6, ground := Go.Ground.phase }, { on := 7, ground := Go.Ground.phase }, { on := 8, ground := Go.Ground.phase }, { on := 9, ground := Go.Ground.phase }, { on := 10, ground := Go.Ground.phase }, { on := 11, ground := Go.Ground.phase }, { on := 12, ground := Go.Ground.phase }, { on := 13, ground := Go.Ground.phase }, { on := 14, ground := Go.Ground.phase }, { on := 15, ground := Go.Ground.phase }, { on := 16, ground := Go.Ground.phase }, { on := 17, ground := Go.Ground.phase }, { on := 18, ground := Go.Ground.phase }, { on := 19, ground := Go.Ground.phase }, { on := 20, ground := Go.Ground.phase }, { on := 21, ground := Go.Ground.phase }, { on := 22, ground := Go.Ground.phase }], guard := none }) (v := ?_) rfl (by kernel_rfl) (by kernel_rfl) (by kernel_rfl) (fun _ _ _ h => h) (Or.inl ⟨by rfl, ?_⟩) (by assumption) ?_
      rotate_left
      · intro w hSw
        (try dsimp only at hSw)
        go_simp
        all_goals with_reducible rfl
      try simp only [Act.put, List.setIfInBounds_toArray, List.set_cons_zero, List.set_cons_succ]
      refine wpAnyH_done (by kernel_rfl) ?_ _
      refine NoPanic.normal ?_
      go_wp2_with fail
      go_roundg (xs.length - (k + 1))
      case measure => exact Nat.lt_of_lt_of_le (Nat.sub_lt_sub_left HKL.out (Nat.lt_succ_self k)) HG.out
      case rel =>
        refine ⟨k + 1, Nat.succ_le_of_lt HKL.out, Nat.le_refl _, by first | exact step_num HKL.out H16.out | go_num, B4.out.trans hbel1.out, ?_⟩
        show Own _ _ _ _ _ _ _ _
        rw [← HS.out, ← HCS.out]; exact hown1.out
    · obtain rfl : k = xs.length := by omega
      by_cases h0 : xs = []
      · subst h0
        obtain ⟨A1, c1, rfl, -⟩ := OW.out.shape
        have C := hid (g_Join0 wr A1 c1 { data := #[59] })
        clear OW
        go_wp2_with fail
        refine C.out.mono ?_
        rintro e w2 ⟨rfl, rfl⟩
        go_wp2_with fail
        go_ret
        exact ⟨rfl, BW.out⟩
      · have C := hid (g_Join (w := wr) (lo := w.heap.size) (xs.map stmT) [59] (by simpa using h0) (by simp; omega) (by have := code_take_len HV.out xs.length; rw [List.take_length] at this; omega) (by have := OW.out; rwa [List.take_length] at this))
        clear h0
        go_wp2_with fail
        refine C.out.mono ?_
        rintro e w2 ⟨rfl, hb2⟩
        have HB2 := hid (bthen BW.out hb2)
        clear C hb2
        go_wp2_with fail
        go_ret
        exact ⟨rfl, HB2.out⟩
end Go.Proofs.YtnnioicjmlfllaaGreatDoor
