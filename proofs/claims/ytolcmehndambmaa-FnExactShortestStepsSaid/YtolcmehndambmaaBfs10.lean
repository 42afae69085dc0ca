import Derived.Test.YtolcmehndambmaaBfs9
import Derived.Test.YtolcmehndambmaaSrc4
import Derived.Test.YtolcmehndambmaaCat
import Derived.Test.YtolcmehndambmaaCalm
set_option linter.unusedVariables false
set_option linter.unusedSimpArgs false
namespace Go.Proofs.Ytolcmehndambmaa
open Go.RowKit

/-- append of one number, where each other block stays. -/
theorem wp_appendK {P : Program} {ops : Array Oper} {rest : List Oper} {o : Oper} {a : Act} {Q : Exit → Act → World → Prop} {W : World} (lo : Nat) (hgd : o.guard = none) (s x : Operand) (t e : TypeId) (z : Value) (bytes : Nat)
    (ho : o.op = .call { callee := .builtin .append, args := #[s, x], argTypes := #[t, t] })
    (ht : P.underlying t = some (.slice e)) (hinfo : (P.info? e).map (fun i => (i.zero, i.size, i.bytes)) = some (some z, 1, bytes)) (hz : z.cells.size = 1)
    (v : Value) (xs : List Int) (y : Int) (hs : a.eval s = v) (hx : a.eval x = .slice (some ⟨W.heap.size, 0, none⟩) 1 1)
    (HO : OwnI W lo W.heap.size e v xs) (hlo : lo ≤ W.heap.size) (hl : xs.length + 1 ≤ 9223372036854775807) (hby : (xs.length + 1) * bytes ≤ 140737488355328)
    (h : ∀ v1 w1, OwnI w1 lo w1.heap.size e v1 (xs ++ [y]) → Below lo W w1 → (∀ k, k < W.heap.size → v.ownBlock ≠ some k → w1.heap[k]? = W.heap[k]?) → (∀ k, v1.ownBlock = some k → v.ownBlock = some k ∨ W.heap.size ≤ k) → wpList P ops Q rest (a.put o.dst v1) w1) :
    wpList P ops Q (o :: rest) a (W.alloc (.cells #[.int .i64 y] e)) := by
  obtain ⟨i0, hi, hzz⟩ := Option.map_eq_some_iff.1 hinfo
  simp only [Prod.mk.injEq] at hzz
  obtain ⟨hz0, hz1, hz2⟩ := hzz
  refine wpList_append_own_at (W.alloc (.cells #[.int .i64 y] e)) hgd s x t ho lo e i0 z 1 bytes ht hi hz0 hz1 hz2 hz (by omega) v xs.length (ints xs) hs (HO.1.alloc _) ⟨W.heap.size, 0, none⟩ 1 1 [.int .i64 y] hx rfl
    (cell_one_new _ _ _) (by intro u hu; simp at hu; subst hu; rfl) (by simp only [maxLen]; omega) hby (by simp; omega) ?_
  intro v1 w1 hown hg _ hblk
  refine h v1 w1 ?_ ?_ ?_ ?_
  · have := Own.of hown
    unfold OwnI; rw [ints_append, List.length_append]; exact this
  · refine ((Below.refl lo W).alloc hlo _).grown hg (by simp; omega) ?_
    intro k hk
    exact (HO.1.lt k hk).1
  · intro k hk hn
    rw [hg.block k (by simp; omega) (Ne.symm hn)]
    exact heap_alloc_old _ _ hk
  · intro k hk
    rcases hblk with e | e
    · exact .inl (by rw [← e]; exact hk)
    · rw [e] at hk; cases hk; right; simp
def alwN (al : List (List Int)) : Nat → Bool
  | 0 => true
  | k + 1 => alwN al k && (shufB (rw_ al k) && decide ((rw_ al k).length = (rw_ al 0).length))
theorem alwN_mono {al : List (List Int)} {j k : Nat} (h : alwN al j = false) (hk : j ≤ k) : alwN al k = false := by
  induction k with
  | zero => obtain rfl : j = 0 := by omega
            exact h
  | succ k ih => by_cases e : j = k + 1
                 · subst e; exact h
                 · simp only [alwN]; rw [ih (by omega)]; rfl
theorem alwN_all (al : List (List Int)) : alwN al al.length = al.all fun s => shufB s && decide (s.length = (rw_ al 0).length) := by
  have : ∀ n, alwN al n = allN n (fun k => shufB (rw_ al k) && decide ((rw_ al k).length = (rw_ al 0).length)) := fun n => by
    induction n with
    | zero => rfl
    | succ n ih =>
      have : allN (n + 1) (fun k => shufB (rw_ al k) && decide ((rw_ al k).length = (rw_ al 0).length)) = (allN n (fun k => shufB (rw_ al k) && decide ((rw_ al k).length = (rw_ al 0).length)) && (shufB (rw_ al n) && decide ((rw_ al n).length = (rw_ al 0).length))) := by unfold allN; rw [List.range_succ, List.all_append]; simp
      rw [this]; simp only [alwN]; rw [ih]
  rw [this, allN_rows al (fun s => shufB s && decide (s.length = (rw_ al 0).length))]
theorem s_l04Allowed (w : World) (A : Option Addr) (c : Nat) (al : List (List Int)) (hl : rsz al ≤ 1048576) (hR : RdR w A al) :
    Calls Try.prog 90 #[.slice A al.length c] w fun e w' => e = .returned (.bool (alwB al)) ∧ Below w.heap.size w w' := by
  have hn := rsz_len hl
  have c0 := s_l00In (al.length : Int) 1 4 w
  have HR := hid hR
  have HL : Hid (∀ k, k < al.length → (rw_ al k).length ≤ 1048576) := hid fun k hk => rsz_row hl hk
  clear hR hl
  cases h0 : inB (al.length : Int) 1 4 with
  | false =>
    rw [h0] at c0
    have C0 := hid c0
    have HF : Hid (false = alwB al) := hid (by unfold alwB; rw [h0]; rfl)
    clear c0 h0 HR HL
    generalize alwB al = r at HF ⊢
    go_enter Try.func90, Try.ntmps90
    go_wp2_with fail
    refine C0.out.mono ?_
    rintro e w1 ⟨rfl, rfl⟩
    go_wp2_with fail
    go_ret
    exact ⟨ret_b HF.out, Below.refl _ _⟩
  | true =>
    have hr := inB_iff.1 h0
    rw [h0] at c0
    have C0 := hid c0
    have HE : Hid (alwN al al.length = alwB al) := hid (by rw [alwN_all]; unfold alwB; rw [h0]; rfl)
    have HN : Hid (∀ k, k < al.length → (shufB (rw_ al k) && decide ((rw_ al k).length = (rw_ al 0).length)) = false → false = alwB al) := hid fun k hk h => by
      rw [← HE.out, alwN_mono (j := k + 1) (k := al.length) (by simp only [alwN]; rw [h]; simp) (by omega)]
    clear c0 h0
    generalize alwB al = r at HE HN ⊢
    go_enter Try.func90, Try.ntmps90
    go_wp2_with fail
    refine C0.out.mono ?_
    rintro e w1 ⟨rfl, rfl⟩
    clear C0
    go_wp2_with fail
    go_loopg [3] al.length (fun gg s wr => ∃ k : Nat, k ≤ al.length ∧ al.length - k ≤ gg ∧ s = .int .i64 k ∧ Aside (Below w.heap.size w wr) ∧ Aside (alwN al k = true))
    case atStart => exact ⟨0, Nat.zero_le _, by omega, rfl, Below.refl _ _, rfl⟩
    case round =>
      obtain ⟨k, hk, hg, rfl, BW, AL⟩ := hrel
      by_cases hlt : k < al.length
      · have hlt' : (k : Int) < (al.length : Int) := by omega
        have hlt0 : (0 : Int) < (al.length : Int) := by omega
        obtain ⟨bo, off, A', c', rfl, hc, _, hrow⟩ := (HR.out.below BW.out).get hlt
        obtain ⟨bo0, off0, A0, c0, e0, hc0, _, _⟩ := (HR.out.below BW.out).get (k := 0) (by omega)
        cases e0
        rw [Nat.add_zero] at hc0
        have hv := fun W (hW : Below wr.heap.size wr W) => s_l04Is W A' c' (rw_ al k) (by have := HL.out k hlt; omega) (hrow.below hW)
        have k1 : ∀ x : Lat wr, _ := fun x => lcell hc x
        have k2 : ∀ x : Lat wr, _ := fun x => lcell hc0 x
        have HNk := hid (HN.out k hlt)
        have hrl := HL.out k hlt
        have hrl0 := HL.out 0 (by omega)
        cases h1 : shufB (rw_ al k) with
        | false =>
          rw [h1] at hv
          have HV := hid hv
          have HF := hid (HNk.out (by rw [h1]; rfl))
          clear hv h1 HNk HN HE HR HL AL hrow hc hc0
          generalize (rw_ al k).length = rl at *
          go_wp2
          refine wp_region_calm (by kernel_rfl) (by kernel_rfl) ?_
          repeat (go_big_quiet_step (exact calm_of (HV.out _ (Lat.below _))))
          refine wpQuiet_nil ?_
          intro _ hw'
          obtain ⟨xq, hw''⟩ := hw'
          subst hw''
          go_wp2
          go_ret
          exact ⟨ret_b HF.out, bthen BW.out xq.below⟩
        | true =>
          rw [h1] at hv
          have HV := hid hv
          have HC := hid hc
          have HC0 := hid hc0
          by_cases hq : (rw_ al k).length = (rw_ al 0).length
          · have hq' : (((rw_ al k).length : Int) != ((rw_ al 0).length : Int)) = false := by simp [hq]
            have AL' : Aside (alwN al (k + 1) = true) := by unfold Aside; simp only [alwN]; rw [AL.out, h1]; simp [hq]
            clear hv h1 HNk HN HE HR HL AL hrow hq hc hc0
            generalize (rw_ al k).length = rl at *
            generalize (rw_ al 0).length = rl0 at *
            go_wp2
            refine wp_region_calm (by kernel_rfl) (by kernel_rfl) ?_
            repeat (go_big_quiet_step (exact calm_of (HV.out _ (Lat.below _))))
            refine wpQuiet_nil ?_
            intro _ hw'
            obtain ⟨xq, hw''⟩ := hw'
            subst hw''
            have BW' : Aside (Below w.heap.size w xq.val) := bthen BW.out xq.below
            clear HV BW
            go_wp2
            go_roundg (al.length - (k + 1))
            case measure => omega
            case rel => exact ⟨k + 1, by omega, by omega, by go_num, BW', AL'⟩
          · have hq' : (((rw_ al k).length : Int) != ((rw_ al 0).length : Int)) = true := by simp; omega
            have HF := hid (HNk.out (by rw [h1]; simp [hq]))
            clear hv h1 HNk HN HE HR HL AL hrow hq hc hc0
            generalize (rw_ al k).length = rl at *
            generalize (rw_ al 0).length = rl0 at *
            go_wp2
            refine wp_region_calm (by kernel_rfl) (by kernel_rfl) ?_
            repeat (go_big_quiet_step (exact calm_of (HV.out _ (Lat.below _))))
            refine wpQuiet_nil ?_
            intro _ hw'
            obtain ⟨xq, hw''⟩ := hw'
            subst hw''
            go_wp2
            go_ret
            exact ⟨ret_b HF.out, bthen BW.out xq.below⟩
      · have hnlt : ¬ (k : Int) < (al.length : Int) := by omega
        obtain rfl : k = al.length := by omega
        have HF : Hid (true = r) := hid (by rw [← HE.out, AL.out])
        clear HN HE HR HL AL
        go_wp2_with fail
        go_ret
        exact ⟨ret_b HF.out, BW.out⟩
end Go.Proofs.Ytolcmehndambmaa
