import Derived.Test.YtjcpjmijhloimaaSched2
import Derived.Test.YtjcpjmijhloimaaHts5
import Derived.Test.YtjcpjmijhloimaaBst2
import Derived.Test.YtjcpjmijhloimaaLst
import Derived.Test.YtjcpjmijhloimaaLst3
import Derived.Test.YtjcpjmijhloimaaLawO
import Derived.Test.YtjcpjmijhloimaaCalm
import Derived.Deep.RegionWith
import Derived.Test.YtjcpjmijhloimaaPort
import Derived.Test.YtjcpjmijhloimaaSrc2
import Derived.Test.YtjcpjmijhloimaaBase
import Derived.Test.YtjcpjmijhloimaaTsk4
import Derived.WalkKit
import Derived.ProofKit
import Derived.OpenShut
import Derived.Test.YtjcpjmijhloimaaSrc
import Derived.Test.YtjcpjmijhloimaaRows
import Derived.ShutString
import Derived.ChangeOld
import Derived.Below
set_option linter.unusedVariables false
set_option linter.unusedSimpArgs false
namespace Go.Proofs.Ytjcpjmijhloimaa
open Go.RowKit

theorem Sml.of {xs : List Int} (h : timeN xs = true) : Sml xs := fun k hk => by
  rw [timeN_eq] at h
  unfold allN at h
  have := inB_iff.1 (List.all_eq_true.1 h k (List.mem_range.2 hk))
  omega
theorem i_IsSchedule1 (W : World) (x : Int) : Calls Try.prog 120 #[.int .i64 x] W fun e w' => e = .returned (.bool (inB x 0 200)) ∧ Below W.heap.size W w' := by
  have c0 := i_within x 0 200
  generalize inB x 0 200 = r at c0 ⊢
  go_enter Try.func120, Try.ntmps120
  go_wp2_with fail
  refine (c0 _).mono ?_
  rintro e w' ⟨rfl, rfl⟩
  go_wp2_with fail
  go_ret
  exact ⟨rfl, Below.refl _ _⟩
theorem i_times (w : World) (A : Option Addr) (c : Nat) (xs : List Int) (hn : xs.length ≤ 1048576) (hR : RdI w A xs) :
    Calls Try.prog 81 #[.slice A xs.length c, .func (.func 120) #[] #[]] w fun e w' => e = .returned (.bool (timeN xs)) ∧ Below w.heap.size w w' := by
  have h := areAllI w A xs.length c (fun j => .int .i64 (el xs j)) 120 #[] (fun j => inB (el xs j) 0 200) (by omega) hR
    (enters_of Try.func120 (by kernel_rfl) rfl) (fun W' hW' j hj => i_IsSchedule1 W' (el xs j))
  rw [allN_ints xs (fun x => inB x 0 200)] at h
  exact h
set_option maxRecDepth 100000 in
theorem i_IsSchedule (w : World) (A' A : Option Addr) (c' c : Nat) (ts : List TaskV) (xs : List Int) (hlt : tsz ts ≤ 1048576) (hT : RdT w A' ts) (hl : xs.length ≤ 1048576) (hR : RdI w A xs) :
    Calls Try.prog 51 #[.slice A' ts.length c', .slice A xs.length c] w fun e w' => e = .returned (.bool (schedB ts xs)) ∧ Below w.heap.size w w' := by
  have c0 := i_ValidTasks w A' c' ts hlt hT
  have hn := tsz_len hlt
  have C1 := hid (fun W (hW : Below w.heap.size w W) => i_times W A c xs hl (hR.below hW))
  cases h0 : tasksB ts with
  | false =>
    rw [h0] at c0
    have HF : Hid (false = schedB ts xs) := hid (by unfold schedB; rw [h0]; rfl)
    have C0 := hid c0
    clear c0 h0 hT hR C1 hlt
    generalize schedB ts xs = r at HF ⊢
    go_enter Try.func51, Try.ntmps51
    go_wp2_with fail
    refine C0.out.mono ?_
    rintro e w1 ⟨rfl, hb1⟩
    go_wp2_with fail
    go_ret
    exact ⟨ret_b HF.out, hb1⟩
  | true =>
    rw [h0] at c0
    have C0 := hid c0
    have hO := TOk.of h0
    by_cases hq : xs.length = ts.length
    · have hne : ((xs.length : Int) != (ts.length : Int)) = false := by simp [hq]
      cases h1 : timeN xs with
      | false =>
        simp only [h1] at C1
        have HF : Hid (false = schedB ts xs) := hid (by unfold schedB; rw [h1]; simp)
        clear c0 h0 h1 hT hR hlt hq hO
        generalize schedB ts xs = r at HF ⊢
        go_enter Try.func51, Try.ntmps51
        go_wp2_with fail
        refine C0.out.mono ?_
        rintro e w1 ⟨rfl, hb1⟩
        go_wp2_with fail
        refine (C1.out _ hb1).mono ?_
        rintro e w2 ⟨rfl, hb2⟩
        go_wp2_with fail
        go_ret
        exact ⟨ret_b HF.out, bthen hb1 hb2⟩
      | true =>
        simp only [h1] at C1
        have hS := Sml.of h1
        have C2 := hid (fun W (hW : Below w.heap.size w W) i hi => i_fits W A A' c c' xs ts i hq hi hO hS (hR.below hW) (hT.below hW))
        have HE : Hid (fitN ts xs xs.length = schedB ts xs) := hid (by unfold schedB; rw [h0, h1]; simp [hq])
        have HN : Hid (∀ k, k < ts.length → fitN ts xs k = true → fitB ts xs k = false → false = schedB ts xs) := hid fun k hk h2 h3 => by
          rw [← HE.out]; exact (fitN_mono (j := k + 1) (by simp only [fitN]; rw [h3]; simp) (by omega)).symm
        have HQ := hid hq
        clear c0 h0 h1 hT hR hlt hq hO hS
        generalize schedB ts xs = r at HE HN ⊢
        go_enter Try.func51, Try.ntmps51
        go_wp2_with fail
        refine C0.out.mono ?_
        rintro e w1 ⟨rfl, hb1⟩
        go_wp2_with fail
        refine (C1.out _ hb1).mono ?_
        rintro e w2 ⟨rfl, hb2⟩
        have BW2 := hid (bthen hb1 hb2)
        clear hb1 hb2 C0 C1
        go_wp2_with fail
        go_loopg [23] ts.length (fun gg s wr => ∃ k : Nat, k ≤ ts.length ∧ ts.length - k ≤ gg ∧ s = .int .i64 k ∧ Aside (Below w.heap.size w wr) ∧ Aside (fitN ts xs k = true))
        case atStart => exact ⟨0, Nat.zero_le _, by omega, rfl, BW2.out, rfl⟩
        case round =>
          obtain ⟨k, hk, hg, rfl, BW, AL⟩ := hrel
          by_cases hlt : k < ts.length
          · have hc := C2.out wr BW.out k hlt
            cases h3 : fitB ts xs k with
            | false =>
              rw [h3] at hc
              have HC := hid hc
              have HF := hid (HN.out k hlt AL.out h3)
              clear hc h3 HN HE C2 HQ BW2 AL
              go_wp2_with fail
              refine HC.out.mono ?_
              rintro e w3 ⟨rfl, hb3⟩
              go_wp2_with fail
              go_ret
              exact ⟨ret_b HF.out, bthen BW.out hb3⟩
            | true =>
              rw [h3] at hc
              have HC := hid hc
              have AL' : Aside (fitN ts xs (k + 1) = true) := by unfold Aside; simp only [fitN]; rw [AL.out, h3]; rfl
              clear hc h3 HN HE C2 HQ BW2 AL
              go_wp2_with fail
              refine HC.out.mono ?_
              rintro e w3 ⟨rfl, hb3⟩
              have BW' : Aside (Below w.heap.size w w3) := bthen BW.out hb3
              clear HC
              go_wp2_with fail
              go_roundg (ts.length - (k + 1))
              case measure => omega
              case rel => exact ⟨k + 1, by omega, by omega, by go_num, BW', AL'⟩
          · have : k = ts.length := by omega
            subst this
            have HF : Hid (true = r) := hid (by rw [← HE.out, HQ.out, AL.out])
            clear HN HE C2 HQ BW2 AL
            go_wp2_with fail
            go_ret
            exact ⟨ret_b HF.out, BW.out⟩
    · have hne : ((xs.length : Int) != (ts.length : Int)) = true := by simp; omega
      have HF : Hid (false = schedB ts xs) := hid (by unfold schedB; simp [hq])
      clear c0 h0 hT hR C1 hlt hq hO
      generalize schedB ts xs = r at HF ⊢
      go_enter Try.func51, Try.ntmps51
      go_wp2_with fail
      refine C0.out.mono ?_
      rintro e w1 ⟨rfl, hb1⟩
      go_wp2_with fail
      go_ret
      exact ⟨ret_b HF.out, hb1⟩
end Go.Proofs.Ytjcpjmijhloimaa
set_option linter.unusedVariables false
set_option linter.unusedSimpArgs false
namespace Go.Proofs.Ytjcpjmijhloimaa
open Go.RowKit

end Go.Proofs.Ytjcpjmijhloimaa
set_option linter.unusedVariables false
set_option linter.unusedSimpArgs false
namespace Go.Proofs.Ytjcpjmijhloimaa
open Go.RowKit

/-! ### The length of a schedule -/
def lenN (ts : List TaskV) (xs : List Int) : Nat → Int
  | 0 => 0
  | k + 1 => max (lenN ts xs k) (el xs k + (tel ts k).lat)
def m_LengthOf (ts : List TaskV) (xs : List Int) : Int × Bool := if schedB ts xs then (lenN ts xs ts.length, true) else (0, false)
theorem schedB_parts {ts : List TaskV} {xs : List Int} (h : schedB ts xs = true) : tasksB ts = true ∧ xs.length = ts.length ∧ timeN xs = true := by
  simp only [schedB, Bool.and_eq_true, decide_eq_true_eq] at h; exact ⟨h.1, h.2.1, h.2.2.1⟩
set_option maxRecDepth 100000 in
theorem i_lengthOf (w : World) (A' A : Option Addr) (c' c : Nat) (ts : List TaskV) (xs : List Int) (hl : xs.length = ts.length) (hO : TOk ts) (hS : Sml xs) (hT : RdT w A' ts) (hR : RdI w A xs) :
    Calls Try.prog 115 #[.slice A' ts.length c', .slice A xs.length c] w fun e w' => e = .returned (.int .i64 (lenN ts xs ts.length)) ∧ Below w.heap.size w w' := by
  have hfew := hO.few
  have HO := hid hO
  have HT := hid hT
  have HR := hid hR
  have HS := hid hS
  have HL := hid hl
  have hxl : xs.length ≤ 8 := by omega
  clear hO hT hR hS hl
  go_enter Try.func115, Try.ntmps115
  go_wp2
  go_loopg [5, 10] ts.length (fun gg m s wr => ∃ k : Nat, k ≤ ts.length ∧ ts.length - k ≤ gg ∧ s = .int .i64 k ∧ m = .int .i64 (lenN ts xs k) ∧ Aside (Below w.heap.size w wr))
  case atStart => exact ⟨0, Nat.zero_le _, by omega, rfl, rfl, Below.refl _ _⟩
  case round =>
    obtain ⟨k, hk, hg, rfl, rfl, BW⟩ := hrel
    by_cases hlt : k < ts.length
    · have hlt' : (k : Int) < (xs.length : Int) := by have := HL.out; omega
      obtain ⟨bt, offt, A1, c1, rfl, p0, p1, p2, _, _⟩ := (HT.out.below BW.out).get hlt
      have hbt : Below wr.heap.size wr (wr.alloc (.cells #[.int .i64 (tel ts k).port, .int .i64 (tel ts k).lat, .slice A1 (tel ts k).needs.length c1] 74)) := ballocw wr _
      have hbv := bthen BW.out hbt
      obtain ⟨b, off, rfl, hc⟩ := ((HR.out.below BW.out).below hbt).get (k := k) (by have := HL.out; omega)
      have k1 : (wr.alloc (.cells #[.int .i64 (tel ts k).port, .int .i64 (tel ts k).lat, .slice A1 (tel ts k).needs.length c1] 74)).cell? ⟨wr.heap.size, 1, none⟩ = some (.int .i64 (tel ts k).lat) := by simp
      have hs := HS.out k (by have := HL.out; omega)
      obtain ⟨hs0, hs1⟩ := hs
      have hla := HO.out.lat k hlt
      obtain ⟨hla0, hla1⟩ := hla
      have HE0 : Hid (lenN ts xs (k + 1) = max (lenN ts xs k) (el xs k + (tel ts k).lat)) := hid rfl
      have HBV := hid (fun n => bdrewN hbv n)
      clear hbt hbv BW HO HT HR HS HL
      generalize (tel ts k).lat = l at *
      generalize (tel ts k).port = p at *
      generalize (tel ts k).needs.length = nl at *
      generalize el xs k = x at *
      generalize lenN ts xs k = m at *
      by_cases h : m < x + l
      · have HE : Hid (lenN ts xs (k + 1) = x + l) := hid (by rw [HE0.out]; omega)
        clear HE0
        go_wp2
        go_quiet (fail)
        go_wp2
        go_roundg (ts.length - (k + 1))
        case measure => omega
        case rel => exact ⟨k + 1, by omega, by omega, by go_num, by rw [HE.out], HBV.out _⟩
      · have HE : Hid (lenN ts xs (k + 1) = m) := hid (by rw [HE0.out]; omega)
        clear HE0
        go_wp2
        go_quiet (fail)
        go_wp2
        go_roundg (ts.length - (k + 1))
        case measure => omega
        case rel => exact ⟨k + 1, by omega, by omega, by go_num, by rw [HE.out], HBV.out _⟩
    · have : k = ts.length := by omega
      subst this
      clear HO HT HR HS HL
      go_wp2
      go_ret
      exact ⟨rfl, BW.out⟩
theorem i_LengthOf (w : World) (A' A : Option Addr) (c' c : Nat) (ts : List TaskV) (xs : List Int) (hlt : tsz ts ≤ 1048576) (hT : RdT w A' ts) (hl : xs.length ≤ 1048576) (hR : RdI w A xs) :
    Calls Try.prog 46 #[.slice A' ts.length c', .slice A xs.length c] w (RetZB w (m_LengthOf ts xs)) := by
  have c0 := i_IsSchedule w A' A c' c ts xs hlt hT hl hR
  have C1 : Hid (schedB ts xs = true → ∀ W, Below w.heap.size w W → _) := hid (fun h W (hW : Below w.heap.size w W) => i_lengthOf W A' A c' c ts xs (schedB_parts h).2.1 (TOk.of (schedB_parts h).1) (Sml.of (schedB_parts h).2.2) (hT.below hW) (hR.below hW))
  have HE : Hid (m_LengthOf ts xs = if schedB ts xs then (lenN ts xs ts.length, true) else (0, false)) := hid rfl
  clear hT hR hlt hl
  generalize m_LengthOf ts xs = r at HE ⊢
  generalize lenN ts xs ts.length = H at *
  cases h0 : schedB ts xs with
  | false =>
    rw [h0] at c0 HE
    have C0 := hid c0
    clear c0 h0 C1
    go_enter Try.func46, Try.ntmps46
    go_wp2_with fail
    refine C0.out.mono ?_
    rintro e w1 ⟨rfl, hb1⟩
    go_wp2_with fail
    go_ret2
    exact ⟨by rw [HE.out]; rfl, hb1⟩
  | true =>
    rw [h0] at c0 HE
    have C0 := hid c0
    have C3 := hid (C1.out h0)
    clear c0 h0 C1
    go_enter Try.func46, Try.ntmps46
    go_wp2_with fail
    refine C0.out.mono ?_
    rintro e w1 ⟨rfl, hb1⟩
    go_wp2_with fail
    refine (C3.out _ hb1).mono ?_
    rintro e w2 ⟨rfl, hb2⟩
    go_wp2_with fail
    go_ret2
    exact ⟨by rw [HE.out]; rfl, bthen hb1 hb2⟩
end Go.Proofs.Ytjcpjmijhloimaa
set_option linter.unusedVariables false
set_option linter.unusedSimpArgs false
namespace Go.Proofs.Ytjcpjmijhloimaa
open Go.RowKit

/-! ### The law of the schedules: plain lists alone -/
theorem portN_of {ts : List TaskV} {xs : List Int} {i n : Nat} (h : ∀ k, k < n → ¬ ((tel ts k).port = (tel ts i).port ∧ el xs k = el xs i)) : portN ts xs i n = true := by
  induction n with
  | zero => rfl
  | succ n ih =>
    simp only [portN]
    rw [ih fun k hk => h k (by omega)]
    have := h n (by omega)
    by_cases e1 : (tel ts n).port = (tel ts i).port
    · have e2 : (el xs n == el xs i) = false := by simpa using fun e => this ⟨e1, e⟩
      rw [e2]; simp
    · have e2 : ((tel ts n).port == (tel ts i).port) = false := by simpa using e1
      rw [e2]; simp
theorem fitN_iff {ts : List TaskV} {xs : List Int} {n : Nat} : fitN ts xs n = true ↔ ∀ i, i < n → fitB ts xs i = true := by
  induction n with
  | zero => exact ⟨fun _ i hi => absurd hi (Nat.not_lt_zero _), fun _ => rfl⟩
  | succ n ih =>
    simp only [fitN, Bool.and_eq_true]
    rw [ih]
    exact ⟨fun h i hi => by
      by_cases e : i = n
      · subst e; exact h.2
      · exact h.1 i (by omega), fun h => ⟨fun i hi => h i (by omega), h n (by omega)⟩⟩
theorem timeN_of {xs : List Int} (h : ∀ i, i < xs.length → 0 ≤ el xs i ∧ el xs i ≤ 200) : timeN xs = true := by
  unfold timeN
  rw [List.all_eq_true]
  intro x hx
  obtain ⟨j, hj, rfl⟩ := List.getElem_of_mem hx
  have e := el_get hj
  rw [List.getElem?_eq_getElem hj] at e
  have := h j hj
  rw [Option.some.inj e]
  exact inB_iff.2 ⟨this.1, this.2⟩
theorem timeN_get {xs : List Int} (h : timeN xs = true) {i : Nat} (hi : i < xs.length) : 0 ≤ el xs i ∧ el xs i ≤ 200 := by
  unfold timeN at h
  rw [List.all_eq_true] at h
  exact inB_iff.1 (h _ (el_mem hi))
theorem schedB_of {ts : List TaskV} {xs : List Int} (h : tasksB ts = true) (hl : xs.length = ts.length) (ht : ∀ i, i < xs.length → 0 ≤ el xs i ∧ el xs i ≤ 200) (hf : ∀ i, i < xs.length → fitB ts xs i = true) : schedB ts xs = true := by
  unfold schedB; rw [h, decide_eq_true hl, timeN_of ht, fitN_iff.2 hf]; rfl
theorem lenN_ge {ts : List TaskV} {xs : List Int} {i n : Nat} (hi : i < n) : el xs i + (tel ts i).lat ≤ lenN ts xs n := by
  induction n with
  | zero => omega
  | succ n ih =>
    simp only [lenN]
    by_cases e : i = n
    · subst e; omega
    · have := ih (by omega); omega
theorem lenN_low (ts : List TaskV) (xs : List Int) (n : Nat) : 0 ≤ lenN ts xs n := by
  induction n with
  | zero => simp [lenN]
  | succ n ih => simp only [lenN]; omega
theorem lenN_le {ts : List TaskV} {xs : List Int} {L : Int} (h0 : 0 ≤ L) {n : Nat} (h : ∀ i, i < n → el xs i + (tel ts i).lat ≤ L) : lenN ts xs n ≤ L := by
  induction n with
  | zero => exact h0
  | succ n ih => simp only [lenN]; have := ih fun i hi => h i (by omega); have := h n (by omega); omega
/-- In a schedule, each task's height fits behind its time. -/
theorem height_fits {ts : List TaskV} (hO : TOk ts) {xs : List Int} (hl : xs.length = ts.length) (hf : ∀ i, i < ts.length → fitB ts xs i = true) :
    ∀ d i, i + d + 1 = ts.length → el xs i + el (hts ts) i ≤ lenN ts xs ts.length := by
  intro d
  induction d using Nat.strongRecOn with
  | ind d ih =>
    intro i hid
    rw [hts_at hO (by omega)]
    have key : ∀ m, m + i + 1 ≤ ts.length → el xs i + (tel ts i).lat + el (htN ts m) i ≤ lenN ts xs ts.length := by
      intro m
      induction m with
      | zero =>
        intro _
        have : el (htN ts 0) i = 0 := by
          show el (List.replicate ts.length 0) i = 0
          unfold el; rw [List.getD_eq_getElem?_getD, List.getElem?_replicate]; split <;> rfl
        have := lenN_ge (ts := ts) (xs := xs) (i := i) (n := ts.length) (by omega)
        omega
      | succ m ihm =>
        intro hm
        have h1 := ihm (by omega)
        have hb := ht_behind hO (i := i) (k := ts.length - (m + 1)) (by omega) (by omega)
        rw [show ts.length - (ts.length - (m + 1)) = m + 1 by omega, show ts.length - (ts.length - (m + 1) + 1) = m by omega] at hb
        rw [hb]
        split
        · rename_i hmem
          have hfk := hf (ts.length - (m + 1)) (by omega)
          unfold fitB at hfk
          rw [Bool.and_eq_true] at hfk
          have h2 := hfk.2
          unfold lateN at h2
          rw [List.all_eq_true] at h2
          have h3 := h2 _ hmem
          unfold lateB at h3
          rw [decide_eq_true_eq, Int.toNat_natCast] at h3
          have h4 := ih m (by omega) (ts.length - (m + 1)) (by omega)
          omega
        · exact h1
    have := key (ts.length - (i + 1)) (by omega)
    omega
theorem part_of {ts : List TaskV} {xs : List Int} (h : schedB ts xs = true) : Part ts (lenN ts xs ts.length) xs ∧ xs.length = ts.length := by
  obtain ⟨h1, h2, h3⟩ := schedB_parts h
  have hO := TOk.of h1
  have hf : ∀ i, i < ts.length → fitB ts xs i = true := by
    simp only [schedB, Bool.and_eq_true] at h
    have := fitN_iff.1 h.2.2.2
    rw [h2] at this; exact this
  exact ⟨⟨by omega, fun i hi => hf i (by omega), fun i hi => (timeN_get h3 hi).1, fun i hi => height_fits hO h2 hf (ts.length - (i + 1)) i (by omega)⟩, h2⟩
theorem best_least {ts : List TaskV} {xs : List Int} (h : schedB ts xs = true) : bstL ts ≤ lenN ts xs ts.length := by
  have hO := TOk.of (schedB_parts h).1
  obtain ⟨hp, hl⟩ := part_of h
  have h0 := lenN_low ts xs ts.length
  have hm := part_path hp hl h0
  have hB := Best.of hO
  by_cases e : bstL ts ≤ lenN ts xs ts.length
  · exact e
  · have h1 := hB.no _ hm (by omega)
    have h2 := plD_whole hO hp hl
    rw [h1] at h2
    cases h2
theorem best_sched {ts : List TaskV} (h : tasksB ts = true) : schedB ts (bstS ts) = true ∧ lenN ts (bstS ts) ts.length = bstL ts := by
  have hO := TOk.of h
  have hB := Best.of hO
  have hl := hB.len
  have hp := hB.part
  have hh := hB.high
  have hlow := hB.low
  have hpath := hB.path
  have hs : schedB ts (bstS ts) = true := schedB_of h hl (fun i hi => by
    have h1 := hp.ge i hi
    have h2 := hp.le i hi
    have h3 := bnd_hts hO i
    omega) hp.fit
  refine ⟨hs, ?_⟩
  have h1 := best_least hs
  have h2 : lenN ts (bstS ts) ts.length ≤ bstL ts := lenN_le (by omega) fun i hi => by
    have h1 := hp.le i (by omega)
    have h2 := hts_ge hO hi
    omega
  omega
/-! The schedule by a list fits -/
structure LsI (ts : List TaskV) (xs : List Int) (now : Int) (p : Nat) : Prop where
  len : xs.length = ts.length
  need : ∀ i, i < ts.length → 0 ≤ el xs i → ∀ x ∈ (tel ts i).needs, 0 ≤ el xs x.toNat ∧ el xs x.toNat + (tel ts x.toNat).lat ≤ el xs i
  port : ∀ i k, i < ts.length → k < ts.length → i ≠ k → 0 ≤ el xs i → el xs i = el xs k → (tel ts i).port ≠ (tel ts k).port
  now : ∀ k, k < ts.length → el xs k = now → (tel ts k).port < p
theorem LsI.prt {ts : List TaskV} (hO : TOk ts) {xs : List Int} {now : Int} {p : Nat} (h : LsI ts xs now p) (h0 : 0 ≤ now) : LsI ts (prtN ts now xs p) now (p + 1) := by
  rcases prt_cases h.len now (p : Int) with ⟨e, _⟩ | ⟨i, hi, _, e, hn, hd, hp⟩
  · rw [e]; exact ⟨h.len, h.need, h.port, fun k hk hk2 => by have := h.now k hk hk2; omega⟩
  · rw [e]
    have hil : i < xs.length := by have := h.len; omega
    have hnow : el (xs.set i now) i = now := el_set_same hil _
    refine ⟨by rw [List.length_set]; exact h.len, fun j hj hj0 x hx => ?_, fun j k hj hk hjk hj0 he => ?_, fun k hk hk2 => ?_⟩
    · have hb := need_in hO hj hx
      by_cases ej : i = j
      · subst ej
        rw [hnow, el_set_other (by omega)]
        unfold doneN at hd
        rw [List.all_eq_true] at hd
        have := hd x hx
        unfold doneB at this
        rw [Bool.and_eq_true, decide_eq_true_eq, decide_eq_true_eq] at this
        exact this
      · rw [el_set_other ej] at hj0 ⊢
        have := h.need j hj hj0 x hx
        by_cases ex : i = x.toNat
        · rw [← ex] at this; omega
        · rw [el_set_other ex]; exact this
    · by_cases ej : i = j
      · subst ej
        rw [hnow, el_set_other (by omega)] at he
        have := h.now k hk he.symm
        omega
      · rw [el_set_other ej] at hj0 he
        by_cases ek : i = k
        · subst ek
          rw [hnow] at he
          have := h.now j hj he
          omega
        · rw [el_set_other ek] at he
          exact h.port j k hj hk hjk hj0 he
    · by_cases ek : i = k
      · subst ek; omega
      · rw [el_set_other ek] at hk2
        have := h.now k hk hk2
        omega
theorem LsI.tm {ts : List TaskV} (hO : TOk ts) {xs : List Int} {now : Int} (h : LsI ts xs now 0) (h0 : 0 ≤ now) (p : Nat) : LsI ts (tmN ts now xs p) now p := by
  induction p with
  | zero => exact h
  | succ p ih => simp only [tmN]; exact ih.prt hO h0
theorem LsI.lst {ts : List TaskV} (hO : TOk ts) (t : Nat) : LsI ts (lstN ts t) t 0 := by
  induction t with
  | zero =>
    have hz : ∀ k, k < ts.length → el (lstN ts 0) k = -1 := fun k hk => by
      show el (List.replicate ts.length (-1)) k = -1
      unfold el; rw [List.getD_eq_getElem?_getD, List.getElem?_replicate, if_pos hk]; rfl
    refine ⟨lstN_length ts 0, fun i hi h0 => ?_, fun i k hi _ _ h0 => ?_, fun k hk h => ?_⟩
    · rw [hz i hi] at h0; omega
    · rw [hz i hi] at h0; omega
    · rw [hz k hk] at h; simp at h
  | succ t ih =>
    have h := ih.tm hO (by omega) 3
    have hu := lst_upto ts (t + 1)
    refine ⟨lstN_length ts (t + 1), h.need, h.port, fun k hk hk2 => ?_⟩
    have := hu k (by rw [lstN_length]; exact hk)
    omega
theorem lst_sched {ts : List TaskV} (h : tasksB ts = true) : schedB ts (lstS ts) = true := by
  have hO := TOk.of h
  obtain ⟨h0, h1, _⟩ := lstT_spec hO
  have hI := LsI.lst hO (lstT ts)
  have hl : (lstS ts).length = ts.length := lstN_length ts _
  have hu := lst_upto ts (lstT ts)
  have hfew := hO.few
  have hp : ∀ k, k < ts.length → 0 ≤ el (lstS ts) k ∧ el (lstS ts) k < 48 := fun k hk => by
    have h2 := hu k (by rw [lstN_length]; exact hk)
    rcases h2 with h2 | h2
    · exfalso
      have hm := el_mem (xs := lstN ts (lstT ts)) (k := k) (by rw [lstN_length]; exact hk)
      rw [h2] at hm
      have := List.count_pos_iff.2 hm
      unfold un at h0
      omega
    · have : (lstT ts : Int) ≤ 48 := by omega
      exact ⟨h2.1, by show el (lstN ts (lstT ts)) k < 48; omega⟩
  refine schedB_of h hl (fun i hi => by have := hp i (by omega); omega) fun i hi => ?_
  rw [hl] at hi
  have hpi := hp i hi
  unfold fitB
  rw [Bool.and_eq_true]
  constructor
  · exact portN_of fun k hk hpk => by
      have hpk' := hp k (by omega)
      exact hI.port k i (by omega) hi (by omega) hpk'.1 hpk.2 hpk.1
  · unfold lateN
    rw [List.all_eq_true]
    intro x hx
    have := hI.need i hi hpi.1 x hx
    unfold lateB
    rw [decide_eq_true_eq]
    exact this.2
/-! What is behind a task, in the law's order -/
def bhN (ts : List TaskV) (i : Nat) : Nat → Int
  | 0 => 0
  | m + 1 => if decide ((i : Int) ∈ (tel ts (i + 1 + m)).needs) && decide (bhN ts i m < el (hts ts) (i + 1 + m)) then el (hts ts) (i + 1 + m) else bhN ts i m
theorem bhN_low {ts : List TaskV} (hO : TOk ts) (i m : Nat) : 0 ≤ bhN ts i m := by
  induction m with
  | zero => simp [bhN]
  | succ m ih => simp only [bhN]; split
                 · have := bnd_hts hO (i + 1 + m); omega
                 · exact ih
theorem bhN_at {ts : List TaskV} (hO : TOk ts) {i : Nat} (hi : i < ts.length) : el (hts ts) i = (tel ts i).lat + bhN ts i (ts.length - (i + 1)) := by
  have key : ∀ m, i + 1 + m ≤ ts.length → el (htN ts (ts.length - (i + 1))) i = max (bhN ts i m) (el (htN ts (ts.length - (i + 1 + m))) i) := by
    intro m
    induction m with
    | zero =>
      intro hm
      have := bnd_htN hO (ts.length - (i + 1)) (by omega) i
      rw [Nat.add_zero]
      simp only [bhN]; omega
    | succ m ih =>
      intro hm
      rw [ih (by omega), ht_behind hO (i := i) (k := i + 1 + m) (by omega) (by omega)]
      simp only [bhN]
      have e : ts.length - (i + 1 + m + 1) = ts.length - (i + 1 + (m + 1)) := by omega
      rw [e]
      by_cases hmem : (i : Int) ∈ (tel ts (i + 1 + m)).needs
      · rw [if_pos hmem, decide_eq_true hmem]
        by_cases hlt : bhN ts i m < el (hts ts) (i + 1 + m)
        · rw [decide_eq_true hlt, if_pos (show (true && true) = true from rfl)]; omega
        · rw [decide_eq_false hlt, if_neg (by simp)]; omega
      · rw [if_neg hmem, decide_eq_false hmem, if_neg (by simp)]
  have h1 := key (ts.length - (i + 1)) (by omega)
  have h2 : el (htN ts (ts.length - (i + 1 + (ts.length - (i + 1))))) i = 0 := by
    rw [show ts.length - (i + 1 + (ts.length - (i + 1))) = 0 by omega]
    show el (List.replicate ts.length 0) i = 0
    unfold el; rw [List.getD_eq_getElem?_getD, List.getElem?_replicate]; split <;> rfl
  have h3 : ∀ m, 0 ≤ bhN ts i m := fun m => by
    induction m with
    | zero => simp [bhN]
    | succ m ih => simp only [bhN]; split
                   · have := bnd_hts hO (i + 1 + m); omega
                   · exact ih
  have h4 := h3 (ts.length - (i + 1))
  rw [hts_at hO hi, h1, h2]
  omega
end Go.Proofs.Ytjcpjmijhloimaa
set_option linter.unusedVariables false
set_option linter.unusedSimpArgs false
namespace Go.Proofs.Ytjcpjmijhloimaa
open Go.RowKit

theorem take_same {xs ys : List Int} {i n : Nat} (hx : xs.length = n) (hy : ys.length = n) (hi : i ≤ n) (h : ∀ k, k < i → el xs k = el ys k) : xs.take i = ys.take i := by
  apply el_ext
  · rw [List.length_take, List.length_take, hx, hy]
  · intro k hk
    rw [List.length_take] at hk
    rw [el_tk (by omega), el_tk (by omega), h k (by omega)]
def Sm0 (xs : List Int) : Prop := ∀ k, k < xs.length → 0 ≤ el xs k ∧ el xs k ≤ 1000
theorem Sm0.sml {xs : List Int} (h : Sm0 xs) : Sml xs := fun k hk => by have := h k hk; omega
theorem Sm0.set {xs : List Int} (h : Sm0 xs) (i : Nat) {t : Int} (h0 : 0 ≤ t) (h1 : t ≤ 1000) : Sm0 (xs.set i t) := fun k hk => by
  rw [List.length_set] at hk
  by_cases e : i = k
  · subst e; rw [el_set_same hk]; exact ⟨h0, h1⟩
  · rw [el_set_other e]; exact h k hk
/-- What complete leaves: the times at g. -/
def CmpR (g c1 : Nat) (ts : List TaskV) (L : Int) (d i : Nat) (xs : List Int) (W : World) (e : Ending) (W' : World) : Prop :=
  e = .returned (.bool (plD ts L d (xs.take i)).isSome) ∧ ∃ xs', OI W' g (g + 1) (.slice (some ⟨g, 0, none⟩) ts.length c1) xs' ∧ xs'.length = ts.length ∧ (∀ k, k < i → el xs' k = el xs k) ∧ Sm0 xs' ∧
    (∀ q, plD ts L d (xs.take i) = some q → xs' = q) ∧ Chg g (g + 1) W W'
set_option maxRecDepth 100000 in
set_option maxHeartbeats 1000000 in
theorem i_complete (ts : List TaskV) (hO : TOk ts) (L : Int) (hL0 : 0 ≤ L) (hL1 : L ≤ 300) (A' A2 : Option Addr) (c' c2 g c1 : Nat) (W0 : World) (hK : ∀ W, Chg g (g + 1) W0 W → RdT W A' ts ∧ RdI W A2 (hts ts)) :
    ∀ (d i : Nat) (xs : List Int) (W : World), i + d = ts.length → xs.length = ts.length → Sm0 xs → OI W g (g + 1) (.slice (some ⟨g, 0, none⟩) ts.length c1) xs → Chg g (g + 1) W0 W →
    Calls Try.prog 119 #[.slice A' ts.length c', .slice A2 ts.length c2, .slice (some ⟨g, 0, none⟩) ts.length c1, .int .i64 (i : Nat), .int .i64 L] W (CmpR g c1 ts L d i xs W) := by
  have hfew := hO.few
  intro d
  induction d with
  | zero =>
    intro i xs W hid' hxl hS hv hC
    have hi : i = ts.length := by omega
    have he : ((i : Int) == (ts.length : Int)) = true := by simp [hi]
    have HR : Hid (CmpR g c1 ts L 0 i xs W (.returned (.bool true)) W) := hid ⟨rfl, xs, hv, hxl, fun _ _ => rfl, hS, fun q hq => by
      simp only [plD, Option.some.injEq] at hq; rw [← hq, List.take_of_length_le (by omega)], Chg.refl _ _ _⟩
    clear hv hS hC hK hi
    generalize ts.length = n at *
    go_enter Try.func119, Try.ntmps119
    go_wp2
    go_ret
    exact HR.out
  | succ d ih =>
    intro i xs W hid' hxl hS hv hC
    have hi : i < ts.length := by omega
    have he : ((i : Int) == (ts.length : Int)) = false := by simp; omega
    have hin : (i : Int) < (ts.length : Int) := by omega
    have hpl : (xs.take i).length = i := by rw [List.length_take]; omega
    obtain ⟨T, hT⟩ : ∃ T : Nat, T = (L - el (hts ts) i + 1).toNat := ⟨_, rfl⟩
    have hhb := bnd_hts hO i
    have HPT : Hid (plD ts L (d + 1) (xs.take i) = plT (fun t => if fitP ts (xs.take i) t then plD ts L d (xs.take i ++ [t]) else none) (T - 0) ((0 : Nat) : Int)) := hid (by simp only [plD]; rw [hpl, hT]; rfl)
    have HK := hid hK
    have HO := hid hO
    have IH := hid ih
    have HV := hid hv
    have HS := hid hS
    have HC := hid hC
    have HXL := hid hxl
    have HID := hid hid'
    have HIN := hid hi
    have HF : Hid (∀ t : Nat, ∀ q, fitP ts (xs.take i) t = true → plD ts L d (xs.take i ++ [(t : Int)]) = q → (fun t => if fitP ts (xs.take i) t then plD ts L d (xs.take i ++ [t]) else none) (t : Int) = q) := hid fun t q h1 h2 => by
      show (if fitP ts (xs.take i) t then plD ts L d (xs.take i ++ [(t : Int)]) else none) = q
      rw [if_pos h1, h2]
    have HFN : Hid (∀ t : Nat, fitP ts (xs.take i) t = false → (fun t => if fitP ts (xs.take i) t then plD ts L d (xs.take i ++ [t]) else none) (t : Int) = none) := hid fun t h1 => by
      show (if fitP ts (xs.take i) t then plD ts L d (xs.take i ++ [(t : Int)]) else none) = none
      rw [if_neg (by rw [h1]; simp)]
    have HFP : Hid (∀ (ys : List Int) (t : Nat), ys.length = ts.length → (∀ k, k < i → el ys k = el xs k) → el ys i = t → fitB ts ys i = fitP ts (xs.take i) t ∧ ys.take (i + 1) = xs.take i ++ [(t : Int)] ∧ ys.take i = xs.take i) := hid fun ys t h1 h2 h3 => by
      have e1 : ys.take i = xs.take i := take_same h1 hxl (by omega) h2
      have e2 : ys.take (i + 1) = xs.take i ++ [(t : Int)] := by rw [el_take (by omega), e1, h3]
      refine ⟨?_, e2, e1⟩
      unfold fitP
      rw [hpl, ← e2]
      exact fitB_congr hO (by omega) fun k hk => (el_tk (by omega)).symm
    clear hv hS hC hK hxl hid' hO ih hpl hi
    have hHc : ∀ W, Chg g (g + 1) W0 W → ∃ b off, A2 = some ⟨b, off, none⟩ ∧ W.cell? ⟨b, off + i, none⟩ = some (.int .i64 (el (hts ts) i)) := fun W h => (HK.out W h).2.get (by rw [hts_length]; exact HIN.out)
    have HHC := hid hHc
    clear hHc
    obtain ⟨b2, off2, rfl, _⟩ := HHC.out W0 (Chg.refl _ _ _)
    have hTT : ∀ t : Nat, (t : Int) + el (hts ts) i ≤ L ↔ t < T := fun t => by omega
    have HTT := hid hTT
    have hT300 : T ≤ 301 := by omega
    clear hTT hT
    generalize (fun t => if fitP ts (xs.take i) t then plD ts L d (xs.take i ++ [t]) else none) = F at *
    unfold CmpR
    generalize plD ts L (d + 1) (xs.take i) = R at *
    obtain ⟨hh0, hh1⟩ := hhb
    generalize hhe : el (hts ts) i = h at *
    clear hhe
    go_enter Try.func119, Try.ntmps119
    go_wp2
    go_loopg [11] T (fun gg s wr => ∃ t : Nat, t ≤ T ∧ T - t ≤ gg ∧ s = .int .i64 t ∧ Aside (Chg g (g + 1) W wr) ∧ Aside (plT F (T - t) (t : Nat) = R) ∧
      Aside (∃ ys, OI wr g (g + 1) (.slice (some ⟨g, 0, none⟩) ts.length c1) ys ∧ ys.length = ts.length ∧ (∀ k, k < i → el ys k = el xs k) ∧ Sm0 ys))
    case atStart => exact ⟨0, Nat.zero_le _, by omega, rfl, Chg.refl _ _ _, HPT.out.symm, xs, HV.out, HXL.out, fun _ _ => rfl, HS.out⟩
    case round =>
      obtain ⟨t, ht, hg, rfl, BW, AL, hys⟩ := hrel
      obtain ⟨ys, hoy, hyl, hyk, hys⟩ := hys.out
      obtain ⟨b3, off3, e3, hch⟩ := HHC.out wr (HC.out.trans BW.out)
      cases e3
      by_cases hlt : t < T
      · have hle : (t : Int) + h ≤ L := (HTT.out t).2 hlt
        obtain ⟨g', hg', _, _, hcg, hfg, hset⟩ := OwnI.at hoy (k := i) (by have := HIN.out; omega)
        cases hg'
        have hch1 := chg_set wr (Nat.le_refl g) (Nat.lt_succ_self g) i (.int .i64 (t : Nat))
        have hC1 := BW.out.trans hch1
        have hK1 := HK.out _ (HC.out.trans hC1)
        have hzl : (ys.set i (t : Int)).length = ts.length := by simp [hyl]
        have hzk : ∀ k, k < i → el (ys.set i (t : Int)) k = el xs k := fun k hk => by rw [el_set_other (by omega), hyk k hk]
        have hzi : el (ys.set i (t : Int)) i = t := el_set_same (by have := HIN.out; omega) _
        have hzS := hys.set i (t := (t : Int)) (by omega) (by omega)
        obtain ⟨q1, q2, _⟩ := HFP.out (ys.set i (t : Int)) t hzl hzk hzi
        have CF := i_fits (wr.setCell ⟨g, i, none⟩ (.int .i64 (t : Nat))) (some ⟨g, 0, none⟩) A' c1 c' (ys.set i (t : Int)) ts i hzl HIN.out HO.out hzS.sml (OwnI.rd (hset t)) hK1.1
        rw [q1, hzl] at CF
        have hst := plT_step F hlt
        rw [AL.out] at hst
        have HST := hid hst
        have CFH := hid CF
        have HZL := hid hzl
        have HZK := hid hzk
        have HZS := hid hzS
        have HZO := hid (hset t)
        have HC1 := hid hC1
        have HQ2 := hid q2
        clear hst CF hzl hzk hzS hset hC1 hK1 q1 q2 hoy hyl hyk hys hzi hch1 AL BW HHC HPT HV HS HXL HTT
        cases hf : fitP ts (xs.take i) (t : Int) with
        | false =>
          rw [hf] at CFH
          have HN := hid (HFN.out t hf)
          clear hf HF HFN IH
          go_wp2_with fail
          refine CFH.out.mono ?_
          rintro e w5 ⟨rfl, hb5⟩
          have BW5 : Aside (Chg g (g + 1) W w5) := HC1.out.trans (Chg.of hb5 (Nat.le_refl _))
          have AL5 : Aside (plT F (T - (t + 1)) ((t + 1 : Nat) : Int) = R) := by unfold Aside; rw [HST.out, HN.out]; rfl
          have hgz : g < (wr.setCell ⟨g, i, none⟩ (.int .i64 (t : Nat))).heap.size := ((HZO.out).1.lt g rfl).2
          have YS5 : Aside (∃ ys, OI w5 g (g + 1) (.slice (some ⟨g, 0, none⟩) ts.length c1) ys ∧ ys.length = ts.length ∧ (∀ k, k < i → el ys k = el xs k) ∧ Sm0 ys) := ⟨_, OI.eqv HZO.out (Eqv.of hb5 (by omega)), HZL.out, HZK.out, HZS.out⟩
          clear hb5 HST HN CFH HZO HZL HZK HZS HC1 HQ2 hch
          go_wp2_with fail
          go_roundg (T - (t + 1))
          case measure => omega
          case rel => exact ⟨t + 1, by omega, by omega, by go_num, BW5, AL5, YS5⟩
        | true =>
          rw [hf] at CFH
          have HFT := hid (HF.out t)
          have hgz : g < (wr.setCell ⟨g, i, none⟩ (.int .i64 (t : Nat))).heap.size := ((HZO.out).1.lt g rfl).2
          have CR := hid (fun w5 (hb5 : Below (wr.setCell ⟨g, i, none⟩ (.int .i64 (t : Nat))).heap.size (wr.setCell ⟨g, i, none⟩ (.int .i64 (t : Nat))) w5) => IH.out (i + 1) (ys.set i (t : Int)) w5 (by have := HID.out; omega) HZL.out HZS.out (OI.eqv HZO.out (Eqv.of hb5 (by omega))) (HC.out.trans (HC1.out.trans (Chg.of hb5 (Nat.le_refl _)))))
          have e1 : ((i + 1 : Nat) : Int) = (i : Int) + 1 := by omega
          rw [e1] at CR
          unfold CmpR at CR
          rw [HQ2.out] at CR
          have HFT2 := hid (HFT.out _ hf rfl)
          clear HFT hf HF HFN IH e1
          generalize plD ts L d (xs.take i ++ [(t : Int)]) = R2 at *
          cases R2 with
          | some q =>
            have HRq : Hid (R = some q) := hid (by rw [HST.out, HFT2.out]; rfl)
            clear HST HFT2
            go_wp2_with fail
            refine CFH.out.mono ?_
            rintro e w5 ⟨rfl, hb5⟩
            have CR5 := hid (CR.out w5 hb5)
            have HC5 := hid (HC1.out.trans (Chg.of hb5 (Nat.le_refl _)))
            clear CR CFH hb5
            go_wp2_with fail
            refine CR5.out.mono ?_
            rintro e w6 ⟨rfl, zs, z1, z2, z3, z4, z5, z6⟩
            have hzq := z5 q rfl
            have HRR : Hid (Ending.returned (.bool true) = Ending.returned (.bool R.isSome) ∧ ∃ xs', OI w6 g (g + 1) (.slice (some ⟨g, 0, none⟩) ts.length c1) xs' ∧ xs'.length = ts.length ∧ (∀ k, k < i → el xs' k = el xs k) ∧ Sm0 xs' ∧ (∀ q, R = some q → xs' = q) ∧ Chg g (g + 1) W w6) := hid (by
              refine ⟨by rw [HRq.out]; rfl, zs, z1, z2, fun k hk => by rw [z3 k (by omega), HZK.out k hk], z4, fun q' hq' => ?_, HC5.out.trans z6⟩
              rw [HRq.out] at hq'; cases hq'; exact hzq)
            clear z1 z2 z3 z4 z5 z6 hzq HRq CR5 HC5 HZO HZL HZK HZS HC1 HQ2 hch
            go_wp2
            go_ret
            exact HRR.out
          | none =>
            have AL5 : Aside (plT F (T - (t + 1)) ((t + 1 : Nat) : Int) = R) := by unfold Aside; rw [HST.out, HFT2.out]; rfl
            clear HST HFT2
            go_wp2_with fail
            refine CFH.out.mono ?_
            rintro e w5 ⟨rfl, hb5⟩
            have CR5 := hid (CR.out w5 hb5)
            have HC5 := hid (HC1.out.trans (Chg.of hb5 (Nat.le_refl _)))
            clear CR CFH hb5
            go_wp2_with fail
            refine CR5.out.mono ?_
            rintro e w6 ⟨rfl, zs, z1, z2, z3, z4, z5, z6⟩
            have BW6 : Aside (Chg g (g + 1) W w6) := HC5.out.trans z6
            have YS6 : Aside (∃ ys, OI w6 g (g + 1) (.slice (some ⟨g, 0, none⟩) ts.length c1) ys ∧ ys.length = ts.length ∧ (∀ k, k < i → el ys k = el xs k) ∧ Sm0 ys) := ⟨zs, z1, z2, fun k hk => by rw [z3 k (by omega), HZK.out k hk], z4⟩
            clear z1 z2 z3 z4 z5 z6 CR5 HC5 HZO HZL HZK HZS HC1 HQ2 hch
            go_wp2_with fail
            go_roundg (T - (t + 1))
            case measure => omega
            case rel => exact ⟨t + 1, by omega, by omega, by go_num, BW6, AL5, YS6⟩
      · have hle : ¬ (t : Int) + h ≤ L := fun h1 => hlt ((HTT.out t).1 h1)
        have hRn : none = R := by have := AL.out; rw [show T - t = 0 by omega] at this; exact this
        have HRR : Hid (Ending.returned (.bool false) = Ending.returned (.bool R.isSome) ∧ ∃ xs', OI wr g (g + 1) (.slice (some ⟨g, 0, none⟩) ts.length c1) xs' ∧ xs'.length = ts.length ∧ (∀ k, k < i → el xs' k = el xs k) ∧ Sm0 xs' ∧ (∀ q, R = some q → xs' = q) ∧ Chg g (g + 1) W wr) :=
          hid ⟨by rw [← hRn]; rfl, ys, hoy, hyl, hyk, hys, (fun q hq => by rw [← hRn] at hq; cases hq), BW.out⟩
        clear hRn hoy hyl hyk hys AL BW HF HFN HFP IH HHC HPT HV HS HXL HTT hlt
        go_wp2
        go_ret
        exact HRR.out
end Go.Proofs.Ytjcpjmijhloimaa
set_option linter.unusedVariables false
set_option linter.unusedSimpArgs false
namespace Go.Proofs.Ytjcpjmijhloimaa
open Go.RowKit

def RetIZB (w : World) (r : List Int × Int × Bool) (en : Ending) (w' : World) : Prop := ∃ v, en = .returned (.tuple #[v, .int .i64 r.2.1, .bool r.2.2]) ∧ OI w' w.heap.size w'.heap.size v r.1 ∧ Below w.heap.size w w'
end Go.Proofs.Ytjcpjmijhloimaa
set_option linter.unusedVariables false
set_option linter.unusedSimpArgs false
namespace Go.Proofs.Ytjcpjmijhloimaa
open Go.RowKit

/-- The boxes of BestSchedule: the heights, the times at g. -/
structure BsW (w : World) (ts : List TaskV) (A2 : Option Addr) (g : Nat) (W : World) : Prop where
  below : Below w.heap.size w W
  ge : w.heap.size ≤ g
  lt : g < W.heap.size
  times : OI W g (g + 1) (.slice (some ⟨g, 0, none⟩) ts.length ts.length) (List.replicate ts.length 0)
  high : ∀ V, Chg g (g + 1) W V → RdI V A2 (hts ts)
theorem BsW.one {w w1 w2 : World} {ts : List TaskV} {A2 : Option Addr} {c2 : Nat} (hb1 : Below w.heap.size w w1) (hb2 : Below w1.drew.heap.size w1.drew w2) (ho : OwnI w2 w1.drew.heap.size w2.heap.size 2 (.slice A2 (hts ts).length c2) (hts ts)) (hn : ts.length ≤ 8) :
    BsW w ts A2 w2.heap.size (w2.alloc (.cells (madeCells #[.int .i64 0] ts.length) 2)) := by
  have hba := ballocw w2 (.cells (madeCells #[.int .i64 0] ts.length) 2)
  have h1 := bthen (bthen hb1 (bdrewL w1)) hb2
  have hm := own_made w2 2 (.int .i64 0) ts.length (by omega)
  refine ⟨bthen h1 hba, h1.size, by simp, ?_, fun V hV => ?_⟩
  · unfold OI OwnI; rw [List.length_replicate]; rw [ints_replicate] at hm; exact hm
  · exact OwnI.rd (Own.eqv (ho.eqv (Eqv.of hba (Nat.le_refl _))) (hV.eqv (a := w1.drew.heap.size) (b := w2.heap.size) (.inl (Nat.le_refl _)) (by simp)))
theorem BsW.two {w w1 w2 : World} {ts : List TaskV} {A2 : Option Addr} {c2 : Nat} (hb1 : Below w.heap.size w w1) (hb2 : Below (w1.alloc (.cells (madeCells #[.int .i64 0] ts.length) 2)).drew.heap.size (w1.alloc (.cells (madeCells #[.int .i64 0] ts.length) 2)).drew w2)
    (ho : OwnI w2 (w1.alloc (.cells (madeCells #[.int .i64 0] ts.length) 2)).drew.heap.size w2.heap.size 2 (.slice A2 (hts ts).length c2) (hts ts)) (hn : ts.length ≤ 8) :
    BsW w ts A2 w1.heap.size w2 := by
  have hba := bdrew (ballocw w1 (.cells (madeCells #[.int .i64 0] ts.length) 2))
  have h1 := bthen (bthen hb1 hba) hb2
  have hm := own_made w1 2 (.int .i64 0) ts.length (by omega)
  have hsz : (w1.alloc (.cells (madeCells #[.int .i64 0] ts.length) 2)).drew.heap.size = w1.heap.size + 1 := by show (w1.alloc _).heap.size = _; simp
  rw [hsz] at ho
  have hz2 := hb2.size
  rw [hsz] at hz2
  refine ⟨h1, hb1.size, by omega, ?_, fun V hV => ?_⟩
  · unfold OI OwnI; rw [List.length_replicate]; rw [ints_replicate] at hm
    exact (own_drew hm).eqv (Eqv.of hb2 (by omega))
  · exact OwnI.rd (Own.eqv ho (hV.eqv (.inr (Nat.le_refl _)) (Nat.le_refl _)))
set_option maxRecDepth 100000 in
set_option maxHeartbeats 1000000 in
theorem i_BestSchedule1 (w : World) (A : Option Addr) (c : Nat) (ts : List TaskV) (hO : TOk ts) (hT : RdT w A ts)
    (C0 : Hid (Calls Try.prog 113 #[.slice A ts.length c] w fun e w' => e = .returned (.bool true) ∧ Below w.heap.size w w')) :
    Calls Try.prog 47 #[.slice A ts.length c] w (RetIZB w (bstS ts, bstL ts, true)) := by
  have hfew := hO.few
  have hmk := makeInt ts.length (by omega)
  have HB := hid (Best.of hO)
  have CH := hid (fun W (hW : Below w.heap.size w W) => i_heights W A c ts hO (hT.below hW))
  have CG := hid (fun W A2 c2 (h : RdI W A2 (hts ts)) => i_greatest W A2 c2 (hts ts) (by rw [hts_length]; omega) h)
  have CP := hid (fun W (hW : Below w.heap.size w W) => i_portBound W A c ts hO (hT.below hW))
  have HT := hid hT
  have HO := hid hO
  have hhl := hts_length ts
  rw [hhl] at CG
  have HHL := hid hhl
  clear hT hO hhl
  go_enter Try.func47, Try.ntmps47
  go_wp2_with fail
  refine C0.out.mono ?_
  rintro e w1 ⟨rfl, hb1⟩
  have HB1 := hid hb1
  clear hb1 C0
  go_wp2_with fail
  go_cut [5, 6] from 11 to 15 (fun s5 s6 wz => ∃ A2 c2 g, s5 = .slice A2 ts.length c2 ∧ s6 = .slice (some ⟨g, 0, none⟩) ts.length ts.length ∧ Aside (BsW w ts A2 g wz))
  case first =>
    clear CG CP HB
    go_region_with (first | (go_at_call 116; refine (CH.out _ ?_).mono ?_; (first | exact bthen HB1.out (bdrewL _) | exact bthen HB1.out (bdrew (ballocw _ _))); rintro e w2 ⟨v2, rfl, ho2, hb2⟩; obtain ⟨A2, c2, rfl, _, _, _⟩ := Own.int ho2; have HO2 := hid ho2; clear ho2; rw [HHL.out]))
    all_goals go_wp2
    all_goals go_meet
    · exact ⟨A2, c2, _, rfl, rfl, BsW.one HB1.out hb2 HO2.out hfew⟩
    · exact ⟨A2, c2, _, rfl, rfl, BsW.two HB1.out hb2 HO2.out hfew⟩
  case rest =>
    obtain ⟨A2, c2, g, rfl, rfl, HW⟩ := hcut
    have hmx := HB.out.path
    have hpb := HB.out.port
    have hlow := HB.out.low
    have hhigh := HB.out.high
    have hpb0 : 0 ≤ pbN ts 3 ∨ pbN ts 3 < 0 := by omega
    have hrz : Sm0 (List.replicate ts.length 0) := fun k hk => by
      rw [List.length_replicate] at hk
      have : el (List.replicate ts.length 0) k = 0 := by unfold el; rw [List.getD_eq_getElem?_getD, List.getElem?_replicate, if_pos hk]; rfl
      omega
    have HRZ := hid hrz
    have HAN := hid HB.out.ans
    have HNO := hid HB.out.no
    have HLN := hid HB.out.len
    have hK : ∀ W, Chg g (g + 1) wc W → RdT W A ts ∧ RdI W A2 (hts ts) := fun W h => by
      have hz := HW.out.below
      exact ⟨HT.out.below (hz.trans (h.below HW.out.ge hz.size)), HW.out.high W h⟩
    have HC := hid (fun (L : Int) (h0 : 0 ≤ L) (h1 : L ≤ 300) (xs : List Int) (W : World) (hl : xs.length = ts.length) (hs : Sm0 xs) (ho : OI W g (g + 1) (.slice (some ⟨g, 0, none⟩) ts.length ts.length) xs) (hc : Chg g (g + 1) wc W) =>
      i_complete ts HO.out L h0 h1 A A2 c c2 g ts.length wc hK ts.length 0 xs W (by omega) hl hs ho hc)
    have CG2 := hid (CG.out wc A2 c2 (HW.out.high wc (Chg.refl _ _ _)))
    have CP2 := hid (CP.out wc HW.out.below)
    clear hmk CH CG CP HB hrz hK HT HO HB1 HHL
    unfold CmpR at HC
    simp only [List.take_zero] at HC
    generalize bstL ts = Lb at *
    generalize bstS ts = S at *
    generalize mxN (hts ts) ts.length = m0 at *
    generalize pbN ts 3 = p0 at *
    by_cases hmp : m0 < p0
    · go_wp2_with fail
      refine CG2.out.mono ?_
      rintro e w3 ⟨rfl, rfl⟩
      go_wp2_with fail
      refine CP2.out.mono ?_
      rintro e w4 ⟨rfl, hb4⟩
      have hC4 : Chg g (g + 1) wc w4 := Chg.of hb4 (Nat.le_refl _)
      have HO4 := hid (OI.eqv HW.out.times (Eqv.of hb4 (by have := HW.out.lt; omega)))
      have HC4 := hid hC4
      clear hb4 hC4 CG2 CP2
      go_wp2_with fail
      go_loopg [7] (Lb - p0).toNat (fun gg s wr => ∃ L : Int, p0 ≤ L ∧ L ≤ Lb ∧ (Lb - L).toNat ≤ gg ∧ s = .int .i64 L ∧ Aside (Chg g (g + 1) wc wr) ∧ Aside (∃ xs, OI wr g (g + 1) (.slice (some ⟨g, 0, none⟩) ts.length ts.length) xs ∧ xs.length = ts.length ∧ Sm0 xs))
      case atStart => exact ⟨p0, Int.le_refl _, by omega, Nat.le_refl _, rfl, HC4.out, _, HO4.out, List.length_replicate, HRZ.out⟩
      case round =>
        obtain ⟨L, h1, h2, hg, rfl, BW, XS⟩ := hrel
        obtain ⟨xs, hox, hxl, hxs⟩ := XS.out
        have HCC := hid (HC.out L (by omega) (by omega) xs wr hxl hxs hox BW.out)
        have hL300 : L ≤ 300 := by omega
        clear hox hxs HC XS HO4 HC4 HRZ
        by_cases e : L = Lb
        · subst e
          rw [HAN.out] at HCC
          clear HAN HNO
          go_wp2_with fail
          refine HCC.out.mono ?_
          rintro e w6 ⟨rfl, zs, z1, z2, z3, z4, z5, z6⟩
          have hzs := z5 S rfl
          subst hzs
          have HRR : Hid (RetIZB w (zs, L, true) (.returned (.tuple #[.slice (some ⟨g, 0, none⟩) ts.length ts.length, .int .i64 L, .bool true])) w6) := hid (by
            have hge := HW.out.ge
            have hlt := HW.out.lt
            have hz := BW.out.size
            have hz6 := z6.size
            exact ⟨_, rfl, Own.wide z1 hge (by omega), HW.out.below.trans ((BW.out.trans z6).below hge HW.out.below.size)⟩)
          clear z1 z2 z3 z4 z5 z6 HCC BW HLN HW
          go_wp2_with fail
          go_ret3
          exact HRR.out
        · have HN2 := hid (HNO.out L (by omega) (by omega))
          rw [HN2.out] at HCC
          clear HAN HNO HN2
          go_wp2_with fail
          refine HCC.out.mono ?_
          rintro e w6 ⟨rfl, zs, z1, z2, z3, z4, z5, z6⟩
          have BW6 : Aside (Chg g (g + 1) wc w6) := BW.out.trans z6
          have XS6 : Aside (∃ xs, OI w6 g (g + 1) (.slice (some ⟨g, 0, none⟩) ts.length ts.length) xs ∧ xs.length = ts.length ∧ Sm0 xs) := ⟨zs, z1, z2, z4⟩
          clear z1 z2 z3 z4 z5 z6 HCC BW HLN
          go_wp2_with fail
          go_roundg (Lb - (L + 1)).toNat
          case measure => omega
          case rel => exact ⟨L + 1, by omega, by omega, Nat.le_refl _, by go_num, BW6, XS6⟩
    · go_wp2_with fail
      refine CG2.out.mono ?_
      rintro e w3 ⟨rfl, rfl⟩
      go_wp2_with fail
      refine CP2.out.mono ?_
      rintro e w4 ⟨rfl, hb4⟩
      have hC4 : Chg g (g + 1) wc w4 := Chg.of hb4 (Nat.le_refl _)
      have HO4 := hid (OI.eqv HW.out.times (Eqv.of hb4 (by have := HW.out.lt; omega)))
      have HC4 := hid hC4
      clear hb4 hC4 CG2 CP2
      go_wp2_with fail
      go_loopg [7] (Lb - m0).toNat (fun gg s wr => ∃ L : Int, m0 ≤ L ∧ L ≤ Lb ∧ (Lb - L).toNat ≤ gg ∧ s = .int .i64 L ∧ Aside (Chg g (g + 1) wc wr) ∧ Aside (∃ xs, OI wr g (g + 1) (.slice (some ⟨g, 0, none⟩) ts.length ts.length) xs ∧ xs.length = ts.length ∧ Sm0 xs))
      case atStart => exact ⟨m0, Int.le_refl _, by omega, Nat.le_refl _, rfl, HC4.out, _, HO4.out, List.length_replicate, HRZ.out⟩
      case round =>
        obtain ⟨L, h1, h2, hg, rfl, BW, XS⟩ := hrel
        obtain ⟨xs, hox, hxl, hxs⟩ := XS.out
        have HCC := hid (HC.out L (by omega) (by omega) xs wr hxl hxs hox BW.out)
        have hL300 : L ≤ 300 := by omega
        clear hox hxs HC XS HO4 HC4 HRZ
        by_cases e : L = Lb
        · subst e
          rw [HAN.out] at HCC
          clear HAN HNO
          go_wp2_with fail
          refine HCC.out.mono ?_
          rintro e w6 ⟨rfl, zs, z1, z2, z3, z4, z5, z6⟩
          have hzs := z5 S rfl
          subst hzs
          have HRR : Hid (RetIZB w (zs, L, true) (.returned (.tuple #[.slice (some ⟨g, 0, none⟩) ts.length ts.length, .int .i64 L, .bool true])) w6) := hid (by
            have hge := HW.out.ge
            have hlt := HW.out.lt
            have hz := BW.out.size
            have hz6 := z6.size
            exact ⟨_, rfl, Own.wide z1 hge (by omega), HW.out.below.trans ((BW.out.trans z6).below hge HW.out.below.size)⟩)
          clear z1 z2 z3 z4 z5 z6 HCC BW HLN HW
          go_wp2_with fail
          go_ret3
          exact HRR.out
        · have HN2 := hid (HNO.out L (by omega) (by omega))
          rw [HN2.out] at HCC
          clear HAN HNO HN2
          go_wp2_with fail
          refine HCC.out.mono ?_
          rintro e w6 ⟨rfl, zs, z1, z2, z3, z4, z5, z6⟩
          have BW6 : Aside (Chg g (g + 1) wc w6) := BW.out.trans z6
          have XS6 : Aside (∃ xs, OI w6 g (g + 1) (.slice (some ⟨g, 0, none⟩) ts.length ts.length) xs ∧ xs.length = ts.length ∧ Sm0 xs) := ⟨zs, z1, z2, z4⟩
          clear z1 z2 z3 z4 z5 z6 HCC BW HLN
          go_wp2_with fail
          go_roundg (Lb - (L + 1)).toNat
          case measure => omega
          case rel => exact ⟨L + 1, by omega, by omega, Nat.le_refl _, by go_num, BW6, XS6⟩
theorem i_BestSchedule (w : World) (A : Option Addr) (c : Nat) (ts : List TaskV) (hl : tsz ts ≤ 1048576) (hT : RdT w A ts) :
    Calls Try.prog 47 #[.slice A ts.length c] w (RetIZB w (m_BestSchedule ts)) := by
  have c0 := i_ValidTasks w A c ts hl hT
  have HE : Hid (m_BestSchedule ts = if tasksB ts then (bstS ts, bstL ts, true) else ([], 0, false)) := hid rfl
  cases h0 : tasksB ts with
  | false =>
    rw [h0] at c0 HE
    have C0 := hid c0
    clear c0 h0 hT hl
    generalize m_BestSchedule ts = r at HE ⊢
    go_enter Try.func47, Try.ntmps47
    go_wp2_with fail
    refine C0.out.mono ?_
    rintro e w1 ⟨rfl, hb1⟩
    go_wp2_with fail
    go_ret3
    exact ⟨_, by rw [HE.out]; rfl, by rw [HE.out]; exact Own.nil _ _ _ _ _, hb1⟩
  | true =>
    rw [h0] at c0 HE
    rw [HE.out]
    exact i_BestSchedule1 w A c ts (TOk.of h0) hT (hid c0)
end Go.Proofs.Ytjcpjmijhloimaa
set_option linter.unusedVariables false
set_option linter.unusedSimpArgs false
namespace Go.Proofs.Ytjcpjmijhloimaa
open Go.RowKit

theorem pbN_in {ts : List TaskV} {p : Nat} (h : 0 < pcnt ts p ts.length) : pbN ts (p + 1) = max (pbN ts p) (pcnt ts p ts.length + plst ts p ts.length - 1) := if_pos h
theorem pbN_out {ts : List TaskV} {p : Nat} (h : ¬ 0 < pcnt ts p ts.length) : pbN ts (p + 1) = pbN ts p := if_neg h
theorem i_PortBound (w : World) (A : Option Addr) (c : Nat) (ts : List TaskV) (hl : tsz ts ≤ 1048576) (hT : RdT w A ts) :
    Calls Try.prog 49 #[.slice A ts.length c] w (RetZB w (m_PortBound ts)) := by
  have c0 := i_ValidTasks w A c ts hl hT
  have C1 : Hid (tasksB ts = true → ∀ W, Below w.heap.size w W → _) := hid (fun h W (hW : Below w.heap.size w W) => i_portBound W A c ts (TOk.of h) (hT.below hW))
  have HE : Hid (m_PortBound ts = if tasksB ts then (pbN ts 3, true) else (0, false)) := hid rfl
  clear hT hl
  generalize m_PortBound ts = r at HE ⊢
  generalize pbN ts 3 = H at *
  cases h0 : tasksB ts with
  | false =>
    rw [h0] at c0 HE
    have C0 := hid c0
    clear c0 h0 C1
    go_enter Try.func49, Try.ntmps49
    go_wp2_with fail
    refine C0.out.mono ?_
    rintro e w1 ⟨rfl, hb1⟩
    go_wp2_with fail
    go_ret2
    exact ⟨by rw [HE.out]; rfl, hb1⟩
  | true =>
    rw [h0] at c0 HE
    have C0 := hid c0
    have C3 := hid (C1.out h0)
    clear c0 h0 C1
    go_enter Try.func49, Try.ntmps49
    go_wp2_with fail
    refine C0.out.mono ?_
    rintro e w1 ⟨rfl, hb1⟩
    go_wp2_with fail
    refine (C3.out _ hb1).mono ?_
    rintro e w2 ⟨rfl, hb2⟩
    go_wp2_with fail
    go_ret2
    exact ⟨by rw [HE.out]; rfl, bthen hb1 hb2⟩
end Go.Proofs.Ytjcpjmijhloimaa
set_option linter.unusedVariables false
set_option linter.unusedSimpArgs false
namespace Go.Proofs.Ytjcpjmijhloimaa
open Go.RowKit

set_option maxRecDepth 100000 in
theorem l_r8At (w : World) (A : Option Addr) (c : Nat) (bs : List Int) (k n : Int) (hl : bs.length ≤ 1048576) (hk0 : 0 ≤ k) (hk : k ≤ 1048576) (hn : 0 ≤ n) (hn2 : n ≤ 1048576) (hR : RdU w A bs) :
    Calls Try.prog 22 #[.slice A bs.length c, .int .i64 k, .int .i64 n] w fun e w' => ∃ z, e = .returned (.int .i64 z) ∧ (0 ≤ z ∧ (1 ≤ n → z < n)) ∧ w = w' := by
  by_cases h1 : n ≤ 1
  · clear hR
    go_enter Try.func22, Try.ntmps22
    go_wp2
    go_ret
    exact ⟨0, rfl, ⟨by omega, by omega⟩, rfl⟩
  · by_cases h2 : k < (bs.length : Int)
    · obtain ⟨j, rfl⟩ : ∃ j : Nat, k = j := ⟨k.toNat, by omega⟩
      obtain ⟨b, off, rfl, hc⟩ := hR.get (k := j) (by omega)
      have hb := hR.2 j (by omega)
      obtain ⟨hb0, hb1⟩ := hb
      clear hR
      generalize el bs j = x at *
      have ht := tmod_range (x := x) (n := n) hb0 (by omega)
      have HT := hid ht
      have hle : ¬ ((bs.length : Int) ≤ (j : Int)) := by omega
      clear ht
      go_enter Try.func22, Try.ntmps22
      go_wp2
      go_ret
      exact ⟨_, rfl, ⟨Int.emod_nonneg _ (by omega), fun _ => Int.emod_lt_of_pos _ (by omega)⟩, rfl⟩
    · clear hR
      have hle : (bs.length : Int) ≤ k := by omega
      go_enter Try.func22, Try.ntmps22
      go_wp2
      go_ret
      exact ⟨0, rfl, ⟨by omega, by omega⟩, rfl⟩
def cntX (xs : List Int) (x : Int) : Nat → Nat
  | 0 => 0
  | k + 1 => cntX xs x k + (if el xs k = x then 1 else 0)
theorem cntX_le (xs : List Int) (x : Int) (k : Nat) : cntX xs x k ≤ k := by
  induction k with
  | zero => simp [cntX]
  | succ k ih => simp only [cntX]; split <;> omega
theorem cntX_pos (xs : List Int) (x : Int) {k : Nat} (hk : k ≤ xs.length) : 0 < cntX xs x k ↔ x ∈ xs.take k := by
  induction k with
  | zero => simp [cntX]
  | succ k ih =>
    simp only [cntX]
    rw [el_take (by omega), List.mem_append, ← ih (by omega)]
    by_cases h : el xs k = x
    · rw [if_pos h]; simp [h]
    · rw [if_neg h]; simp; omega
theorem l_r8Count (w : World) (A : Option Addr) (c : Nat) (xs : List Int) (x : Int) (hl : xs.length ≤ 1048576) (hR : RdI w A xs) :
    Calls Try.prog 123 #[.slice A xs.length c, .int .i64 x] w fun e w' => e = .returned (.int .i64 (cntX xs x xs.length : Nat)) ∧ w = w' := by
  have HR := hid hR
  have HC : Hid (∀ k, cntX xs x (k + 1) = cntX xs x k + (if el xs k = x then 1 else 0)) := hid fun _ => rfl
  have HL := hid (cntX_le xs x)
  clear hR
  go_enter Try.func123, Try.ntmps123
  go_wp2
  go_loopg [5, 6] xs.length (fun gg m s wr => ∃ k : Nat, k ≤ xs.length ∧ xs.length - k ≤ gg ∧ s = .int .i64 k ∧ m = .int .i64 (cntX xs x k : Nat) ∧ Aside (w = wr))
  case atStart => exact ⟨0, Nat.zero_le _, by omega, rfl, rfl, rfl⟩
  case round =>
    obtain ⟨k, hk, hgk, rfl, rfl, BW⟩ := hrel
    obtain rfl := BW.out
    clear BW
    by_cases hlt : k < xs.length
    · obtain ⟨b, off, rfl, hc⟩ := HR.out.get hlt
      have hle := HL.out k
      have HK := hid (HC.out k)
      clear HR HC HL
      generalize cntX xs x k = q at *
      by_cases hx : el xs k = x
      · have HQ : Hid (cntX xs x (k + 1) = q + 1) := hid (by rw [HK.out, if_pos hx])
        rw [hx] at hc
        clear HK hx
        go_wp2
        go_roundg (xs.length - (k + 1))
        case measure => omega
        case rel => exact ⟨k + 1, by omega, by omega, by go_num, (by rw [HQ.out]; go_num), rfl⟩
      · have HQ : Hid (cntX xs x (k + 1) = q) := hid (by rw [HK.out, if_neg hx]; rfl)
        have hxb : (el xs k == x) = false := by simpa using hx
        clear HK hx
        generalize el xs k = y at *
        go_wp2
        go_roundg (xs.length - (k + 1))
        case measure => omega
        case rel => exact ⟨k + 1, by omega, by omega, by go_num, (by rw [HQ.out]), rfl⟩
    · have : k = xs.length := by omega
      subst this
      clear HR HC HL
      go_wp2
      go_ret
      exact ⟨rfl, rfl⟩
theorem l_r8Has (w : World) (A : Option Addr) (c : Nat) (xs : List Int) (x : Int) (hl : xs.length ≤ 1048576) (hR : RdI w A xs) :
    Calls Try.prog 52 #[.slice A xs.length c, .int .i64 x] w fun e w' => e = .returned (.bool (decide (x ∈ xs))) ∧ w = w' := by
  have c0 := l_r8Count w A c xs x hl hR
  have hp := cntX_pos xs x (Nat.le_refl xs.length)
  rw [List.take_length] at hp
  have hd : decide (0 < (cntX xs x xs.length : Int)) = decide (x ∈ xs) := by rw [decide_eq_decide, ← hp]; omega
  have hle := cntX_le xs x xs.length
  have HD := hid hd
  clear hR hp hd
  generalize cntX xs x xs.length = q at *
  have C0 := hid c0
  clear c0
  go_enter Try.func52, Try.ntmps52
  go_wp2_with fail
  refine C0.out.mono ?_
  rintro e w' ⟨rfl, rfl⟩
  go_wp2_with fail
  go_ret
  exact ⟨ret_b (by rw [← HD.out]; simp), rfl⟩
end Go.Proofs.Ytjcpjmijhloimaa
set_option linter.unusedVariables false
set_option linter.unusedSimpArgs false
namespace Go.Proofs.Ytjcpjmijhloimaa
open Go.RowKit

theorem l_r8Long (w : World) (A A' : Option Addr) (n c n' c' : Nat) (hn : n ≤ 9223372036854775807) (hn' : n' ≤ 9223372036854775807) :
    Calls Try.prog 11 #[.slice A n c, .slice A' n' c'] w fun e w' => e = .returned (.bool (decide (48 < n) || decide (48 < n'))) ∧ w = w' := by
  by_cases h1 : (48 : Int) < n
  · go_enter Try.func11, Try.ntmps11
    go_wp2
    go_ret
    exact ⟨ret_b (by simp; omega), rfl⟩
  · by_cases h2 : (48 : Int) < n'
    all_goals
      go_enter Try.func11, Try.ntmps11
      go_wp2
      go_ret
      exact ⟨ret_b (by rw [Bool.eq_iff_iff]; simp; omega), rfl⟩
end Go.Proofs.Ytjcpjmijhloimaa
set_option linter.unusedVariables false
set_option linter.unusedSimpArgs false
namespace Go.Proofs.Ytjcpjmijhloimaa
open Go.RowKit

set_option maxRecDepth 100000 in
set_option maxHeartbeats 4000000 in
theorem law_Scheduled (w : World) (A0 : Option Addr) (c0 : Nat) (xs0 : List Int) (A1 : Option Addr) (c1 : Nat) (xs1 : List Int) (hl0 : xs0.length ≤ 9223372036854775807) (hR0 : RdU w A0 xs0) (hl1 : xs1.length ≤ 9223372036854775807) (hR1 : RdU w A1 xs1) :
    Calls Try.prog 7 #[.slice A0 xs0.length c0, .slice A1 xs1.length c1] w fun e w' => e = .returned (.bool true) ∧ Below w.heap.size w w' := by
  have CL := hid (l_r8Long w A0 A1 xs0.length c0 xs1.length c1 hl0 hl1)
  cases hlong : (decide (48 < xs0.length) || decide (48 < xs1.length)) with
  | true =>
    rw [hlong] at CL
    clear hlong hR0 hR1
    go_enter Try.func7, Try.ntmps7
    go_wp2_with fail
    refine CL.out.mono ?_
    rintro e w1 ⟨rfl, rfl⟩
    go_wp2_with fail
    go_ret
    exact ⟨rfl, Below.refl _ _⟩
  | false =>
    rw [hlong] at CL
    have hs0 : xs0.length ≤ 48 := by simp at hlong; omega
    have hs1 : xs1.length ≤ 48 := by simp at hlong; omega
    have HU0 := hid hR0
    have HU1 := hid hR1
    clear hlong hR0 hR1 hl0 hl1
    go_enter Try.func7, Try.ntmps7
    go_wp2_with fail
    refine CL.out.mono ?_
    rintro e w0 ⟨rfl, rfl⟩
    clear CL
    have CC := hid (s_R8Tasks w A0 c0 xs0 (by omega) HU0.out)
    go_wp2_with fail
    refine CC.out.mono ?_
    rintro e w1 ⟨v5, ts, rfl, ⟨htb, htsz⟩, ho5, hb1⟩
    obtain ⟨At, ct, rfl, _, _, hr5⟩ := OT.shp ho5
    have HB1 := hid hb1
    have hO := TOk.of htb
    have hfew := hO.few
    have hB := Best.of hO
    obtain ⟨hbs, hbl⟩ := best_sched htb
    have hls := lst_sched htb
    have hle := best_least hls
    have hpath := hB.path
    have hport := hB.port
    have HT := hid hr5
    have hll : (lstS ts).length = ts.length := lstN_length ts _
    have hblen := hB.len
    have CLS : Hid (Calls Try.prog 45 #[.slice At ts.length ct] w1 (RetIB w1 (lstS ts, true))) := hid (by
      have := i_ListSchedule w1 At ct ts htsz hr5
      rwa [show m_ListSchedule ts = (lstS ts, true) by unfold m_ListSchedule; rw [htb]; rfl] at this)
    have CBS : Hid (∀ W, Below w1.heap.size w1 W → Calls Try.prog 47 #[.slice At ts.length ct] W (RetIZB W (bstS ts, bstL ts, true))) := hid (fun W hW => by
      have := i_BestSchedule W At ct ts htsz (hr5.below hW)
      rwa [show m_BestSchedule ts = (bstS ts, bstL ts, true) by unfold m_BestSchedule; rw [htb]; rfl] at this)
    have CPB : Hid (∀ W, Below w1.heap.size w1 W → Calls Try.prog 48 #[.slice At ts.length ct] W (RetZB W (mxN (hts ts) ts.length, true))) := hid (fun W hW => by
      have := i_PathBound W At ct ts htsz (hr5.below hW)
      rwa [show m_PathBound ts = (mxN (hts ts) ts.length, true) by unfold m_PathBound; rw [htb]; rfl] at this)
    have CQB : Hid (∀ W, Below w1.heap.size w1 W → Calls Try.prog 49 #[.slice At ts.length ct] W (RetZB W (pbN ts 3, true))) := hid (fun W hW => by
      have := i_PortBound W At ct ts htsz (hr5.below hW)
      rwa [show m_PortBound ts = (pbN ts 3, true) by unfold m_PortBound; rw [htb]; rfl] at this)
    have CHO : Hid (∀ W, Below w1.heap.size w1 W → Calls Try.prog 50 #[.slice At ts.length ct] W (RetIB W (hts ts, true))) := hid (fun W hW => by
      have := i_HeightsOf W At ct ts htsz (hr5.below hW)
      rwa [show m_HeightsOf ts = (hts ts, true) by unfold m_HeightsOf; rw [htb]; rfl] at this)
    have CLE := hid (fun W A c (ys : List Int) (hb : Below w1.heap.size w1 W) (hl : ys.length ≤ 1048576) (hr : RdI W A ys) => i_LengthOf W At A ct c ts ys htsz (hr5.below hb) hl hr)
    have CIS := hid (fun W A c (ys : List Int) (hb : Below w1.heap.size w1 W) (hl : ys.length ≤ 1048576) (hr : RdI W A ys) => i_IsSchedule W At A ct c ts ys htsz (hr5.below hb) hl hr)
    have CRT := hid (fun W (hb : Below w1.heap.size w1 W) => s_R8Times W A1 c1 xs1 At ct ts htb htsz (by omega) ((HU1.out.below HB1.out).below hb) (hr5.below hb))
    have HLEN : Hid (∀ ys, schedB ts ys = true → m_LengthOf ts ys = (lenN ts ys ts.length, true) ∧ bstL ts ≤ lenN ts ys ts.length) := hid fun ys hy => ⟨by unfold m_LengthOf; rw [hy]; rfl, best_least hy⟩
    have HLNO : Hid (∀ ys, schedB ts ys = false → m_LengthOf ts ys = (0, false)) := hid fun ys hy => by unfold m_LengthOf; rw [hy]; rfl
    have HBS : Hid (m_LengthOf ts (bstS ts) = (bstL ts, true)) := hid (by rw [(HLEN.out _ hbs).1, hbl])
    have HLSL : Hid (m_LengthOf ts (lstS ts) = (lenN ts (lstS ts) ts.length, true)) := hid (HLEN.out _ hls).1
    have HLS := hid hls
    have HHL := hid (hts_length ts)
    have HLL := hid hll
    have HBLN := hid hblen
    have HAT := hid (fun i (hi : i < ts.length) => bhN_at hO (i := i) hi)
    have HBND := hid (bnd_hts hO)
    have HBLW := hid (fun i m => bhN_low hO i m)
    have HLAT := hid hO.lat
    have HNL := hid hO.len
    clear CC htb htsz ho5 hb1 hr5 hO hB hbs hbl hls hll hblen
    generalize lenN ts (lstS ts) ts.length = ll at *
    generalize lstS ts = ls at *
    generalize bstS ts = bs at *
    generalize bstL ts = least at *
    go_wp2_with fail
    refine CLS.out.mono ?_
    rintro e w2 ⟨v6, rfl, ho6, hb2⟩
    obtain ⟨A6, c6, rfl, hc6, _, hr6⟩ := OI.shp ho6
    have HB2 := hid hb2
    have HR6 := hid hr6
    have cle := CLE.out w2 A6 c6 ls hb2 (by have := HLL.out; omega) hr6
    rw [HLSL.out] at cle
    have CP := hid cle
    rw [HLL.out] at CP ⊢
    clear CLS ho6 hb2 hr6 cle
    go_wp2_with fail
    refine CP.out.mono ?_
    rintro e w3 ⟨rfl, hb3⟩
    have HB3 := hid (bthen HB2.out hb3)
    have HR7 := hid (HR6.out.below hb3)
    have C3 := hid (CBS.out w3 HB3.out)
    clear CP CBS hb3 HB2 HR6
    go_wp2_with fail
    refine C3.out.mono ?_
    rintro e w4 ⟨v10, rfl, ho10, hb4⟩
    obtain ⟨A10, c10, rfl, hc10, _, hr10⟩ := OI.shp ho10
    have HB4 := hid (bthen HB3.out hb4)
    have HR8 := hid (HR7.out.below hb4)
    have cle := CLE.out w4 A10 c10 bs HB4.out (by have := HBLN.out; omega) hr10
    rw [HBS.out] at cle
    have CP := hid cle
    rw [HBLN.out] at CP ⊢
    clear C3 HB3 HR7 ho10 hb4 hr10 cle
    go_wp2_with fail
    refine CP.out.mono ?_
    rintro e w5 ⟨rfl, hb5⟩
    have HB5 := hid (bthen HB4.out hb5)
    have HR9 := hid (HR8.out.below hb5)
    have C5 := hid (CPB.out w5 HB5.out)
    clear CP CPB hb5 HB4 HR8
    go_wp2_with fail
    refine C5.out.mono ?_
    rintro e w6 ⟨rfl, hb6⟩
    have HB6 := hid (bthen HB5.out hb6)
    have HR10 := hid (HR9.out.below hb6)
    have C6 := hid (CQB.out w6 HB6.out)
    clear C5 CQB hb6 HB5 HR9
    go_wp2_with fail
    refine C6.out.mono ?_
    rintro e w7 ⟨rfl, hb7⟩
    have HB7 := hid (bthen HB6.out hb7)
    have HR11 := hid (HR10.out.below hb7)
    have C7 := hid (CHO.out w7 HB7.out)
    clear C6 CHO hb7 HB6 HR10
    go_wp2_with fail
    refine C7.out.mono ?_
    rintro e w8 ⟨v19, rfl, ho19, hb8⟩
    obtain ⟨A19, c19, rfl, hc19, _, hr19⟩ := OI.shp ho19
    have HB8 := hid (bthen HB7.out hb8)
    have cis := CIS.out w8 A6 c6 ls HB8.out (by have := HLL.out; omega) (HR11.out.below hb8)
    rw [HLS.out, HLL.out] at cis
    have CP := hid cis
    have HR19 := hid hr19
    rw [HHL.out]
    clear C7 cis ho19 hb8 hr19 HB7 HR11
    go_wp2_with fail
    refine CP.out.mono ?_
    rintro e w9 ⟨rfl, hb9⟩
    have HB9 := hid (bthen HB8.out hb9)
    have HR20 := hid (HR19.out.below hb9)
    clear CP hb9 HB8 HR19
    have HMS : Hid (∀ i, mxN (hts ts) (i + 1) = max (mxN (hts ts) i) (el (hts ts) i)) := hid fun _ => rfl
    have HM0 : Hid (mxN (hts ts) 0 = 0) := hid rfl
    have HBSTEP : Hid (∀ i m, bhN ts i (m + 1) = if decide ((i : Int) ∈ (tel ts (i + 1 + m)).needs) && decide (bhN ts i m < el (hts ts) (i + 1 + m)) then el (hts ts) (i + 1 + m) else bhN ts i m) := hid fun _ _ => rfl
    have HBZ : Hid (∀ i, bhN ts i 0 = 0) := hid fun _ => rfl
    clear HLSL HBS HLS HLL HBLN
    go_wp2_with fail
    go_loopg [21, 22] ts.length (fun gg m s wr => ∃ i : Nat, i ≤ ts.length ∧ ts.length - i ≤ gg ∧ s = .int .i64 i ∧ m = .int .i64 (mxN (hts ts) i) ∧ Aside (Below w9.heap.size w9 wr))
    case atStart => exact ⟨0, Nat.zero_le _, by omega, rfl, (by rw [HM0.out]), Below.refl _ _⟩
    case round =>
      obtain ⟨i, hi, hg, rfl, rfl, BW⟩ := hrel
      by_cases hlti : i < ts.length
      · have hlti' : (i : Int) < (ts.length : Int) := by omega
        obtain ⟨bh, oh, rfl, hch⟩ := (HR20.out.below BW.out).get (k := i) (by rw [HHL.out]; exact hlti)
        have HHK : Hid (∀ W, Below w9.heap.size w9 W → ∀ k, k < ts.length → W.cell? ⟨bh, oh + k, none⟩ = some (.int .i64 (el (hts ts) k))) := hid (fun W hW k hk => by
          obtain ⟨b3, o3, e3, h3⟩ := (HR20.out.below hW).get (k := k) (by rw [HHL.out]; exact hk)
          cases e3; exact h3)
        have HMI := hid (HMS.out i)
        have HBI := hid (HBSTEP.out i)
        have HB0 := hid (HBZ.out i)
        have hat := HAT.out i hlti
        have HATI := hid hat
        have hbd := HBND.out i
        have htr := (HT.out.below HB9.out).below BW.out
        obtain ⟨bt, ot, Ai, ci, rfl, _, hlc, _, _, _⟩ := htr.get hlti
        have HTR : Hid (∀ W, Below w9.heap.size w9 W → RdT W (some ⟨bt, ot, none⟩) ts) := hid (fun W hW => (HT.out.below HB9.out).below hW)
        have HBH := hid (fun k => HBND.out k)
        have HLATI := HLAT.out i hlti
        have HNLT := hid HNL.out
        clear HMS HBSTEP HBZ HAT HR20 HT hat htr HBND CLE CIS CRT HLEN HLNO HB9 HU0 HU1 HB1 HM0 HLAT HNL
        generalize hhx : el (hts ts) i = hx at *
        generalize hlx : (tel ts i).lat = lx at *
        clear hhx hlx
        generalize hmx : mxN (hts ts) i = mx at *
        clear hmx
        by_cases hgt : mx < hx
        · have HMX : Hid (mxN (hts ts) (i + 1) = hx) := hid (by rw [HMI.out]; omega)
          clear HMI
          obtain ⟨wo, rfl⟩ : ∃ wo : World, wo = wr := ⟨_, rfl⟩
          go_wp2
          go_loopg [23, 24] (ts.length - (i + 1)) (fun gg b s wr2 => ∃ m : Nat, i + 1 + m ≤ ts.length ∧ ts.length - (i + 1) - m ≤ gg ∧ s = .int .i64 ((i + 1 + m : Nat) : Int) ∧ b = .int .i64 (bhN ts i m) ∧ Aside (wr2 = wo))
          case atStart => exact ⟨0, by omega, by omega, (by go_num), (by rw [HB0.out]), rfl⟩
          case round =>
            obtain ⟨m, hm, hgm, rfl, rfl, BQ⟩ := hrel
            obtain rfl := BQ.out
            clear BQ
            by_cases hlk : i + 1 + m < ts.length
            · have hlk' : ((i + 1 + m : Nat) : Int) < (ts.length : Int) := by omega
              obtain ⟨b3, o3, Ak, ck, e3, _, _, k2, _, hrk⟩ := (HTR.out wr BW.out).get hlk
              cases e3
              have hck := HHK.out wr BW.out (i + 1 + m) hlk
              have CR := hid (l_r8Has wr Ak ck (tel ts (i + 1 + m)).needs (i : Int) (by have := HNLT.out _ hlk; omega) hrk)
              have HBm := hid (HBI.out m)
              clear HHK HTR HATI HBI HB0 hrk HBH HNLT hch hlc
              generalize (tel ts (i + 1 + m)).needs.length = nk at *
              generalize el (hts ts) (i + 1 + m) = hk_ at *
              generalize bhN ts i m = b_ at *
              generalize hkk : i + 1 + m = kk at *
              have HKK := hid hkk
              clear hkk
              cases hd : decide ((i : Int) ∈ (tel ts kk).needs) with
              | false =>
                rw [hd] at CR
                have HQ : Hid (bhN ts i (m + 1) = b_) := hid (by rw [HBm.out, hd]; rfl)
                clear hd HBm
                go_wp2_with fail
                refine CR.out.mono ?_
                rintro e wq ⟨rfl, rfl⟩
                go_wp2_with fail
                go_roundg (ts.length - (i + 1) - (m + 1))
                case measure => have := HKK.out; omega
                case rel => exact ⟨m + 1, by have := HKK.out; omega, by omega, (by have := HKK.out; congr 1; omega), (by rw [HQ.out]), rfl⟩
              | true =>
                rw [hd] at CR
                by_cases hbk : b_ < hk_
                · have HQ : Hid (bhN ts i (m + 1) = hk_) := hid (by rw [HBm.out, hd, decide_eq_true hbk]; rfl)
                  clear hd HBm
                  go_wp2_with fail
                  refine CR.out.mono ?_
                  rintro e wq ⟨rfl, rfl⟩
                  go_wp2_with fail
                  go_roundg (ts.length - (i + 1) - (m + 1))
                  case measure => have := HKK.out; omega
                  case rel => exact ⟨m + 1, by have := HKK.out; omega, by omega, (by have := HKK.out; congr 1; omega), (by rw [HQ.out]), rfl⟩
                · have HQ : Hid (bhN ts i (m + 1) = b_) := hid (by rw [HBm.out, hd, decide_eq_false hbk]; rfl)
                  clear hd HBm
                  go_wp2_with fail
                  refine CR.out.mono ?_
                  rintro e wq ⟨rfl, rfl⟩
                  go_wp2_with fail
                  go_roundg (ts.length - (i + 1) - (m + 1))
                  case measure => have := HKK.out; omega
                  case rel => exact ⟨m + 1, by have := HKK.out; omega, by omega, (by have := HKK.out; congr 1; omega), (by rw [HQ.out]), rfl⟩
            · have hkn : i + 1 + m = ts.length := by omega
              have hmn : m = ts.length - (i + 1) := by omega
              have hlk' : ¬ ((i + 1 + m : Nat) : Int) < (ts.length : Int) := by omega
              have hb0 : (hx == lx + bhN ts i m) = true := by rw [hmn, ← HATI.out]; simp
              have hb1 : (hx != lx + bhN ts i m) = false := by rw [bne, hb0]; rfl
              have hbb : 0 ≤ bhN ts i m ∧ bhN ts i m ≤ 100 := by
                have h1 := HATI.out
                rw [← hmn] at h1
                have h2 := HBLW.out i m
                omega
              have lh := lcell hch
              have ll_ := lcell hlc
              clear HHK HTR HATI HBI HB0 HBH HNLT hmn hch hlc
              generalize bhN ts i m = b_ at *
              generalize hkk : i + 1 + m = kk at *
              clear hkk
              go_wp2
              refine wp_region_calm (by kernel_rfl) (by kernel_rfl) ?_
              repeat (go_big_quiet_step (fail))
              refine wpQuiet_nil ?_
              intro _ hw'
              obtain ⟨xq, hw''⟩ := hw'
              subst hw''
              have BX : Aside (Below w9.heap.size w9 xq.val) := bthen BW.out xq.below
              clear BW lh ll_
              go_wp2
              go_roundg (ts.length - (i + 1))
              case measure => omega
              case rel => exact ⟨i + 1, by omega, by omega, by go_num, (by rw [HMX.out]), BX⟩
        · have HMX : Hid (mxN (hts ts) (i + 1) = mx) := hid (by rw [HMI.out]; omega)
          clear HMI
          obtain ⟨wo, rfl⟩ : ∃ wo : World, wo = wr := ⟨_, rfl⟩
          go_wp2
          go_loopg [23, 24] (ts.length - (i + 1)) (fun gg b s wr2 => ∃ m : Nat, i + 1 + m ≤ ts.length ∧ ts.length - (i + 1) - m ≤ gg ∧ s = .int .i64 ((i + 1 + m : Nat) : Int) ∧ b = .int .i64 (bhN ts i m) ∧ Aside (wr2 = wo))
          case atStart => exact ⟨0, by omega, by omega, (by go_num), (by rw [HB0.out]), rfl⟩
          case round =>
            obtain ⟨m, hm, hgm, rfl, rfl, BQ⟩ := hrel
            obtain rfl := BQ.out
            clear BQ
            by_cases hlk : i + 1 + m < ts.length
            · have hlk' : ((i + 1 + m : Nat) : Int) < (ts.length : Int) := by omega
              obtain ⟨b3, o3, Ak, ck, e3, _, _, k2, _, hrk⟩ := (HTR.out wr BW.out).get hlk
              cases e3
              have hck := HHK.out wr BW.out (i + 1 + m) hlk
              have CR := hid (l_r8Has wr Ak ck (tel ts (i + 1 + m)).needs (i : Int) (by have := HNLT.out _ hlk; omega) hrk)
              have HBm := hid (HBI.out m)
              clear HHK HTR HATI HBI HB0 hrk HBH HNLT hch hlc
              generalize (tel ts (i + 1 + m)).needs.length = nk at *
              generalize el (hts ts) (i + 1 + m) = hk_ at *
              generalize bhN ts i m = b_ at *
              generalize hkk : i + 1 + m = kk at *
              have HKK := hid hkk
              clear hkk
              cases hd : decide ((i : Int) ∈ (tel ts kk).needs) with
              | false =>
                rw [hd] at CR
                have HQ : Hid (bhN ts i (m + 1) = b_) := hid (by rw [HBm.out, hd]; rfl)
                clear hd HBm
                go_wp2_with fail
                refine CR.out.mono ?_
                rintro e wq ⟨rfl, rfl⟩
                go_wp2_with fail
                go_roundg (ts.length - (i + 1) - (m + 1))
                case measure => have := HKK.out; omega
                case rel => exact ⟨m + 1, by have := HKK.out; omega, by omega, (by have := HKK.out; congr 1; omega), (by rw [HQ.out]), rfl⟩
              | true =>
                rw [hd] at CR
                by_cases hbk : b_ < hk_
                · have HQ : Hid (bhN ts i (m + 1) = hk_) := hid (by rw [HBm.out, hd, decide_eq_true hbk]; rfl)
                  clear hd HBm
                  go_wp2_with fail
                  refine CR.out.mono ?_
                  rintro e wq ⟨rfl, rfl⟩
                  go_wp2_with fail
                  go_roundg (ts.length - (i + 1) - (m + 1))
                  case measure => have := HKK.out; omega
                  case rel => exact ⟨m + 1, by have := HKK.out; omega, by omega, (by have := HKK.out; congr 1; omega), (by rw [HQ.out]), rfl⟩
                · have HQ : Hid (bhN ts i (m + 1) = b_) := hid (by rw [HBm.out, hd, decide_eq_false hbk]; rfl)
                  clear hd HBm
                  go_wp2_with fail
                  refine CR.out.mono ?_
                  rintro e wq ⟨rfl, rfl⟩
                  go_wp2_with fail
                  go_roundg (ts.length - (i + 1) - (m + 1))
                  case measure => have := HKK.out; omega
                  case rel => exact ⟨m + 1, by have := HKK.out; omega, by omega, (by have := HKK.out; congr 1; omega), (by rw [HQ.out]), rfl⟩
            · have hkn : i + 1 + m = ts.length := by omega
              have hmn : m = ts.length - (i + 1) := by omega
              have hlk' : ¬ ((i + 1 + m : Nat) : Int) < (ts.length : Int) := by omega
              have hb0 : (hx == lx + bhN ts i m) = true := by rw [hmn, ← HATI.out]; simp
              have hb1 : (hx != lx + bhN ts i m) = false := by rw [bne, hb0]; rfl
              have hbb : 0 ≤ bhN ts i m ∧ bhN ts i m ≤ 100 := by
                have h1 := HATI.out
                rw [← hmn] at h1
                have h2 := HBLW.out i m
                omega
              have lh := lcell hch
              have ll_ := lcell hlc
              clear HHK HTR HATI HBI HB0 HBH HNLT hmn hch hlc
              generalize bhN ts i m = b_ at *
              generalize hkk : i + 1 + m = kk at *
              clear hkk
              go_wp2
              refine wp_region_calm (by kernel_rfl) (by kernel_rfl) ?_
              repeat (go_big_quiet_step (fail))
              refine wpQuiet_nil ?_
              intro _ hw'
              obtain ⟨xq, hw''⟩ := hw'
              subst hw''
              have BX : Aside (Below w9.heap.size w9 xq.val) := bthen BW.out xq.below
              clear BW lh ll_
              go_wp2
              go_roundg (ts.length - (i + 1))
              case measure => omega
              case rel => exact ⟨i + 1, by omega, by omega, by go_num, (by rw [HMX.out]), BX⟩
      · have hin : i = ts.length := by omega
        subst hin
        have hlti' : ¬ ((ts.length : Nat) : Int) < ((ts.length : Nat) : Int) := by omega
        have HWR := hid (bthen HB9.out BW.out)
        have C1 := hid (CRT.out wr HWR.out)
        have hmp := hpath
        clear HMS HBSTEP HBZ HAT HR20 HBND HM0 HLAT HNL CRT
        generalize mxN (hts ts) ts.length = mm at *
        go_wp2_with fail
        refine C1.out.mono ?_
        rintro e wa ⟨v25, ys, rfl, hy10, ho25, hba⟩
        obtain ⟨A25, c25, rfl, _, _, hr25⟩ := OI.shp ho25
        have HBA := hid (bthen HWR.out hba)
        have C2 := hid (CLE.out wa A25 c25 ys HBA.out (by omega) hr25)
        have HRY := hid hr25
        clear C1 ho25 hba hr25 HWR CLE
        cases hsy : schedB ts ys with
        | true =>
          obtain ⟨y1, y2⟩ := HLEN.out ys hsy
          have c2 := C2.out
          rw [y1] at c2
          have C3 := hid c2
          clear C2 c2 y1 HLEN HLNO
          generalize lenN ts ys ts.length = q at *
          go_wp2_with fail
          refine C3.out.mono ?_
          rintro e wb ⟨rfl, hbb⟩
          have HBB := hid (bthen HBA.out hbb)
          have cis := CIS.out wb A25 c25 ys HBB.out (by omega) (HRY.out.below hbb)
          rw [hsy] at cis
          have C4 := hid cis
          clear C3 cis hbb HBA HRY CIS hsy
          go_wp2_with fail
          refine C4.out.mono ?_
          rintro e wd ⟨rfl, hbd⟩
          have HEND := hid (bthen HB1.out (bthen HBB.out hbd))
          clear C4 hbd
          go_wp2_with fail
          go_ret
          exact ⟨rfl, HEND.out⟩
        | false =>
          have y1 := HLNO.out ys hsy
          have c2 := C2.out
          rw [y1] at c2
          have C3 := hid c2
          clear C2 c2 y1 HLEN HLNO
          go_wp2_with fail
          refine C3.out.mono ?_
          rintro e wb ⟨rfl, hbb⟩
          have HBB := hid (bthen HBA.out hbb)
          have cis := CIS.out wb A25 c25 ys HBB.out (by omega) (HRY.out.below hbb)
          rw [hsy] at cis
          have C4 := hid cis
          clear C3 cis hbb HBA HRY CIS hsy
          go_wp2_with fail
          refine C4.out.mono ?_
          rintro e wd ⟨rfl, hbd⟩
          have HEND := hid (bthen HB1.out (bthen HBB.out hbd))
          clear C4 hbd
          go_wp2_with fail
          go_ret
          exact ⟨rfl, HEND.out⟩
end Go.Proofs.Ytjcpjmijhloimaa
set_option linter.unusedVariables false
set_option linter.unusedSimpArgs false
namespace Go.Proofs.Ytjcpjmijhloimaa
open Go.ChangeShapes Go.WideShapes Go.ChangeAt Go.RowKit
theorem own : ownKnob Try.prog.godebug = none := by kernel_rfl
theorem laidOut : laidOutB Try.prog = true := by kernel_rfl
theorem cellsInt : Try.prog.cellsOf 2 = 1 := by kernel_rfl
set_option maxRecDepth 100000 in
theorem open_I {H : Type} {enc : TypeId × Value → H} {W : World} {base : Nat} {v : Value} {d : DataW H} {p : List MemPlace}
    (hv : Value.okWide Try.prog W .any base 25 v) (h : DataW.Trod enc Try.prog W 0 (fun _ => true) true 25 v d p) :
    ∃ (A : Option Addr) (c : Nat) (xs : List Int), v = .slice A xs.length c ∧ xs.length ≤ 9223372036854775807 ∧ RdI W A xs := by
  obtain ⟨a, len, cap, rfl⟩ := okWide_slice Try.underlying25 hv
  obtain ⟨fuel, hf⟩ := h
  rcases open_ints Try.underlying25 Try.underlying2 cellsInt hf with ⟨hcs, _⟩ | ⟨x, l, c, zs, hcs, _, hl, hm, hz, _, hcell, _⟩
  · simp [Value.cells] at hcs
    obtain ⟨rfl, rfl, rfl⟩ := hcs
    exact ⟨none, 0, [], rfl, by simp, fun k hk => absurd hk (Nat.not_lt_zero _)⟩
  · simp [Value.cells] at hcs
    obtain ⟨rfl, rfl, rfl⟩ := hcs
    simp only [if_true] at hz
    have hlen : (zs.take len).length = len := by rw [List.length_take]; omega
    refine ⟨some x, cap, zs.take len, by rw [hlen], by rw [hlen]; simp only [maxLen] at hm; omega, ?_⟩
    intro k hk
    rw [hlen] at hk
    have hc := hcell k (by omega)
    have he : el (zs.take len) k = zs.getD k 0 := by
      unfold el; rw [List.getD_eq_getElem?_getD, List.getD_eq_getElem?_getD, List.getElem?_take_of_lt hk]
    have hs : x.spot = none := by
      have hc0 := hcell 0 (by omega)
      cases hx : x.spot with
      | none => rfl
      | some s =>
        rw [show x.add 0 = x from rfl] at hc0
        simp only [World.cell?] at hc0
        split at hc0
        · rw [if_pos (by rw [hx]; rfl)] at hc0; cases hc0
        · cases hc0
    obtain ⟨b, off, s⟩ := x
    obtain rfl : s = none := hs
    refine ⟨b, off, rfl, ?_⟩
    show W.cell? _ = some (.int .i64 (el (List.take len zs) k))
    rw [he, ← hc]
    congr 1
    unfold Addr.add
    split
    · rename_i h; subst h; rfl
    · rfl
end Go.Proofs.Ytjcpjmijhloimaa
set_option linter.unusedVariables false
set_option linter.unusedSimpArgs false
namespace Go.Proofs.Ytjcpjmijhloimaa
open Go.ChangeShapes Go.WideShapes Go.ChangeAt Go.RowKit
theorem cellsU8 : Try.prog.cellsOf 5 = 1 := by kernel_rfl
set_option maxRecDepth 100000 in
theorem open_U {H : Type} {enc : TypeId × Value → H} {W : World} {base : Nat} {v : Value} {d : DataW H} {p : List MemPlace}
    (hv : Value.okWide Try.prog W .any base 22 v) (h : DataW.Trod enc Try.prog W 0 (fun _ => true) true 22 v d p) :
    ∃ (A : Option Addr) (c : Nat) (xs : List Int), v = .slice A xs.length c ∧ xs.length ≤ 9223372036854775807 ∧ RdU W A xs := by
  obtain ⟨a, len, cap, rfl⟩ := okWide_slice Try.underlying22 hv
  obtain ⟨fuel, hf⟩ := h
  rcases open_ints Try.underlying22 Try.underlying5 cellsU8 hf with ⟨hcs, _⟩ | ⟨x, l, c, zs, hcs, _, hl, hm, hz, _, hcell, hwf⟩
  · simp [Value.cells] at hcs
    obtain ⟨rfl, rfl, rfl⟩ := hcs
    exact ⟨none, 0, [], rfl, by simp, fun k hk => absurd hk (Nat.not_lt_zero _), fun k hk => absurd hk (Nat.not_lt_zero _)⟩
  · simp [Value.cells] at hcs
    obtain ⟨rfl, rfl, rfl⟩ := hcs
    simp only [if_true] at hz
    have hlen : (zs.take len).length = len := by rw [List.length_take]; omega
    have he : ∀ k, k < len → el (zs.take len) k = zs.getD k 0 := fun k hk => by
      unfold el; rw [List.getD_eq_getElem?_getD, List.getD_eq_getElem?_getD, List.getElem?_take_of_lt hk]
    refine ⟨some x, cap, zs.take len, by rw [hlen], by rw [hlen]; simp only [maxLen] at hm; omega, ?_, ?_⟩
    · intro k hk
      rw [hlen] at hk
      have hc := hcell k (by omega)
      have hs : x.spot = none := by
        have hc0 := hcell 0 (by omega)
        cases hx : x.spot with
        | none => rfl
        | some s =>
          rw [show x.add 0 = x from rfl] at hc0
          simp only [World.cell?] at hc0
          split at hc0
          · rw [if_pos (by rw [hx]; rfl)] at hc0; cases hc0
          · cases hc0
      obtain ⟨b, off, s⟩ := x
      obtain rfl : s = none := hs
      refine ⟨b, off, rfl, ?_⟩
      show W.cell? _ = some (.int .u8 (el (List.take len zs) k))
      rw [he k hk, ← hc]
      congr 1
      unfold Addr.add
      split
      · rename_i h; subst h; rfl
      · rfl
    · intro k hk
      rw [hlen] at hk
      rw [he k hk]
      have hm' : zs.getD k 0 ∈ zs := by
        rw [List.getD_eq_getElem?_getD, List.getElem?_eq_getElem (by omega)]; exact List.getElem_mem _
      have hw := hwf _ hm'
      simp only [Lit.wf, Bool.and_eq_true, decide_eq_true_eq] at hw
      exact hw
end Go.Proofs.Ytjcpjmijhloimaa
/- For every input the law FnScheduled holds: the call returns true; no condition. -/
set_option linter.unusedVariables false
set_option linter.unusedSimpArgs false
namespace Go.Proofs.Ytjcpjmijhloimaa.fnScheduled
open Go.ChangeShapes Go.WideShapes Go.ChangeAt Go.RowKit
open Go.ChangeMaps (open_string shut_string)
theorem own : ownKnob Try.prog.godebug = none := by kernel_rfl
theorem laidOut : laidOutB Try.prog = true := by kernel_rfl
set_option maxRecDepth 100000 in
theorem lifted (os : Os) (started : os.Started) (H : Type) (enc : TypeId × Value → H) :
    ReturnsInHanded {} Try.checked os 7 .any (Rows.fnScheduledSpec.pre6 enc Try.prog Try.f7 Rows.fnScheduledRow.domain false) (Rows.fnScheduledSpec.post enc Try.prog Try.f7 false true false false) := by
  refine returnsInHanded_of_change (C := Try.checked) own started (by kernel_rfl) Try.func7
    (ChangeSpec.witness6 (enc := enc) (C := Try.checked) false ⟨#[], #[.slice none 0 0, .slice none 0 0], []⟩ 8 (by kernel_rfl) (by kernel_rfl) (by kernel_rfl) (by kernel_rfl)) ?_
  intro W base args ds gs before hval0 hW hcnd _
  have hval : ∀ (j : Nat) t v, Try.f7.params[j]? = some t → args[j]? = some v → Value.okWide Try.prog W .any base t v := hval0
  have hW' := hW
  obtain ⟨p, q, hA0, hV, rfl, hfz, hnd⟩ := hW
  have hA : DataW.TrodAll enc Try.prog W 0 (fun _ => true) true Try.f7.params.toList args.toList ds p := hA0
  rw [Try.params7] at hA hval
  obtain ⟨v0, vs0, d0, ds0, p0, q0, hargs, rfl, rfl, h0, r0⟩ := trodAll_cons hA
  obtain ⟨v1, vs1, d1, ds1, p1, q1, rfl, rfl, rfl, h1, r1⟩ := trodAll_cons r0
  obtain ⟨rfl, rfl, rfl⟩ := trodAll_nil r1
  obtain rfl : args = #[v0, v1] := by cases args; simp_all
  obtain ⟨rfl, rfl⟩ := trodVars_none hV
  have k0 := h0
  have lt0 : ∀ x ∈ p0, x.block < W.heap.size := by obtain ⟨m, hm⟩ := k0; exact DataW.trod_lt m _ _ _ hm
  obtain ⟨A0, c0, xs0, rfl, hl0, hR0⟩ := open_U (hval 0 22 v0 rfl rfl) h0
  have k1 := h1
  have lt1 : ∀ x ∈ p1, x.block < W.heap.size := by obtain ⟨m, hm⟩ := k1; exact DataW.trod_lt m _ _ _ hm
  obtain ⟨A1, c1, xs1, rfl, hl1, hR1⟩ := open_U (hval 1 22 v1 rfl rfl) h1
  clear hA0 hval0
  refine (law_Scheduled W A0 c0 xs0 A1 c1 xs1 hl0 hR0 hl1 hR1).mono fun e W' ⟨he, bel⟩ => ?_
  subst he
  exact ⟨_, rfl, _, _, _, [], _, [], hW', trodAll_mk1 (shut_bool Try.underlying4 _), (trodAll_cons_mk (Below.trod laidOut (by kernel_rfl) (of_decide_eq_true (by kernel_rfl)) k0 bel lt0) (trodAll_cons_mk (Below.trod laidOut (by kernel_rfl) (of_decide_eq_true (by kernel_rfl)) k1 bel lt1) trodAll_mk0)), rfl, bel.frame _, fun h => by cases h⟩
theorem over : Rows.fnScheduledRow.holds Try.pinned (OpenSpec.ofChange Rows.fnScheduledSpec) :=
  OpenClaim.holds_of_wide 7 Try.f7 rfl rfl rfl rfl rfl rfl rfl ⟨rfl, rfl, rfl, rfl, rfl⟩ rfl rfl rfl rfl rfl (by kernel_rfl) Try.func7 (by kernel_rfl)
    (of_decide_eq_true (by kernel_rfl)) (by unfold Func.isWrapper; first | (rw [if_pos (by decide +kernel)]; kernel_rfl) | (rw [if_neg (by decide +kernel)]; exact ⟨rfl, rfl⟩))
    (fun os started H enc _ => lifted os started H enc)
theorem proved : Rows.FnScheduledSaid := over
#print axioms proved
end Go.Proofs.Ytjcpjmijhloimaa.fnScheduled
