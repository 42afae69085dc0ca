import Derived.Test.YtnnioicjmlfllaaGreatDoorTask3
import Derived.Test.YtnnioicjmlfllaaGreatDoorLawI
import Derived.Test.YtnnioicjmlfllaaGreatDoorWord
import Derived.Test.YtnnioicjmlfllaaGreatDoorFn
import Derived.Test.YtnnioicjmlfllaaGreatDoorOwnA
import Derived.Test.YtnnioicjmlfllaaGreatDoorRes
import Derived.Test.YtnnioicjmlfllaaGreatDoorCalm
import Derived.Test.YtnnioicjmlfllaaGreatDoorBt3
import Derived.Test.YtnnioicjmlfllaaGreatDoorRsr
import Derived.Test.YtnnioicjmlfllaaGreatDoorRdc
import Derived.Test.YtnnioicjmlfllaaGreatDoorCod3
import Derived.Test.YtnnioicjmlfllaaGreatDoorCat
import Derived.Test.YtnnioicjmlfllaaGreatDoorRws3
import Derived.Maps.AppendAt
import Derived.StillTail
import Derived.Test.YtnnioicjmlfllaaGreatDoorStmA
import Derived.Test.YtnnioicjmlfllaaGreatDoorShuf3
import Derived.Test.YtnnioicjmlfllaaGreatDoorShuf5
import Derived.Test.YtnnioicjmlfllaaGreatDoorBt2
import Derived.Test.YtnnioicjmlfllaaGreatDoorBase
import Derived.WalkKit
import Derived.ProofKit
import Derived.OpenShut
import Derived.Test.YtnnioicjmlfllaaGreatDoorSrc
import Derived.Test.YtnnioicjmlfllaaGreatDoorRows
import Derived.Test.YtnnioicjmlfllaaGreatDoorCards
import Derived.Test.YtnnioicjmlfllaaGreatDoorTie
import Derived.ShutString
import Derived.ChangeOld
import Derived.Below
import Derived.Lay
import Derived.Handed
import Derived.MakeChecks
import Derived.Lib.LaidTab
import Derived.Stop.LaidErr
import Derived.LaidOnce
import Derived.SevenTiedAt
set_option linter.unusedVariables false
set_option linter.unusedSimpArgs false
namespace Go.Proofs.YtnnioicjmlfllaaGreatDoor
open Go.RowKit

theorem task_eq (a b : TaskV) : decide (a = b) = (decide (a.port = b.port) && (decide (a.lat = b.lat) && decide (a.needs = b.needs))) := by
  cases a; cases b; rw [Bool.eq_iff_iff]; simp

end Go.Proofs.YtnnioicjmlfllaaGreatDoor
set_option linter.unusedVariables false
set_option linter.unusedSimpArgs false
namespace Go.Proofs.YtnnioicjmlfllaaGreatDoor
open Go.RowKit

/-- The first k numbers rise; rise and lie within bounds. -/
def setN (xs : List Int) : Nat → Bool
  | 0 => true
  | k + 1 => setN xs k && (decide (k = 0) || decide (el xs (k - 1) < el xs k))
def risN (xs : List Int) (lo hi : Int) : Nat → Bool
  | 0 => true
  | k + 1 => risN xs lo hi k && (inB (el xs k) lo hi && (decide (k = 0) || decide (el xs (k - 1) < el xs k)))
theorem setN_mono {xs : List Int} {j k : Nat} (h : setN xs j = false) (hk : j ≤ k) : setN xs k = false := by
  induction k with
  | zero => obtain rfl : j = 0 := by omega
            exact h
  | succ k ih => by_cases e : j = k + 1
                 · subst e; exact h
                 · simp only [setN]; rw [ih (by omega)]; rfl
theorem risN_mono {xs : List Int} {lo hi : Int} {j k : Nat} (h : risN xs lo hi j = false) (hk : j ≤ k) : risN xs lo hi k = false := by
  induction k with
  | zero => obtain rfl : j = 0 := by omega
            exact h
  | succ k ih => by_cases e : j = k + 1
                 · subst e; exact h
                 · simp only [risN]; rw [ih (by omega)]; rfl
theorem risN_eq (xs : List Int) (lo hi : Int) (k : Nat) : risN xs lo hi k = (setN xs k && allN k (fun i => inB (el xs i) lo hi)) := by
  induction k with
  | zero => simp [risN, setN, allN]
  | succ k ih =>
    have : allN (k + 1) (fun i => inB (el xs i) lo hi) = (allN k (fun i => inB (el xs i) lo hi) && inB (el xs k) lo hi) := by unfold allN; rw [List.range_succ, List.all_append]; simp
    simp only [risN, setN]
    rw [ih, this]
    cases setN xs k <;> cases allN k (fun i => inB (el xs i) lo hi) <;> cases inB (el xs k) lo hi <;> simp

end Go.Proofs.YtnnioicjmlfllaaGreatDoor
set_option linter.unusedVariables false
set_option linter.unusedSimpArgs false
namespace Go.Proofs.YtnnioicjmlfllaaGreatDoor
open Go.RowKit

end Go.Proofs.YtnnioicjmlfllaaGreatDoor
set_option linter.unusedVariables false
set_option linter.unusedSimpArgs false
namespace Go.Proofs.YtnnioicjmlfllaaGreatDoor
open Go.RowKit

/-- A task at place i that is valid; tasks that are. -/
def taskB (i : Nat) (t : TaskV) : Bool := inB t.port 0 2 && (inB t.lat 1 6 && risN t.needs 0 ((i : Int) - 1) t.needs.length)
def tasksN (ts : List TaskV) : Nat → Bool
  | 0 => true
  | k + 1 => tasksN ts k && taskB k (tel ts k)
def tasksB (ts : List TaskV) : Bool := decide (ts.length ≤ 8) && tasksN ts ts.length
theorem tasksN_mono {ts : List TaskV} {j k : Nat} (h : tasksN ts j = false) (hk : j ≤ k) : tasksN ts k = false := by
  induction k with
  | zero => obtain rfl : j = 0 := by omega
            exact h
  | succ k ih => by_cases e : j = k + 1
                 · subst e; exact h
                 · simp only [tasksN]; rw [ih (by omega)]; rfl

end Go.Proofs.YtnnioicjmlfllaaGreatDoor
set_option linter.unusedVariables false
set_option linter.unusedSimpArgs false
namespace Go.Proofs.YtnnioicjmlfllaaGreatDoor
open Go.RowKit


end Go.Proofs.YtnnioicjmlfllaaGreatDoor
set_option linter.unusedVariables false
set_option linter.unusedSimpArgs false
namespace Go.Proofs.YtnnioicjmlfllaaGreatDoor
open Go.RowKit

theorem taskB_eq (k : Nat) (t : TaskV) : taskB k t = (inB t.port 0 2 && (inB t.lat 1 6 && (setN t.needs t.needs.length && t.needs.all (fun x => inB x 0 ((k : Int) - 1))))) := by
  unfold taskB; rw [risN_eq, allN_ints t.needs (fun x => inB x 0 ((k : Int) - 1))]

end Go.Proofs.YtnnioicjmlfllaaGreatDoor
set_option linter.unusedVariables false
set_option linter.unusedSimpArgs false
namespace Go.Proofs.YtnnioicjmlfllaaGreatDoor
open Go.RowKit

/-! ### Schedules: the plain functions -/
/-- No task ahead of k of the port of the i-th one at its time. -/
def portN (ts : List TaskV) (xs : List Int) (i : Nat) : Nat → Bool
  | 0 => true
  | k + 1 => portN ts xs i k && !((tel ts k).port == (tel ts i).port && el xs k == el xs i)
def lateB (ts : List TaskV) (xs : List Int) (i : Nat) (x : Int) : Bool := decide (el xs x.toNat + (tel ts x.toNat).lat ≤ el xs i)
def lateN (ts : List TaskV) (xs : List Int) (i : Nat) : Bool := (tel ts i).needs.all (lateB ts xs i)
def fitB (ts : List TaskV) (xs : List Int) (i : Nat) : Bool := portN ts xs i i && lateN ts xs i
def fitN (ts : List TaskV) (xs : List Int) : Nat → Bool
  | 0 => true
  | k + 1 => fitN ts xs k && fitB ts xs k
def timeN (xs : List Int) : Bool := xs.all fun x => inB x 0 200
def schedB (ts : List TaskV) (xs : List Int) : Bool := tasksB ts && (decide (xs.length = ts.length) && (timeN xs && fitN ts xs xs.length))
/-- The reference's order: each time, then whether it fits. -/
def fitT (ts : List TaskV) (xs : List Int) : Nat → Bool
  | 0 => true
  | k + 1 => fitT ts xs k && (inB (el xs k) 0 200 && fitB ts xs k)
theorem timeN_eq (xs : List Int) : timeN xs = allN xs.length (fun k => inB (el xs k) 0 200) := by unfold timeN; rw [allN_ints xs (fun x => inB x 0 200)]
theorem allN_succ (k : Nat) (p : Nat → Bool) : allN (k + 1) p = (allN k p && p k) := by unfold allN; rw [List.range_succ, List.all_append]; simp
theorem fitT_eq (ts : List TaskV) (xs : List Int) (k : Nat) : fitT ts xs k = (allN k (fun k => inB (el xs k) 0 200) && fitN ts xs k) := by
  induction k with
  | zero => rfl
  | succ k ih =>
    rw [allN_succ]; simp only [fitT, fitN]; rw [ih]
    cases allN k (fun k => inB (el xs k) 0 200) <;> cases fitN ts xs k <;> cases inB (el xs k) 0 200 <;> simp
theorem fitT_mono {ts : List TaskV} {xs : List Int} {j k : Nat} (h : fitT ts xs j = false) (hk : j ≤ k) : fitT ts xs k = false := by
  induction k with
  | zero => obtain rfl : j = 0 := by omega
            exact h
  | succ k ih => by_cases e : j = k + 1
                 · subst e; exact h
                 · simp only [fitT]; rw [ih (by omega)]; rfl
theorem fitN_mono {ts : List TaskV} {xs : List Int} {j k : Nat} (h : fitN ts xs j = false) (hk : j ≤ k) : fitN ts xs k = false := by
  induction k with
  | zero => obtain rfl : j = 0 := by omega
            exact h
  | succ k ih => by_cases e : j = k + 1
                 · subst e; exact h
                 · simp only [fitN]; rw [ih (by omega)]; rfl
theorem portN_mono {ts : List TaskV} {xs : List Int} {i j k : Nat} (h : portN ts xs i j = false) (hk : j ≤ k) : portN ts xs i k = false := by
  induction k with
  | zero => obtain rfl : j = 0 := by omega
            exact h
  | succ k ih => by_cases e : j = k + 1
                 · subst e; exact h
                 · simp only [portN]; rw [ih (by omega)]; rfl
/-- What valid tasks are: few, their ports and latencies small, and what each needs is ahead of it. -/
structure TOk (ts : List TaskV) : Prop where
  few : ts.length ≤ 8
  port : ∀ k, k < ts.length → 0 ≤ (tel ts k).port ∧ (tel ts k).port ≤ 2
  lat : ∀ k, k < ts.length → 1 ≤ (tel ts k).lat ∧ (tel ts k).lat ≤ 6
  need : ∀ k, k < ts.length → ∀ j, j < (tel ts k).needs.length → 0 ≤ el (tel ts k).needs j ∧ el (tel ts k).needs j < k
  set : ∀ k, k < ts.length → setN (tel ts k).needs (tel ts k).needs.length = true
  len : ∀ k, k < ts.length → (tel ts k).needs.length ≤ k
theorem setN_step {xs : List Int} {n j : Nat} (h : setN xs n = true) (hj : j + 1 < n) : el xs j < el xs (j + 1) := by
  induction n with
  | zero => omega
  | succ n ih =>
    simp only [setN, Bool.and_eq_true] at h
    by_cases e : j + 1 = n
    · subst e; have := h.2; simpa using this
    · exact ih h.1 (by omega)
theorem setN_ge {xs : List Int} {n : Nat} (h : setN xs n = true) (h0 : ∀ j, j < n → 0 ≤ el xs j) : ∀ j, j < n → (j : Int) ≤ el xs j := by
  intro j
  induction j with
  | zero => intro hj; exact h0 0 hj
  | succ j ih => intro hj; have := ih (by omega); have := setN_step h hj; omega
theorem tasksN_at {ts : List TaskV} {n k : Nat} (h : tasksN ts n = true) (hk : k < n) : taskB k (tel ts k) = true := by
  induction n with
  | zero => omega
  | succ n ih =>
    simp only [tasksN, Bool.and_eq_true] at h
    by_cases e : k = n
    · subst e; exact h.2
    · exact ih h.1 (by omega)
theorem TOk.of {ts : List TaskV} (h : tasksB ts = true) : TOk ts := by
  simp only [tasksB, Bool.and_eq_true, decide_eq_true_eq] at h
  have hp : ∀ k, k < ts.length → inB (tel ts k).port 0 2 = true ∧ inB (tel ts k).lat 1 6 = true ∧ setN (tel ts k).needs (tel ts k).needs.length = true ∧ (∀ j, j < (tel ts k).needs.length → inB (el (tel ts k).needs j) 0 ((k : Int) - 1) = true) := fun k hk => by
    have := tasksN_at h.2 hk
    rw [taskB_eq] at this
    simp only [Bool.and_eq_true, List.all_eq_true] at this
    exact ⟨this.1, this.2.1, this.2.2.1, fun j hj => this.2.2.2 _ (el_mem hj)⟩
  have hn : ∀ k, k < ts.length → ∀ j, j < (tel ts k).needs.length → 0 ≤ el (tel ts k).needs j ∧ el (tel ts k).needs j < k := fun k hk j hj => by
    have := inB_iff.1 ((hp k hk).2.2.2 j hj); omega
  refine ⟨h.1, fun k hk => inB_iff.1 (hp k hk).1, fun k hk => inB_iff.1 (hp k hk).2.1, hn, fun k hk => (hp k hk).2.2.1, fun k hk => ?_⟩
  by_cases e : (tel ts k).needs.length = 0
  · omega
  · have h1 := setN_ge (hp k hk).2.2.1 (fun j hj => (hn k hk j hj).1) ((tel ts k).needs.length - 1) (by omega)
    have h2 := hn k hk ((tel ts k).needs.length - 1) (by omega)
    omega
theorem schedB_spec {ts : List TaskV} {xs : List Int} (h : xs.length = ts.length) : (decide (xs.length = ts.length) && (timeN xs && fitN ts xs xs.length)) = fitT ts xs xs.length := by
  rw [fitT_eq, timeN_eq, h]; simp
/-- The first n of what the i-th task needs are done in time. -/
def lateK (ts : List TaskV) (xs : List Int) (i : Nat) : Nat → Bool
  | 0 => true
  | k + 1 => lateK ts xs i k && lateB ts xs i (el (tel ts i).needs k)
theorem lateK_all (ts : List TaskV) (xs : List Int) (i : Nat) : lateK ts xs i (tel ts i).needs.length = lateN ts xs i := by
  have : ∀ n, lateK ts xs i n = allN n (fun k => lateB ts xs i (el (tel ts i).needs k)) := fun n => by
    induction n with
    | zero => rfl
    | succ n ih => rw [allN_succ]; simp only [lateK]; rw [ih]
  rw [this, lateN, allN_ints (tel ts i).needs (lateB ts xs i)]
theorem lateK_mono {ts : List TaskV} {xs : List Int} {i j k : Nat} (h : lateK ts xs i j = false) (hk : j ≤ k) : lateK ts xs i k = false := by
  induction k with
  | zero => obtain rfl : j = 0 := by omega
            exact h
  | succ k ih => by_cases e : j = k + 1
                 · subst e; exact h
                 · simp only [lateK]; rw [ih (by omega)]; rfl
end Go.Proofs.YtnnioicjmlfllaaGreatDoor
set_option linter.unusedVariables false
set_option linter.unusedSimpArgs false
namespace Go.Proofs.YtnnioicjmlfllaaGreatDoor
open Go.RowKit

/-! ### Heights: the plain functions -/
/-- The list after the first j of what is needed. -/
def ndN (out : List Int) (i : Nat) (ns : List Int) : Nat → List Int
  | 0 => out
  | j + 1 => (ndN out i ns j).set (el ns j).toNat (max (el (ndN out i ns j) (el ns j).toNat) (el (ndN out i ns j) i))
/-- The list after the last d tasks. -/
def htN (ts : List TaskV) : Nat → List Int
  | 0 => List.replicate ts.length 0
  | d + 1 => ndN ((htN ts d).set (ts.length - (d + 1)) (el (htN ts d) (ts.length - (d + 1)) + (tel ts (ts.length - (d + 1))).lat)) (ts.length - (d + 1)) (tel ts (ts.length - (d + 1))).needs (tel ts (ts.length - (d + 1))).needs.length
def hts (ts : List TaskV) : List Int := htN ts ts.length
theorem ndN_length (out : List Int) (i : Nat) (ns : List Int) (j : Nat) : (ndN out i ns j).length = out.length := by
  induction j with | zero => rfl | succ j ih => simp [ndN, ih]
theorem htN_length (ts : List TaskV) (d : Nat) : (htN ts d).length = ts.length := by
  induction d with | zero => simp [htN] | succ d ih => simp [htN, ndN_length, ih]
theorem hts_length (ts : List TaskV) : (hts ts).length = ts.length := htN_length ts _
/-- Every number from 0 to b. -/
def BndI (xs : List Int) (b : Int) : Prop := ∀ k, 0 ≤ el xs k ∧ el xs k ≤ b
theorem el_out {xs : List Int} {k : Nat} (h : xs.length ≤ k) : el xs k = 0 := by
  unfold el; rw [List.getD_eq_getElem?_getD, List.getElem?_eq_none h]; rfl
theorem bnd_set {xs : List Int} {b : Int} (h : BndI xs b) (k : Nat) {x : Int} (h0 : 0 ≤ x) (h1 : x ≤ b) : BndI (xs.set k x) b := fun j => by
  by_cases e : k = j
  · subst e
    by_cases hk : k < xs.length
    · rw [el_set_same hk]; exact ⟨h0, h1⟩
    · rw [el_out (by simp; omega)]; have := h 0; omega
  · rw [el_set_other e]; exact h j
theorem bnd_wide {xs : List Int} {b b' : Int} (h : BndI xs b) (hb : b ≤ b') : BndI xs b' := fun k => by have := h k; omega
theorem bnd_zero (n : Nat) : BndI (List.replicate n 0) 0 := fun k => by
  have : el (List.replicate n 0) k = 0 := by
    unfold el; rw [List.getD_eq_getElem?_getD, List.getElem?_replicate]; split <;> rfl
  omega
theorem bnd_ndN {out : List Int} {b : Int} (h : BndI out b) (i : Nat) (ns : List Int) (j : Nat) : BndI (ndN out i ns j) b := by
  induction j with
  | zero => exact h
  | succ j ih =>
    have h1 := ih (el ns j).toNat
    have h2 := ih i
    exact bnd_set ih _ (by omega) (by omega)
theorem bnd_htN {ts : List TaskV} (h : TOk ts) (d : Nat) (hd : d ≤ ts.length) : BndI (htN ts d) (6 * d) := by
  induction d with
  | zero => exact bnd_zero _
  | succ d ih =>
    have h1 := ih (by omega)
    have h2 := h1 (ts.length - (d + 1))
    have h3 := h.lat (ts.length - (d + 1)) (by omega)
    exact bnd_ndN (bnd_set (bnd_wide h1 (by omega)) _ (by omega) (by omega)) _ _ _
theorem bnd_hts {ts : List TaskV} (h : TOk ts) : BndI (hts ts) 48 := bnd_wide (bnd_htN h ts.length (Nat.le_refl _)) (by have := h.few; omega)
/-- The greatest of the first k numbers and 0. -/
def mxN (xs : List Int) : Nat → Int
  | 0 => 0
  | k + 1 => max (mxN xs k) (el xs k)
theorem mxN_bnd {xs : List Int} {b : Int} (h : BndI xs b) (hb : 0 ≤ b) (k : Nat) : 0 ≤ mxN xs k ∧ mxN xs k ≤ b := by
  induction k with
  | zero => exact ⟨Int.le_refl _, hb⟩
  | succ k ih => have := h k; simp only [mxN]; omega
end Go.Proofs.YtnnioicjmlfllaaGreatDoor
set_option linter.unusedVariables false
set_option linter.unusedSimpArgs false
namespace Go.Proofs.YtnnioicjmlfllaaGreatDoor
open Go.RowKit

theorem box_new (w : World) (v : Value) (t : TypeId) : (w.alloc (.cells #[v] t)).cell? ⟨w.heap.size, 0, none⟩ = some v := by simp
theorem box_new1 (w : World) (o : Obj) (v : Value) (t : TypeId) : ((w.alloc o).alloc (.cells #[v] t)).cell? ⟨w.heap.size + 1, 0, none⟩ = some v := by
  have h := box_new (w.alloc o) v t
  rwa [show (w.alloc o).heap.size = w.heap.size + 1 by simp] at h
theorem box_new2 (w : World) (o o' : Obj) (v : Value) (t : TypeId) : (((w.alloc o).alloc o').alloc (.cells #[v] t)).cell? ⟨w.heap.size + 1 + 1, 0, none⟩ = some v := by
  have h := box_new1 (w.alloc o) o' v t
  rwa [show (w.alloc o).heap.size = w.heap.size + 1 by simp] at h
/-- Numbers that are not large. -/
def Sml (xs : List Int) : Prop := ∀ k, k < xs.length → -1000000 ≤ el xs k ∧ el xs k ≤ 1000000

end Go.Proofs.YtnnioicjmlfllaaGreatDoor
set_option linter.unusedVariables false
set_option linter.unusedSimpArgs false
namespace Go.Proofs.YtnnioicjmlfllaaGreatDoor
open Go.RowKit

theorem s_l00Max (a b : Int) (w : World) : Calls Tryz.prog 217 #[.int .i64 a, .int .i64 b] w fun e w' => e = .returned (.int .i64 (max a b)) ∧ w = w' := by
  by_cases h : b < a
  · go_enter Tryz.func217, Tryz.ntmps217
    go_wp2
    go_ret
    exact ⟨ret_i (by omega), rfl⟩
  · go_enter Tryz.func217, Tryz.ntmps217
    go_wp2
    go_ret
    exact ⟨ret_i (by omega), rfl⟩
theorem s_l00Min (a b : Int) (w : World) : Calls Tryz.prog 50 #[.int .i64 a, .int .i64 b] w fun e w' => e = .returned (.int .i64 (min a b)) ∧ w = w' := by
  by_cases h : a < b
  · go_enter Tryz.func50, Tryz.ntmps50
    go_wp2
    go_ret
    exact ⟨ret_i (by omega), rfl⟩
  · go_enter Tryz.func50, Tryz.ntmps50
    go_wp2
    go_ret
    exact ⟨ret_i (by omega), rfl⟩

end Go.Proofs.YtnnioicjmlfllaaGreatDoor
set_option linter.unusedVariables false
set_option linter.unusedSimpArgs false
namespace Go.Proofs.YtnnioicjmlfllaaGreatDoor
open Go.RowKit

theorem top_or {bi : Int} (h : bitsB bi = true) : (bi = 4 ∧ top bi = 15 ∧ haB bi = 8) ∨ (bi = 8 ∧ top bi = 255 ∧ haB bi = 128) ∨ (bi = 16 ∧ top bi = 65535 ∧ haB bi = 32768) := by
  rcases bitsB_or h with rfl | rfl | rfl <;> simp [top, haB]
theorem sgB_range {bi x : Int} (h : wordB bi x = true) : -haB bi ≤ sgB bi x ∧ sgB bi x ≤ haB bi - 1 := by
  simp only [wordB, Bool.and_eq_true, inB_iff] at h
  rcases top_or h.1 with ⟨rfl, h1, h2⟩ | ⟨rfl, h1, h2⟩ | ⟨rfl, h1, h2⟩ <;> (rw [h1] at h; unfold sgB; rw [h2, h1]; split <;> omega)
/-- A number cut off at half the words. -/
def clB (bi n : Int) : Int := max (-haB bi) (min n (haB bi - 1))
theorem i_nearest (bi n : Int) (w : World) (hb : bitsB bi = true) : Calls Tryz.prog 134 #[.int .i64 bi, .int .i64 n] w fun e w' => e = .returned (.int .i64 (wrB bi (clB bi n))) ∧ w = w' := by
  have CW := hid (fun n w => i_wrapped bi n w hb)
  have CB := hid (fun n a b w => i_bounded n a b w)
  rcases top_or hb with ⟨rfl, h1, h2⟩ | ⟨rfl, h1, h2⟩ | ⟨rfl, h1, h2⟩ <;>
  · have H := hid h2
    clear hb h1 h2
    go_enter Tryz.func134, Tryz.ntmps134
    go_wp2_with (first | (go_at_call 133; refine (CB.out _ _ _ _).mono ?_; rintro e w' ⟨rfl, rfl⟩) | (go_at_call 132; refine (CW.out _ _).mono ?_; rintro e w' ⟨rfl, rfl⟩))
    go_ret
    exact ⟨ret_i (by unfold clB; rw [H.out]; rfl), rfl⟩
theorem s_l01Between (n a b : Int) (w : World) (hab : a ≤ b) : Calls Tryz.prog 218 #[.int .i64 n, .int .i64 a, .int .i64 b] w fun e w' => e = .returned (.int .i64 (max a (min n b))) ∧ w = w' := by
  have CX := hid (fun a b w => s_l00Max a b w)
  have CN := hid (fun a b w => s_l00Min a b w)
  go_enter Tryz.func218, Tryz.ntmps218
  go_wp2_with (first | (go_at_call 217; refine (CX.out _ _ _).mono ?_; rintro e w' ⟨rfl, rfl⟩) | (go_at_call 50; refine (CN.out _ _ _).mono ?_; rintro e w' ⟨rfl, rfl⟩))
  go_ret
  exact ⟨ret_i (by omega), rfl⟩
theorem s_l01Signed (bi x : Int) (w : World) (hb : wordB bi x = true) : Calls Tryz.prog 216 #[.int .i64 bi, .int .i64 x] w fun e w' => e = .returned (.int .i64 (sgB bi x)) ∧ w = w' := by
  simp only [wordB, Bool.and_eq_true, inB_iff] at hb
  rcases top_or hb.1 with ⟨rfl, h1, h2⟩ | ⟨rfl, h1, h2⟩ | ⟨rfl, h1, h2⟩
  · rw [h1] at hb
    by_cases h : x < 8
    · have q : x / 8 = 0 := by omega
      have H := hid h
      clear h
      go_enter Tryz.func216, Tryz.ntmps216
      go_wp2
      go_ret
      exact ⟨ret_i (by have := H.out; unfold sgB; rw [h2, h1]; omega), rfl⟩
    · have q : x / 8 = 1 := by omega
      have H := hid h
      clear h
      go_enter Tryz.func216, Tryz.ntmps216
      go_wp2
      go_ret
      exact ⟨ret_i (by have := H.out; unfold sgB; rw [h2, h1]; omega), rfl⟩
  · rw [h1] at hb
    by_cases h : x < 128
    · have q : x / 128 = 0 := by omega
      have H := hid h
      clear h
      go_enter Tryz.func216, Tryz.ntmps216
      go_wp2
      go_ret
      exact ⟨ret_i (by have := H.out; unfold sgB; rw [h2, h1]; omega), rfl⟩
    · have q : x / 128 = 1 := by omega
      have H := hid h
      clear h
      go_enter Tryz.func216, Tryz.ntmps216
      go_wp2
      go_ret
      exact ⟨ret_i (by have := H.out; unfold sgB; rw [h2, h1]; omega), rfl⟩
  · rw [h1] at hb
    by_cases h : x < 32768
    · have q : x / 32768 = 0 := by omega
      have H := hid h
      clear h
      go_enter Tryz.func216, Tryz.ntmps216
      go_wp2
      go_ret
      exact ⟨ret_i (by have := H.out; unfold sgB; rw [h2, h1]; omega), rfl⟩
    · have q : x / 32768 = 1 := by omega
      have H := hid h
      clear h
      go_enter Tryz.func216, Tryz.ntmps216
      go_wp2
      go_ret
      exact ⟨ret_i (by have := H.out; unfold sgB; rw [h2, h1]; omega), rfl⟩
end Go.Proofs.YtnnioicjmlfllaaGreatDoor
set_option linter.unusedVariables false
set_option linter.unusedSimpArgs false
namespace Go.Proofs.YtnnioicjmlfllaaGreatDoor
open Go.RowKit

theorem word_and (a b : Int) (h1 : 0 ≤ a) (h2 : a ≤ 65535) (h3 : 0 ≤ b) (h4 : b ≤ 65535) : bits .and .i64 a b = ((a.toNat &&& b.toNat : Nat) : Int) := by
  have hx : a.toNat &&& b.toNat < 2 ^ 63 := Nat.lt_of_le_of_lt Nat.and_le_left (by omega)
  obtain ⟨m, rfl⟩ := Int.eq_ofNat_of_zero_le h1
  obtain ⟨n, rfl⟩ := Int.eq_ofNat_of_zero_le h3
  have e1 : (BitVec.ofInt 64 (m : Int)).toNat = m := by rw [BitVec.ofInt_natCast, BitVec.toNat_ofNat]; exact Nat.mod_eq_of_lt (by omega)
  have e2 : (BitVec.ofInt 64 (n : Int)).toNat = n := by rw [BitVec.ofInt_natCast, BitVec.toNat_ofNat]; exact Nat.mod_eq_of_lt (by omega)
  simp only [Int.toNat_natCast] at hx ⊢
  show IntKind.i64.wrap ((BitVec.ofInt 64 (m : Int) &&& BitVec.ofInt 64 (n : Int)).toNat : Int) = _
  rw [BitVec.toNat_and, e1, e2, IntKind.wrap_i64]
  omega
theorem word_or (a b : Int) (h1 : 0 ≤ a) (h2 : a ≤ 65535) (h3 : 0 ≤ b) (h4 : b ≤ 65535) : bits .or .i64 a b = ((a.toNat ||| b.toNat : Nat) : Int) := by
  have hx : a.toNat ||| b.toNat < 2 ^ 63 := Nat.or_lt_two_pow (by omega) (by omega)
  obtain ⟨m, rfl⟩ := Int.eq_ofNat_of_zero_le h1
  obtain ⟨n, rfl⟩ := Int.eq_ofNat_of_zero_le h3
  have e1 : (BitVec.ofInt 64 (m : Int)).toNat = m := by rw [BitVec.ofInt_natCast, BitVec.toNat_ofNat]; exact Nat.mod_eq_of_lt (by omega)
  have e2 : (BitVec.ofInt 64 (n : Int)).toNat = n := by rw [BitVec.ofInt_natCast, BitVec.toNat_ofNat]; exact Nat.mod_eq_of_lt (by omega)
  simp only [Int.toNat_natCast] at hx ⊢
  show IntKind.i64.wrap ((BitVec.ofInt 64 (m : Int) ||| BitVec.ofInt 64 (n : Int)).toNat : Int) = _
  rw [BitVec.toNat_or, e1, e2, IntKind.wrap_i64]
  omega
theorem word_xor (a b : Int) (h1 : 0 ≤ a) (h2 : a ≤ 65535) (h3 : 0 ≤ b) (h4 : b ≤ 65535) : bits .xor .i64 a b = ((a.toNat ^^^ b.toNat : Nat) : Int) := by
  have hx : a.toNat ^^^ b.toNat < 2 ^ 63 := Nat.xor_lt_two_pow (by omega) (by omega)
  obtain ⟨m, rfl⟩ := Int.eq_ofNat_of_zero_le h1
  obtain ⟨n, rfl⟩ := Int.eq_ofNat_of_zero_le h3
  have e1 : (BitVec.ofInt 64 (m : Int)).toNat = m := by rw [BitVec.ofInt_natCast, BitVec.toNat_ofNat]; exact Nat.mod_eq_of_lt (by omega)
  have e2 : (BitVec.ofInt 64 (n : Int)).toNat = n := by rw [BitVec.ofInt_natCast, BitVec.toNat_ofNat]; exact Nat.mod_eq_of_lt (by omega)
  simp only [Int.toNat_natCast] at hx ⊢
  show IntKind.i64.wrap ((BitVec.ofInt 64 (m : Int) ^^^ BitVec.ofInt 64 (n : Int)).toNat : Int) = _
  rw [BitVec.toNat_xor, e1, e2, IntKind.wrap_i64]
  omega
/-- The shift that b asks for. -/
def shB (bi b : Int) : Nat := (b % bi).toNat
/-- The result of an operation for two words. -/
def resZ (op bi a b : Int) : Int :=
  if op = 0 then wrB bi (a + b) else if op = 1 then wrB bi (a - b) else if op = 2 then wrB bi (a * b) else
  if op = 3 then ((a.toNat &&& b.toNat : Nat) : Int) else if op = 4 then ((a.toNat ||| b.toNat : Nat) : Int) else if op = 5 then ((a.toNat ^^^ b.toNat : Nat) : Int) else
  if op = 6 then min a b else if op = 7 then max a b else
  if op = 8 then (if sgB bi a ≤ sgB bi b then a else b) else if op = 9 then (if sgB bi b ≤ sgB bi a then a else b) else
  if op = 10 then min (a + b) (top bi) else if op = 11 then wrB bi (clB bi (sgB bi a + sgB bi b)) else
  if op = 12 then max (a - b) 0 else if op = 13 then wrB bi (clB bi (sgB bi a - sgB bi b)) else
  if op = 14 then (a + b + 1) / 2 else if op = 15 then wrB bi (a * 2 ^ shB bi b) else
  if op = 16 then a / 2 ^ shB bi b else wrB bi (sgB bi a / 2 ^ shB bi b)
theorem wrB_range (bi n : Int) (hb : bitsB bi = true) : 0 ≤ wrB bi n ∧ wrB bi n ≤ top bi := by
  unfold wrB
  rcases top_or hb with ⟨rfl, h1, h2⟩ | ⟨rfl, h1, h2⟩ | ⟨rfl, h1, h2⟩ <;> (rw [h1]; omega)
theorem pow2_16 {k : Nat} (h : k < 16) : 0 < (2 : Int) ^ k ∧ (2 : Int) ^ k ≤ 32768 := by
  have h1 : 2 ^ k ≤ 2 ^ 15 := Nat.pow_le_pow_right (by omega) (by omega)
  have h2 : 0 < 2 ^ k := Nat.pow_pos (by omega)
  have e : ((2 : Int) ^ k) = ((2 ^ k : Nat) : Int) := by push_cast; rfl
  rw [e]; omega
theorem shB_lt {bi : Int} (b : Int) (hb : bitsB bi = true) : shB bi b < 16 := by
  unfold shB
  rcases bitsB_or hb with rfl | rfl | rfl <;> omega
theorem bit_le {a b t : Nat} (h1 : a < 2 ^ t) (h2 : b < 2 ^ t) : (a &&& b) < 2 ^ t ∧ (a ||| b) < 2 ^ t ∧ (a ^^^ b) < 2 ^ t :=
  ⟨Nat.and_lt_two_pow _ h2, Nat.or_lt_two_pow h1 h2, Nat.xor_lt_two_pow h1 h2⟩
theorem bit_top {bi a b : Int} (ha : wordB bi a = true) (hb : wordB bi b = true) : ((a.toNat &&& b.toNat : Nat) : Int) ≤ top bi ∧ ((a.toNat ||| b.toNat : Nat) : Int) ≤ top bi ∧ ((a.toNat ^^^ b.toNat : Nat) : Int) ≤ top bi := by
  simp only [wordB, Bool.and_eq_true, inB_iff] at ha hb
  rcases top_or ha.1 with ⟨rfl, h1, h2⟩ | ⟨rfl, h1, h2⟩ | ⟨rfl, h1, h2⟩ <;> rw [h1] at ha hb ⊢
  · have := bit_le (a := a.toNat) (b := b.toNat) (t := 4) (by omega) (by omega); omega
  · have := bit_le (a := a.toNat) (b := b.toNat) (t := 8) (by omega) (by omega); omega
  · have := bit_le (a := a.toNat) (b := b.toNat) (t := 16) (by omega) (by omega); omega
theorem ite2 {T : Int} {p : Prop} [Decidable p] {x y : Int} (h1 : 0 ≤ x ∧ x ≤ T) (h2 : 0 ≤ y ∧ y ≤ T) : 0 ≤ (if p then x else y) ∧ (if p then x else y) ≤ T := by
  by_cases h : p
  · rw [if_pos h]; exact h1
  · rw [if_neg h]; exact h2
/-- The result is a word. -/
theorem resZ_word {op bi a b : Int} (ha : wordB bi a = true) (hb : wordB bi b = true) : wordB bi (resZ op bi a b) = true := by
  have hbi : bitsB bi = true := by simp only [wordB, Bool.and_eq_true] at ha; exact ha.1
  have hw := fun n => wrB_range bi n hbi
  have ht := bit_top ha hb
  have hp := pow2_16 (shB_lt b hbi)
  have hd1 : ∀ x : Int, 0 ≤ x → 0 ≤ x / 2 ^ shB bi b ∧ x / 2 ^ shB bi b ≤ x := fun x hx => ⟨Int.ediv_nonneg hx (by omega), Int.ediv_le_self _ hx⟩
  simp only [wordB, Bool.and_eq_true, inB_iff] at ha hb ⊢
  refine ⟨hbi, ?_⟩
  have hq := hd1 a ha.2.1
  unfold resZ
  refine ite2 (hw _) (ite2 (hw _) (ite2 (hw _) (ite2 ⟨by omega, ht.1⟩ (ite2 ⟨by omega, ht.2.1⟩ (ite2 ⟨by omega, ht.2.2⟩ ?_)))))
  refine ite2 (by omega) (ite2 (by omega) (ite2 (ite2 ha.2 hb.2) (ite2 (ite2 ha.2 hb.2) (ite2 (by omega) (ite2 (hw _) ?_)))))
  exact ite2 (by omega) (ite2 (hw _) (ite2 (by omega) (ite2 (hw _) (ite2 (by omega) (hw _)))))
end Go.Proofs.YtnnioicjmlfllaaGreatDoor
set_option linter.unusedVariables false
set_option linter.unusedSimpArgs false
namespace Go.Proofs.YtnnioicjmlfllaaGreatDoor
open Go.RowKit

/-! ### Code that runs, in any order -/
def stpR (bi : Int) (cells : List Int) (x : SmV) : List Int := cells.set x.d.toNat (resZ x.o bi (el cells x.a.toNat) (el cells x.b.toNat))
def runR (bi : Int) (cells : List Int) (cs : List SmV) : List Int := cs.foldl (stpR bi) cells
theorem stpR_len (bi : Int) (cells : List Int) (x : SmV) : (stpR bi cells x).length = cells.length := by simp [stpR]
theorem runR_len (bi : Int) (cs : List SmV) : ∀ cells : List Int, (runR bi cells cs).length = cells.length := by
  induction cs with
  | nil => intro cells; rfl
  | cons x r ih => intro cells; show (runR bi (stpR bi cells x) r).length = _; rw [ih, stpR_len]
theorem folB_symm (x y : SmV) : folB x y = folB y x := by
  unfold folB; rw [Bool.eq_iff_iff]; simp; grind
theorem folB_no {x y : SmV} (h : folB x y = false) : x.d ≠ y.a ∧ x.d ≠ y.b ∧ x.d ≠ y.d ∧ y.d ≠ x.a ∧ y.d ≠ x.b := by
  unfold folB at h; simpa using h
structure Rng (x : SmV) : Prop where
  d : 0 ≤ x.d
  a : 0 ≤ x.a
  b : 0 ≤ x.b
theorem stp_comm {bi : Int} {x y : SmV} (cells : List Int) (hx : Rng x) (hy : Rng y) (h : folB x y = false) : stpR bi (stpR bi cells x) y = stpR bi (stpR bi cells y) x := by
  obtain ⟨h1, h2, h3, h4, h5⟩ := folB_no h
  have a1 := hx.d; have a2 := hx.a; have a3 := hx.b; have b1 := hy.d; have b2 := hy.a; have b3 := hy.b
  have n1 : x.d.toNat ≠ y.a.toNat := by omega
  have n2 : x.d.toNat ≠ y.b.toNat := by omega
  have n3 : x.d.toNat ≠ y.d.toNat := by omega
  have n4 : y.d.toNat ≠ x.a.toNat := by omega
  have n5 : y.d.toNat ≠ x.b.toNat := by omega
  unfold stpR
  rw [el_set_other n1, el_set_other n2, el_set_other n4, el_set_other n5, List.set_comm _ _ n3]
theorem run_front {bi : Int} {cs : List SmV} {y : Nat} (hy : Rng (sel cs y)) : ∀ (L1 : List Nat) (cells : List Int), (∀ i ∈ L1, Rng (sel cs i) ∧ folB (sel cs i) (sel cs y) = false) →
    stpR bi (runR bi cells (L1.map (sel cs))) (sel cs y) = runR bi (stpR bi cells (sel cs y)) (L1.map (sel cs)) := by
  intro L1
  induction L1 with
  | nil => intro cells _; rfl
  | cons i r ih =>
    intro cells h
    have h0 := h i (by simp)
    show stpR bi (runR bi (stpR bi cells (sel cs i)) (r.map (sel cs))) (sel cs y) = runR bi (stpR bi (stpR bi cells (sel cs y)) (sel cs i)) (r.map (sel cs))
    rw [ih _ (fun j hj => h j (by simp [hj])), stp_comm cells h0.1 hy h0.2]
theorem run_perm {bi : Int} {cs : List SmV} (hr : ∀ i, i < cs.length → Rng (sel cs i)) : ∀ (l L : List Nat) (cells : List Int), L.Pairwise (· < ·) → l.Perm L → (∀ i ∈ L, i < cs.length) →
    l.Pairwise (fun a b => b < a → folB (sel cs b) (sel cs a) = false) → runR bi cells (l.map (sel cs)) = runR bi cells (L.map (sel cs)) := by
  intro l
  induction l with
  | nil => intro L cells _ hp _ _; rw [hp.nil_eq]
  | cons y l' ih =>
    intro L cells hL hp hn hd
    have hy : y ∈ L := hp.mem_iff.1 (by simp)
    obtain ⟨L1, L2, rfl⟩ := List.append_of_mem hy
    have hp' : l'.Perm (L1 ++ L2) := (hp.trans List.perm_middle).cons_inv
    have hd' := List.pairwise_cons.1 hd
    have hL1 := List.pairwise_append.1 hL
    have hc : ∀ i ∈ L1, Rng (sel cs i) ∧ folB (sel cs i) (sel cs y) = false := fun i hi => by
      refine ⟨hr i (hn i (by simp [hi])), ?_⟩
      have hlt : i < y := hL1.2.2 i hi y (by simp)
      exact hd'.1 i (hp'.mem_iff.2 (by simp [hi])) hlt
    have hyr := hr y (hn y hy)
    show runR bi (stpR bi cells (sel cs y)) (l'.map (sel cs)) = _
    rw [ih (L1 ++ L2) _ (hL.sublist (by simp)) hp' (fun i hi => hn i (by simp at hi ⊢; rcases hi with h | h <;> simp [h])) hd'.2]
    rw [List.map_append, List.map_append, List.map_cons]
    show (L1.map (sel cs) ++ L2.map (sel cs)).foldl (stpR bi) _ = (L1.map (sel cs) ++ (sel cs y :: L2.map (sel cs))).foldl (stpR bi) cells
    rw [List.foldl_append, List.foldl_append, List.foldl_cons]
    have := run_front (bi := bi) hyr L1 cells hc
    unfold runR at this
    rw [this]
theorem sel_range (cs : List SmV) : (List.range cs.length).map (sel cs) = cs := by
  refine sel_ext (by simp) fun k hk => ?_
  have hk' : k < cs.length := by simpa using hk
  unfold sel; rw [List.getD_eq_getElem?_getD, List.getElem?_map, List.getElem?_range hk']
  simp [sel]
def ordM (cs : List SmV) (ys : List Int) : List SmV := ys.map fun y => sel cs y.toNat
theorem ord_run {bi : Int} {cs : List SmV} {ys : List Int} (hc : codeB cs = true) (hl : ys.length = cs.length) (h : OrdC cs ys) (cells : List Int) : runR bi cells (ordM cs ys) = runR bi cells cs := by
  have hnd : (ys.map Int.toNat).Nodup := by
    rw [List.nodup_iff_pairwise_ne, List.pairwise_map]
    refine (List.nodup_iff_pairwise_ne.1 h.nd).imp_of_mem ?_
    intro a b ha hb hab
    have := h.rg a ha; have := h.rg b hb; omega
  have hp : (ys.map Int.toNat).Perm (List.range cs.length) := by
    rw [List.perm_ext_iff_of_nodup hnd List.nodup_range]
    intro i
    constructor
    · intro hi
      obtain ⟨y, hy, rfl⟩ := List.mem_map.1 hi
      have := h.rg y hy
      exact List.mem_range.2 (by omega)
    · intro hi
      have hi' := List.mem_range.1 hi
      by_cases hm : (i : Int) ∈ ys
      · exact List.mem_map.2 ⟨_, hm, by simp⟩
      · have := nodup_few cs.length ((i : Int) :: ys) (List.nodup_cons.2 ⟨hm, h.nd⟩) (fun x hx => by
          rcases List.mem_cons.1 hx with rfl | hx
          · omega
          · exact h.rg x hx)
        simp at this; omega
  have hpw : (ys.map Int.toNat).Pairwise (fun a b => b < a → folB (sel cs b) (sel cs a) = false) := by
    rw [List.pairwise_iff_getElem]
    intro p q hp0 hq0 hpq hlt
    simp only [List.length_map] at hp0 hq0
    simp only [List.getElem_map] at hlt ⊢
    have ep := el_get hp0
    have eq := el_get hq0
    rw [List.getElem?_eq_getElem hp0] at ep
    rw [List.getElem?_eq_getElem hq0] at eq
    have ep' := Option.some.inj ep
    have eq' := Option.some.inj eq
    rw [ep', eq'] at hlt ⊢
    have r1 := h.rg _ (el_mem hp0)
    have r2 := h.rg _ (el_mem hq0)
    cases hf : folB (sel cs (el ys q).toNat) (sel cs (el ys p).toNat) with
    | false => rfl
    | true =>
      exfalso
      have hm := h.dep p hp0 (el ys q).toNat (by omega) hf
      rw [show (((el ys q).toNat : Nat) : Int) = el ys q by omega] at hm
      obtain ⟨j, hj, hje⟩ := List.getElem_of_mem hm
      simp only [List.length_take] at hj
      rw [List.getElem_take] at hje
      have hnd2 := (List.nodup_iff_pairwise_ne.1 h.nd)
      rw [List.pairwise_iff_getElem] at hnd2
      exact hnd2 j q (by omega) hq0 (by omega) (by rw [hje, eq'])
  have := run_perm (bi := bi) (cs := cs) (fun i hi => by have := codeB_at hc hi; exact ⟨this.2.1.1, this.2.2.1.1, this.2.2.2.1⟩) (ys.map Int.toNat) (List.range cs.length) cells List.pairwise_lt_range hp (fun i hi => List.mem_range.1 hi) hpw
  rw [sel_range, List.map_map] at this
  exact this
theorem ordM_code {cs : List SmV} {ys : List Int} (hc : codeB cs = true) (hl : ys.length = cs.length) (h : OrdC cs ys) : codeB (ordM cs ys) = true := by
  unfold codeB at *
  simp only [Bool.and_eq_true, decide_eq_true_eq, List.all_eq_true] at *
  refine ⟨by simp [ordM]; omega, fun x hx => ?_⟩
  obtain ⟨y, hy, rfl⟩ := List.mem_map.1 hx
  have := h.rg y hy
  exact hc.2 _ (sel_mem (by omega))
/-! ### Cells stay words -/
def celB (bi : Int) (cells : List Int) : Bool := bitsB bi && (decide (cells.length = 32) && cells.all (wordB bi))
theorem celB_at {bi : Int} {cells : List Int} (h : celB bi cells = true) {k : Nat} (hk : k < cells.length) : wordB bi (el cells k) = true := by
  unfold celB at h; simp only [Bool.and_eq_true, List.all_eq_true] at h; exact h.2.2 _ (el_mem hk)
theorem celB_step {bi : Int} {cells : List Int} {x : SmV} (h : celB bi cells = true) (hx : stmB x = true) : celB bi (stpR bi cells x) = true := by
  have hh := h
  unfold stmB at hx
  simp only [Bool.and_eq_true, inB_iff] at hx
  unfold celB at h ⊢
  simp only [Bool.and_eq_true, decide_eq_true_eq, List.all_eq_true] at h ⊢
  refine ⟨h.1, by rw [stpR_len]; exact h.2.1, fun y hy => ?_⟩
  rcases List.mem_or_eq_of_mem_set hy with hm | rfl
  · exact h.2.2 y hm
  · exact resZ_word (celB_at hh (by omega)) (celB_at hh (by omega))
/-! ### Levels -/
def levM (cs : List SmV) (ls : List Int) (j : Nat) : Nat → Int
  | 0 => 0
  | i + 1 => if folB (sel cs i) (sel cs j) then max (levM cs ls j i) (el ls i + 1) else levM cs ls j i
def levL (cs : List SmV) : Nat → List Int
  | 0 => []
  | j + 1 => levL cs j ++ [levM cs (levL cs j) j j]
theorem levL_len (cs : List SmV) (n : Nat) : (levL cs n).length = n := by
  induction n with
  | zero => rfl
  | succ n ih => simp [levL, ih]
theorem levM_ext {cs : List SmV} {ls ls' : List Int} {j : Nat} : ∀ {i : Nat}, (∀ k, k < i → el ls k = el ls' k) → levM cs ls j i = levM cs ls' j i := by
  intro i
  induction i with
  | zero => intro _; rfl
  | succ i ih => intro h; simp only [levM]; rw [ih (fun k hk => h k (by omega)), h i (by omega)]
theorem el_snoc_lt {xs : List Int} {x : Int} {k : Nat} (h : k < xs.length) : el (xs ++ [x]) k = el xs k := by
  unfold el; rw [List.getD_eq_getElem?_getD, List.getD_eq_getElem?_getD, List.getElem?_append_left h]
theorem el_snoc_eq (xs : List Int) (x : Int) : el (xs ++ [x]) xs.length = x := by
  unfold el; rw [List.getD_eq_getElem?_getD]; simp
theorem levL_mono (cs : List SmV) {n k : Nat} : k < n → ∀ d, el (levL cs (n + d)) k = el (levL cs n) k := by
  intro h d
  induction d with
  | zero => rfl
  | succ d ih =>
    show el (levL cs (n + d) ++ [_]) k = _
    rw [el_snoc_lt (by rw [levL_len]; omega), ih]
theorem levL_at (cs : List SmV) {n j : Nat} (h : j < n) : el (levL cs n) j = levM cs (levL cs n) j j := by
  obtain ⟨d, rfl⟩ : ∃ d, n = (j + 1) + d := ⟨n - (j + 1), by omega⟩
  rw [levL_mono cs (by omega)]
  have e : el (levL cs (j + 1)) j = levM cs (levL cs j) j j := by
    have := el_snoc_eq (levL cs j) (levM cs (levL cs j) j j)
    rw [levL_len] at this; exact this
  rw [e]
  refine levM_ext fun k hk => ?_
  have := levL_mono cs (n := j) (k := k) hk (1 + d)
  rw [show j + (1 + d) = j + 1 + d by omega] at this
  exact this.symm
theorem levM_bnd {cs : List SmV} {ls : List Int} {j m : Nat} : ∀ {i : Nat}, (∀ k, k < i → 0 ≤ el ls k ∧ el ls k ≤ m) → 0 ≤ levM cs ls j i ∧ levM cs ls j i ≤ m + 1 := by
  intro i
  induction i with
  | zero => intro _; simp [levM]; omega
  | succ i ih =>
    intro h
    have h1 := ih fun k hk => h k (by omega)
    have h2 := h i (by omega)
    simp only [levM]; split <;> omega
theorem levL_bnd (cs : List SmV) : ∀ (n k : Nat), k < n → 0 ≤ el (levL cs n) k ∧ el (levL cs n) k ≤ k := by
  intro n
  induction n with
  | zero => intro k h; omega
  | succ n ih =>
    intro k hk
    by_cases e : k = n
    · subst e
      have h0 : el (levL cs (k + 1)) k = levM cs (levL cs k) k k := by
        have := el_snoc_eq (levL cs k) (levM cs (levL cs k) k k)
        rw [levL_len] at this; exact this
      rw [h0]
      cases k with
      | zero => simp [levM]
      | succ k =>
        have := levM_bnd (cs := cs) (ls := levL cs (k + 1)) (j := k + 1) (m := k) (i := k + 1) (fun i hi => by have := ih i hi; omega)
        omega
    · show 0 ≤ el (levL cs n ++ [_]) k ∧ _
      rw [show levL cs (n + 1) = levL cs n ++ [levM cs (levL cs n) n n] from rfl, el_snoc_lt (by rw [levL_len]; omega)]
      exact ih k (by omega)
/-! ### Pairs -/
def depJ (cs : List SmV) (i : Nat) : Nat → List (List Int)
  | 0 => []
  | j + 1 => if i < j ∧ folB (sel cs i) (sel cs j) = true then depJ cs i j ++ [[(i : Int), (j : Int)]] else depJ cs i j
def depL (cs : List SmV) : Nat → List (List Int)
  | 0 => []
  | i + 1 => depL cs i ++ depJ cs i cs.length
theorem depJ_mem {cs : List SmV} {i : Nat} : ∀ {n : Nat} {p : List Int}, p ∈ depJ cs i n → ∃ j : Nat, j < n ∧ i < j ∧ folB (sel cs i) (sel cs j) = true ∧ p = [(i : Int), (j : Int)] := by
  intro n
  induction n with
  | zero => intro p h; simp [depJ] at h
  | succ n ih =>
    intro p h
    simp only [depJ] at h
    split at h
    · rename_i hq
      rcases List.mem_append.1 h with h | h
      · obtain ⟨j, h1, h2⟩ := ih h; exact ⟨j, by omega, h2⟩
      · exact ⟨n, by omega, hq.1, hq.2, by simpa using h⟩
    · obtain ⟨j, h1, h2⟩ := ih h; exact ⟨j, by omega, h2⟩
theorem depL_mem {cs : List SmV} : ∀ {n : Nat} {p : List Int}, p ∈ depL cs n → ∃ i j : Nat, i < n ∧ j < cs.length ∧ i < j ∧ folB (sel cs i) (sel cs j) = true ∧ p = [(i : Int), (j : Int)] := by
  intro n
  induction n with
  | zero => intro p h; simp [depL] at h
  | succ n ih =>
    intro p h
    simp only [depL] at h
    rcases List.mem_append.1 h with h | h
    · obtain ⟨i, j, h1, h2⟩ := ih h; exact ⟨i, j, by omega, h2⟩
    · obtain ⟨j, h1, h2⟩ := depJ_mem h; exact ⟨n, j, by omega, h1, h2⟩
def depG (cs : List SmV) (i j : Nat) : Nat := if i < j ∧ folB (sel cs i) (sel cs j) = true then 1 else 0
def sumN (f : Nat → Nat) : Nat → Nat
  | 0 => 0
  | n + 1 => sumN f n + f n
theorem sumN_add (f g : Nat → Nat) (n : Nat) : sumN (fun i => f i + g i) n = sumN f n + sumN g n := by
  induction n with
  | zero => rfl
  | succ n ih => simp only [sumN]; omega
theorem sumN_swap (g : Nat → Nat → Nat) (m n : Nat) : sumN (fun i => sumN (fun j => g i j) n) m = sumN (fun j => sumN (fun i => g i j) m) n := by
  induction n with
  | zero => induction m with
    | zero => rfl
    | succ m ih => simp only [sumN] at ih ⊢; omega
  | succ n ih => simp only [sumN]; rw [sumN_add, ih]
theorem sumN_ext {f g : Nat → Nat} {n : Nat} (h : ∀ i, i < n → f i = g i) : sumN f n = sumN g n := by
  induction n with
  | zero => rfl
  | succ n ih => simp only [sumN]; rw [ih (fun i hi => h i (by omega)), h n (by omega)]
theorem sumN_mono (f : Nat → Nat) {m n : Nat} (h : m ≤ n) : sumN f m ≤ sumN f n := by
  obtain ⟨d, rfl⟩ : ∃ d, n = m + d := ⟨n - m, by omega⟩
  induction d with
  | zero => exact Nat.le_refl _
  | succ d ih => have := ih (by omega); show sumN f m ≤ sumN f (m + d) + f (m + d); omega
theorem depJ_len (cs : List SmV) (i n : Nat) : (depJ cs i n).length = sumN (fun j => depG cs i j) n := by
  induction n with
  | zero => rfl
  | succ n ih =>
    simp only [depJ, sumN, depG]
    split
    · rw [List.length_append, ih]; rfl
    · rw [ih]; rfl
theorem depL_len (cs : List SmV) (n : Nat) : (depL cs n).length = sumN (fun i => sumN (fun j => depG cs i j) cs.length) n := by
  induction n with
  | zero => rfl
  | succ n ih => simp only [depL, sumN]; rw [List.length_append, ih, depJ_len]
/-- How many pairs stand ahead of (j, i), second statements outermost. -/
def cntN (cs : List SmV) (j i : Nat) : Nat := sumN (fun j' => sumN (fun i' => depG cs i' j') j') j + sumN (fun i' => depG cs i' j) i
theorem sumN_zero {f : Nat → Nat} {m n : Nat} (h : m ≤ n) (hz : ∀ i, m ≤ i → i < n → f i = 0) : sumN f n = sumN f m := by
  obtain ⟨d, rfl⟩ : ∃ d, n = m + d := ⟨n - m, by omega⟩
  clear h
  induction d with
  | zero => rfl
  | succ d ih =>
    have h1 := ih (fun i h1 h2 => hz i h1 (by omega))
    have h2 := hz (m + d) (by omega) (by omega)
    show sumN f (m + d) + f (m + d) = _
    omega
theorem cnt_all (cs : List SmV) : cntN cs cs.length 0 = (depL cs cs.length).length := by
  rw [depL_len, sumN_swap]
  unfold cntN
  simp only [sumN, Nat.add_zero]
  refine sumN_ext fun j hj => ?_
  exact (sumN_zero (f := fun i => depG cs i j) (by omega) fun i h1 h2 => by unfold depG; rw [if_neg (by omega)]).symm
theorem cnt_next (cs : List SmV) (j : Nat) : cntN cs j j = cntN cs (j + 1) 0 := by unfold cntN; simp only [sumN]; omega
theorem cnt_step (cs : List SmV) {j i : Nat} (h : i < j) : cntN cs j (i + 1) = cntN cs j i + (if folB (sel cs i) (sel cs j) then 1 else 0) := by
  unfold cntN; simp only [sumN, depG]
  by_cases hf : folB (sel cs i) (sel cs j) = true
  · rw [if_pos ⟨h, hf⟩, if_pos hf]; omega
  · rw [if_neg (fun q => hf q.2), if_neg hf]; omega
theorem cnt_le (cs : List SmV) {j i : Nat} (hi : i ≤ j) (hj : j < cs.length) : cntN cs j i ≤ (depL cs cs.length).length := by
  rw [← cnt_all]
  have h1 : cntN cs j i ≤ cntN cs j j := by
    unfold cntN
    have := sumN_mono (fun i' => depG cs i' j) hi
    omega
  have h2 : cntN cs (j + 1) 0 ≤ cntN cs cs.length 0 := by
    unfold cntN
    have := sumN_mono (fun j' => sumN (fun i' => depG cs i' j') j') (show j + 1 ≤ cs.length by omega)
    simp only [sumN] at *
    omega
  rw [cnt_next] at h1
  omega
theorem depG_le (cs : List SmV) (i n : Nat) : sumN (fun j => depG cs i j) n ≤ n := by
  induction n with
  | zero => exact Nat.le_refl _
  | succ n ih => simp only [sumN]; have : depG cs i n ≤ 1 := by unfold depG; split <;> omega
                 omega
theorem depL_few (cs : List SmV) (n : Nat) : (depL cs n).length ≤ n * cs.length := by
  induction n with
  | zero => simp [depL]
  | succ n ih =>
    simp only [depL]
    rw [List.length_append, depJ_len, Nat.succ_mul]
    have := depG_le cs n cs.length
    omega
end Go.Proofs.YtnnioicjmlfllaaGreatDoor
set_option linter.unusedVariables false
set_option linter.unusedSimpArgs false
namespace Go.Proofs.YtnnioicjmlfllaaGreatDoor
open Go.RowKit

theorem tmod_sh {bi b : Int} (hb : wordB bi b = true) : b.tmod bi = (shB bi b : Int) := by
  have hr := wordB_range hb
  simp only [wordB, Bool.and_eq_true] at hb
  unfold shB
  rcases bitsB_or hb.1 with rfl | rfl | rfl <;> (rw [Int.tmod_eq_emod_of_nonneg hr.1]; omega)
theorem op_or {op : Int} (h : inB op 0 17 = true) : op = 0 ∨ op = 1 ∨ op = 2 ∨ op = 3 ∨ op = 4 ∨ op = 5 ∨ op = 6 ∨ op = 7 ∨ op = 8 ∨ op = 9 ∨ op = 10 ∨ op = 11 ∨ op = 12 ∨ op = 13 ∨ op = 14 ∨ op = 15 ∨ op = 16 ∨ op = 17 := by
  rw [inB_iff] at h; omega
theorem pk_ite {s t a b : Int} : pkI (decide (s ≤ t)) a b = (if s ≤ t then a else b) := by unfold pkI; by_cases h : s ≤ t <;> simp [h]
theorem mul_keep {a b : Int} (h : 0 ≤ a ∧ a ≤ 65535) (h' : 0 ≤ b ∧ b ≤ 65535) : wrap64 (a * b) = a * b := by
  have h1 : 0 ≤ a * b := Int.mul_nonneg h.1 h'.1
  have h2 : a * b ≤ 65535 * 65535 := Int.mul_le_mul h.2 h'.2 h'.1 (by omega)
  unfold wrap64; omega
theorem shl_keep {a : Int} {k : Nat} (h : 0 ≤ a ∧ a ≤ 65535) (hk : k < 16) : wrap64 (a * 2 ^ k) = a * 2 ^ k := by
  have hp := pow2_16 hk
  have h1 : 0 ≤ a * 2 ^ k := Int.mul_nonneg h.1 (by omega)
  have h2 : a * 2 ^ k ≤ 65535 * 32768 := Int.mul_le_mul h.2 hp.2 (by omega) (by omega)
  unfold wrap64; omega
set_option maxRecDepth 100000 in
theorem i_res0 (bi a b : Int) (w : World) (ha : wordB bi a = true) (hb : wordB bi b = true) :
    Calls Tryz.prog 90 #[.int .i64 0, .int .i64 bi, .int .i64 a, .int .i64 b] w fun e w' => e = .returned (.int .i64 (resZ 0 bi a b)) ∧ Below w.heap.size w w' := by
  have hbi : bitsB bi = true := by simp only [wordB, Bool.and_eq_true] at ha; exact ha.1
  have C1 := hid (fun W => i_signedOf bi a W ha)
  have C2 := hid (fun W => i_signedOf bi b W hb)
  have CW := hid (fun n W => i_wrapped bi n W hbi)
  have CN := hid (fun n W => i_nearest bi n W hbi)
  have CP := hid (fun p x y W => i_pick p x y W)
  have CB := hid (fun n x y W => i_bounded n x y W)
  have hk := tmod_sh hb
  have hk16 := shB_lt b hbi
  have hra := wordB_range ha
  have hrb := wordB_range hb
  have hsa := sgB_range ha
  have hsb := sgB_range hb
  generalize hR : resZ 0 bi a b = R
  have HR := hid hR
  clear hR
  generalize hK : shB bi b = kk at hk hk16
  have HK := hid hK
  have HTA := hid (show a ≤ top bi by simp only [wordB, Bool.and_eq_true, inB_iff] at ha; exact ha.2.2)
  clear hK ha hb
  rcases top_or hbi with ⟨rfl, h1, h2⟩ | ⟨rfl, h1, h2⟩ | ⟨rfl, h1, h2⟩
  · rw [h2] at hsa hsb
    clear h2 hbi
    have HT := hid h1
    clear h1
    go_enter Tryz.func90, Tryz.ntmps90
    go_wp2
    refine wp_region_calm (by kernel_rfl) (by kernel_rfl) ?_
    repeat (go_big_quiet_step (fail))
    refine wpQuiet_nil ?_
    intro _ hw'
    obtain ⟨xq, hw''⟩ := hw'
    subst hw''
    go_wp2_with (first | (go_at_call 131; first | (with_reducible refine (C1.out _).mono ?_; rintro e w' ⟨rfl, rfl⟩) | (with_reducible refine (C2.out _).mono ?_; rintro e w' ⟨rfl, rfl⟩)) | (go_at_call 132; refine (CW.out _ _).mono ?_; rintro e w' ⟨rfl, rfl⟩) | (go_at_call 134; refine (CN.out _ _).mono ?_; rintro e w' ⟨rfl, rfl⟩) | (go_at_call 110; refine (CP.out _ _ _ _).mono ?_; rintro e w' ⟨rfl, rfl⟩) | (go_at_call 133; refine (CB.out _ _ _ _).mono ?_; rintro e w' ⟨rfl, rfl⟩))
    go_ret
    exact ⟨ret_i (by rw [← HR.out]; rfl), xq.below⟩
  · rw [h2] at hsa hsb
    clear h2 hbi
    have HT := hid h1
    clear h1
    go_enter Tryz.func90, Tryz.ntmps90
    go_wp2
    refine wp_region_calm (by kernel_rfl) (by kernel_rfl) ?_
    repeat (go_big_quiet_step (fail))
    refine wpQuiet_nil ?_
    intro _ hw'
    obtain ⟨xq, hw''⟩ := hw'
    subst hw''
    go_wp2_with (first | (go_at_call 131; first | (with_reducible refine (C1.out _).mono ?_; rintro e w' ⟨rfl, rfl⟩) | (with_reducible refine (C2.out _).mono ?_; rintro e w' ⟨rfl, rfl⟩)) | (go_at_call 132; refine (CW.out _ _).mono ?_; rintro e w' ⟨rfl, rfl⟩) | (go_at_call 134; refine (CN.out _ _).mono ?_; rintro e w' ⟨rfl, rfl⟩) | (go_at_call 110; refine (CP.out _ _ _ _).mono ?_; rintro e w' ⟨rfl, rfl⟩) | (go_at_call 133; refine (CB.out _ _ _ _).mono ?_; rintro e w' ⟨rfl, rfl⟩))
    go_ret
    exact ⟨ret_i (by rw [← HR.out]; rfl), xq.below⟩
  · rw [h2] at hsa hsb
    clear h2 hbi
    have HT := hid h1
    clear h1
    go_enter Tryz.func90, Tryz.ntmps90
    go_wp2
    refine wp_region_calm (by kernel_rfl) (by kernel_rfl) ?_
    repeat (go_big_quiet_step (fail))
    refine wpQuiet_nil ?_
    intro _ hw'
    obtain ⟨xq, hw''⟩ := hw'
    subst hw''
    go_wp2_with (first | (go_at_call 131; first | (with_reducible refine (C1.out _).mono ?_; rintro e w' ⟨rfl, rfl⟩) | (with_reducible refine (C2.out _).mono ?_; rintro e w' ⟨rfl, rfl⟩)) | (go_at_call 132; refine (CW.out _ _).mono ?_; rintro e w' ⟨rfl, rfl⟩) | (go_at_call 134; refine (CN.out _ _).mono ?_; rintro e w' ⟨rfl, rfl⟩) | (go_at_call 110; refine (CP.out _ _ _ _).mono ?_; rintro e w' ⟨rfl, rfl⟩) | (go_at_call 133; refine (CB.out _ _ _ _).mono ?_; rintro e w' ⟨rfl, rfl⟩))
    go_ret
    exact ⟨ret_i (by rw [← HR.out]; rfl), xq.below⟩
set_option maxRecDepth 100000 in
theorem i_res1 (bi a b : Int) (w : World) (ha : wordB bi a = true) (hb : wordB bi b = true) :
    Calls Tryz.prog 90 #[.int .i64 1, .int .i64 bi, .int .i64 a, .int .i64 b] w fun e w' => e = .returned (.int .i64 (resZ 1 bi a b)) ∧ Below w.heap.size w w' := by
  have hbi : bitsB bi = true := by simp only [wordB, Bool.and_eq_true] at ha; exact ha.1
  have C1 := hid (fun W => i_signedOf bi a W ha)
  have C2 := hid (fun W => i_signedOf bi b W hb)
  have CW := hid (fun n W => i_wrapped bi n W hbi)
  have CN := hid (fun n W => i_nearest bi n W hbi)
  have CP := hid (fun p x y W => i_pick p x y W)
  have CB := hid (fun n x y W => i_bounded n x y W)
  have hk := tmod_sh hb
  have hk16 := shB_lt b hbi
  have hra := wordB_range ha
  have hrb := wordB_range hb
  have hsa := sgB_range ha
  have hsb := sgB_range hb
  generalize hR : resZ 1 bi a b = R
  have HR := hid hR
  clear hR
  generalize hK : shB bi b = kk at hk hk16
  have HK := hid hK
  have HTA := hid (show a ≤ top bi by simp only [wordB, Bool.and_eq_true, inB_iff] at ha; exact ha.2.2)
  clear hK ha hb
  rcases top_or hbi with ⟨rfl, h1, h2⟩ | ⟨rfl, h1, h2⟩ | ⟨rfl, h1, h2⟩
  · rw [h2] at hsa hsb
    clear h2 hbi
    have HT := hid h1
    clear h1
    go_enter Tryz.func90, Tryz.ntmps90
    go_wp2
    refine wp_region_calm (by kernel_rfl) (by kernel_rfl) ?_
    repeat (go_big_quiet_step (fail))
    refine wpQuiet_nil ?_
    intro _ hw'
    obtain ⟨xq, hw''⟩ := hw'
    subst hw''
    go_wp2_with (first | (go_at_call 131; first | (with_reducible refine (C1.out _).mono ?_; rintro e w' ⟨rfl, rfl⟩) | (with_reducible refine (C2.out _).mono ?_; rintro e w' ⟨rfl, rfl⟩)) | (go_at_call 132; refine (CW.out _ _).mono ?_; rintro e w' ⟨rfl, rfl⟩) | (go_at_call 134; refine (CN.out _ _).mono ?_; rintro e w' ⟨rfl, rfl⟩) | (go_at_call 110; refine (CP.out _ _ _ _).mono ?_; rintro e w' ⟨rfl, rfl⟩) | (go_at_call 133; refine (CB.out _ _ _ _).mono ?_; rintro e w' ⟨rfl, rfl⟩))
    go_ret
    exact ⟨ret_i (by rw [← HR.out]; rfl), xq.below⟩
  · rw [h2] at hsa hsb
    clear h2 hbi
    have HT := hid h1
    clear h1
    go_enter Tryz.func90, Tryz.ntmps90
    go_wp2
    refine wp_region_calm (by kernel_rfl) (by kernel_rfl) ?_
    repeat (go_big_quiet_step (fail))
    refine wpQuiet_nil ?_
    intro _ hw'
    obtain ⟨xq, hw''⟩ := hw'
    subst hw''
    go_wp2_with (first | (go_at_call 131; first | (with_reducible refine (C1.out _).mono ?_; rintro e w' ⟨rfl, rfl⟩) | (with_reducible refine (C2.out _).mono ?_; rintro e w' ⟨rfl, rfl⟩)) | (go_at_call 132; refine (CW.out _ _).mono ?_; rintro e w' ⟨rfl, rfl⟩) | (go_at_call 134; refine (CN.out _ _).mono ?_; rintro e w' ⟨rfl, rfl⟩) | (go_at_call 110; refine (CP.out _ _ _ _).mono ?_; rintro e w' ⟨rfl, rfl⟩) | (go_at_call 133; refine (CB.out _ _ _ _).mono ?_; rintro e w' ⟨rfl, rfl⟩))
    go_ret
    exact ⟨ret_i (by rw [← HR.out]; rfl), xq.below⟩
  · rw [h2] at hsa hsb
    clear h2 hbi
    have HT := hid h1
    clear h1
    go_enter Tryz.func90, Tryz.ntmps90
    go_wp2
    refine wp_region_calm (by kernel_rfl) (by kernel_rfl) ?_
    repeat (go_big_quiet_step (fail))
    refine wpQuiet_nil ?_
    intro _ hw'
    obtain ⟨xq, hw''⟩ := hw'
    subst hw''
    go_wp2_with (first | (go_at_call 131; first | (with_reducible refine (C1.out _).mono ?_; rintro e w' ⟨rfl, rfl⟩) | (with_reducible refine (C2.out _).mono ?_; rintro e w' ⟨rfl, rfl⟩)) | (go_at_call 132; refine (CW.out _ _).mono ?_; rintro e w' ⟨rfl, rfl⟩) | (go_at_call 134; refine (CN.out _ _).mono ?_; rintro e w' ⟨rfl, rfl⟩) | (go_at_call 110; refine (CP.out _ _ _ _).mono ?_; rintro e w' ⟨rfl, rfl⟩) | (go_at_call 133; refine (CB.out _ _ _ _).mono ?_; rintro e w' ⟨rfl, rfl⟩))
    go_ret
    exact ⟨ret_i (by rw [← HR.out]; rfl), xq.below⟩
set_option maxRecDepth 100000 in
theorem i_res2 (bi a b : Int) (w : World) (ha : wordB bi a = true) (hb : wordB bi b = true) :
    Calls Tryz.prog 90 #[.int .i64 2, .int .i64 bi, .int .i64 a, .int .i64 b] w fun e w' => e = .returned (.int .i64 (resZ 2 bi a b)) ∧ Below w.heap.size w w' := by
  have hbi : bitsB bi = true := by simp only [wordB, Bool.and_eq_true] at ha; exact ha.1
  have C1 := hid (fun W => i_signedOf bi a W ha)
  have C2 := hid (fun W => i_signedOf bi b W hb)
  have CW := hid (fun n W => i_wrapped bi n W hbi)
  have CN := hid (fun n W => i_nearest bi n W hbi)
  have CP := hid (fun p x y W => i_pick p x y W)
  have CB := hid (fun n x y W => i_bounded n x y W)
  have hk := tmod_sh hb
  have hk16 := shB_lt b hbi
  have hra := wordB_range ha
  have hrb := wordB_range hb
  have hsa := sgB_range ha
  have hsb := sgB_range hb
  generalize hR : resZ 2 bi a b = R
  have HR := hid hR
  clear hR
  generalize hK : shB bi b = kk at hk hk16
  have HK := hid hK
  have HTA := hid (show a ≤ top bi by simp only [wordB, Bool.and_eq_true, inB_iff] at ha; exact ha.2.2)
  clear hK ha hb
  rcases top_or hbi with ⟨rfl, h1, h2⟩ | ⟨rfl, h1, h2⟩ | ⟨rfl, h1, h2⟩
  · rw [h2] at hsa hsb
    clear h2 hbi
    have HT := hid h1
    clear h1
    go_enter Tryz.func90, Tryz.ntmps90
    go_wp2
    refine wp_region_calm (by kernel_rfl) (by kernel_rfl) ?_
    repeat (go_big_quiet_step (fail))
    refine wpQuiet_nil ?_
    intro _ hw'
    obtain ⟨xq, hw''⟩ := hw'
    subst hw''
    go_wp2_with (first | (go_at_call 131; first | (with_reducible refine (C1.out _).mono ?_; rintro e w' ⟨rfl, rfl⟩) | (with_reducible refine (C2.out _).mono ?_; rintro e w' ⟨rfl, rfl⟩)) | (go_at_call 132; refine (CW.out _ _).mono ?_; rintro e w' ⟨rfl, rfl⟩) | (go_at_call 134; refine (CN.out _ _).mono ?_; rintro e w' ⟨rfl, rfl⟩) | (go_at_call 110; refine (CP.out _ _ _ _).mono ?_; rintro e w' ⟨rfl, rfl⟩) | (go_at_call 133; refine (CB.out _ _ _ _).mono ?_; rintro e w' ⟨rfl, rfl⟩))
    go_ret
    exact ⟨ret_i (by rw [← HR.out, mul_keep hra hrb]; rfl), xq.below⟩
  · rw [h2] at hsa hsb
    clear h2 hbi
    have HT := hid h1
    clear h1
    go_enter Tryz.func90, Tryz.ntmps90
    go_wp2
    refine wp_region_calm (by kernel_rfl) (by kernel_rfl) ?_
    repeat (go_big_quiet_step (fail))
    refine wpQuiet_nil ?_
    intro _ hw'
    obtain ⟨xq, hw''⟩ := hw'
    subst hw''
    go_wp2_with (first | (go_at_call 131; first | (with_reducible refine (C1.out _).mono ?_; rintro e w' ⟨rfl, rfl⟩) | (with_reducible refine (C2.out _).mono ?_; rintro e w' ⟨rfl, rfl⟩)) | (go_at_call 132; refine (CW.out _ _).mono ?_; rintro e w' ⟨rfl, rfl⟩) | (go_at_call 134; refine (CN.out _ _).mono ?_; rintro e w' ⟨rfl, rfl⟩) | (go_at_call 110; refine (CP.out _ _ _ _).mono ?_; rintro e w' ⟨rfl, rfl⟩) | (go_at_call 133; refine (CB.out _ _ _ _).mono ?_; rintro e w' ⟨rfl, rfl⟩))
    go_ret
    exact ⟨ret_i (by rw [← HR.out, mul_keep hra hrb]; rfl), xq.below⟩
  · rw [h2] at hsa hsb
    clear h2 hbi
    have HT := hid h1
    clear h1
    go_enter Tryz.func90, Tryz.ntmps90
    go_wp2
    refine wp_region_calm (by kernel_rfl) (by kernel_rfl) ?_
    repeat (go_big_quiet_step (fail))
    refine wpQuiet_nil ?_
    intro _ hw'
    obtain ⟨xq, hw''⟩ := hw'
    subst hw''
    go_wp2_with (first | (go_at_call 131; first | (with_reducible refine (C1.out _).mono ?_; rintro e w' ⟨rfl, rfl⟩) | (with_reducible refine (C2.out _).mono ?_; rintro e w' ⟨rfl, rfl⟩)) | (go_at_call 132; refine (CW.out _ _).mono ?_; rintro e w' ⟨rfl, rfl⟩) | (go_at_call 134; refine (CN.out _ _).mono ?_; rintro e w' ⟨rfl, rfl⟩) | (go_at_call 110; refine (CP.out _ _ _ _).mono ?_; rintro e w' ⟨rfl, rfl⟩) | (go_at_call 133; refine (CB.out _ _ _ _).mono ?_; rintro e w' ⟨rfl, rfl⟩))
    go_ret
    exact ⟨ret_i (by rw [← HR.out, mul_keep hra hrb]; rfl), xq.below⟩
set_option maxRecDepth 100000 in
theorem i_res3 (bi a b : Int) (w : World) (ha : wordB bi a = true) (hb : wordB bi b = true) :
    Calls Tryz.prog 90 #[.int .i64 3, .int .i64 bi, .int .i64 a, .int .i64 b] w fun e w' => e = .returned (.int .i64 (resZ 3 bi a b)) ∧ Below w.heap.size w w' := by
  have hbi : bitsB bi = true := by simp only [wordB, Bool.and_eq_true] at ha; exact ha.1
  have C1 := hid (fun W => i_signedOf bi a W ha)
  have C2 := hid (fun W => i_signedOf bi b W hb)
  have CW := hid (fun n W => i_wrapped bi n W hbi)
  have CN := hid (fun n W => i_nearest bi n W hbi)
  have CP := hid (fun p x y W => i_pick p x y W)
  have CB := hid (fun n x y W => i_bounded n x y W)
  have hk := tmod_sh hb
  have hk16 := shB_lt b hbi
  have hra := wordB_range ha
  have hrb := wordB_range hb
  have hsa := sgB_range ha
  have hsb := sgB_range hb
  generalize hR : resZ 3 bi a b = R
  have HR := hid hR
  clear hR
  generalize hK : shB bi b = kk at hk hk16
  have HK := hid hK
  have HTA := hid (show a ≤ top bi by simp only [wordB, Bool.and_eq_true, inB_iff] at ha; exact ha.2.2)
  clear hK ha hb
  rcases top_or hbi with ⟨rfl, h1, h2⟩ | ⟨rfl, h1, h2⟩ | ⟨rfl, h1, h2⟩
  · rw [h2] at hsa hsb
    clear h2 hbi
    have HT := hid h1
    clear h1
    go_enter Tryz.func90, Tryz.ntmps90
    go_wp2
    refine wp_region_calm (by kernel_rfl) (by kernel_rfl) ?_
    repeat (go_big_quiet_step (fail))
    refine wpQuiet_nil ?_
    intro _ hw'
    obtain ⟨xq, hw''⟩ := hw'
    subst hw''
    go_wp2_with (first | (go_at_call 131; first | (with_reducible refine (C1.out _).mono ?_; rintro e w' ⟨rfl, rfl⟩) | (with_reducible refine (C2.out _).mono ?_; rintro e w' ⟨rfl, rfl⟩)) | (go_at_call 132; refine (CW.out _ _).mono ?_; rintro e w' ⟨rfl, rfl⟩) | (go_at_call 134; refine (CN.out _ _).mono ?_; rintro e w' ⟨rfl, rfl⟩) | (go_at_call 110; refine (CP.out _ _ _ _).mono ?_; rintro e w' ⟨rfl, rfl⟩) | (go_at_call 133; refine (CB.out _ _ _ _).mono ?_; rintro e w' ⟨rfl, rfl⟩))
    go_ret
    exact ⟨ret_i (by rw [← HR.out, word_and a b hra.1 hra.2 hrb.1 hrb.2]; rfl), xq.below⟩
  · rw [h2] at hsa hsb
    clear h2 hbi
    have HT := hid h1
    clear h1
    go_enter Tryz.func90, Tryz.ntmps90
    go_wp2
    refine wp_region_calm (by kernel_rfl) (by kernel_rfl) ?_
    repeat (go_big_quiet_step (fail))
    refine wpQuiet_nil ?_
    intro _ hw'
    obtain ⟨xq, hw''⟩ := hw'
    subst hw''
    go_wp2_with (first | (go_at_call 131; first | (with_reducible refine (C1.out _).mono ?_; rintro e w' ⟨rfl, rfl⟩) | (with_reducible refine (C2.out _).mono ?_; rintro e w' ⟨rfl, rfl⟩)) | (go_at_call 132; refine (CW.out _ _).mono ?_; rintro e w' ⟨rfl, rfl⟩) | (go_at_call 134; refine (CN.out _ _).mono ?_; rintro e w' ⟨rfl, rfl⟩) | (go_at_call 110; refine (CP.out _ _ _ _).mono ?_; rintro e w' ⟨rfl, rfl⟩) | (go_at_call 133; refine (CB.out _ _ _ _).mono ?_; rintro e w' ⟨rfl, rfl⟩))
    go_ret
    exact ⟨ret_i (by rw [← HR.out, word_and a b hra.1 hra.2 hrb.1 hrb.2]; rfl), xq.below⟩
  · rw [h2] at hsa hsb
    clear h2 hbi
    have HT := hid h1
    clear h1
    go_enter Tryz.func90, Tryz.ntmps90
    go_wp2
    refine wp_region_calm (by kernel_rfl) (by kernel_rfl) ?_
    repeat (go_big_quiet_step (fail))
    refine wpQuiet_nil ?_
    intro _ hw'
    obtain ⟨xq, hw''⟩ := hw'
    subst hw''
    go_wp2_with (first | (go_at_call 131; first | (with_reducible refine (C1.out _).mono ?_; rintro e w' ⟨rfl, rfl⟩) | (with_reducible refine (C2.out _).mono ?_; rintro e w' ⟨rfl, rfl⟩)) | (go_at_call 132; refine (CW.out _ _).mono ?_; rintro e w' ⟨rfl, rfl⟩) | (go_at_call 134; refine (CN.out _ _).mono ?_; rintro e w' ⟨rfl, rfl⟩) | (go_at_call 110; refine (CP.out _ _ _ _).mono ?_; rintro e w' ⟨rfl, rfl⟩) | (go_at_call 133; refine (CB.out _ _ _ _).mono ?_; rintro e w' ⟨rfl, rfl⟩))
    go_ret
    exact ⟨ret_i (by rw [← HR.out, word_and a b hra.1 hra.2 hrb.1 hrb.2]; rfl), xq.below⟩
set_option maxRecDepth 100000 in
theorem i_res4 (bi a b : Int) (w : World) (ha : wordB bi a = true) (hb : wordB bi b = true) :
    Calls Tryz.prog 90 #[.int .i64 4, .int .i64 bi, .int .i64 a, .int .i64 b] w fun e w' => e = .returned (.int .i64 (resZ 4 bi a b)) ∧ Below w.heap.size w w' := by
  have hbi : bitsB bi = true := by simp only [wordB, Bool.and_eq_true] at ha; exact ha.1
  have C1 := hid (fun W => i_signedOf bi a W ha)
  have C2 := hid (fun W => i_signedOf bi b W hb)
  have CW := hid (fun n W => i_wrapped bi n W hbi)
  have CN := hid (fun n W => i_nearest bi n W hbi)
  have CP := hid (fun p x y W => i_pick p x y W)
  have CB := hid (fun n x y W => i_bounded n x y W)
  have hk := tmod_sh hb
  have hk16 := shB_lt b hbi
  have hra := wordB_range ha
  have hrb := wordB_range hb
  have hsa := sgB_range ha
  have hsb := sgB_range hb
  generalize hR : resZ 4 bi a b = R
  have HR := hid hR
  clear hR
  generalize hK : shB bi b = kk at hk hk16
  have HK := hid hK
  have HTA := hid (show a ≤ top bi by simp only [wordB, Bool.and_eq_true, inB_iff] at ha; exact ha.2.2)
  clear hK ha hb
  rcases top_or hbi with ⟨rfl, h1, h2⟩ | ⟨rfl, h1, h2⟩ | ⟨rfl, h1, h2⟩
  · rw [h2] at hsa hsb
    clear h2 hbi
    have HT := hid h1
    clear h1
    go_enter Tryz.func90, Tryz.ntmps90
    go_wp2
    refine wp_region_calm (by kernel_rfl) (by kernel_rfl) ?_
    repeat (go_big_quiet_step (fail))
    refine wpQuiet_nil ?_
    intro _ hw'
    obtain ⟨xq, hw''⟩ := hw'
    subst hw''
    go_wp2_with (first | (go_at_call 131; first | (with_reducible refine (C1.out _).mono ?_; rintro e w' ⟨rfl, rfl⟩) | (with_reducible refine (C2.out _).mono ?_; rintro e w' ⟨rfl, rfl⟩)) | (go_at_call 132; refine (CW.out _ _).mono ?_; rintro e w' ⟨rfl, rfl⟩) | (go_at_call 134; refine (CN.out _ _).mono ?_; rintro e w' ⟨rfl, rfl⟩) | (go_at_call 110; refine (CP.out _ _ _ _).mono ?_; rintro e w' ⟨rfl, rfl⟩) | (go_at_call 133; refine (CB.out _ _ _ _).mono ?_; rintro e w' ⟨rfl, rfl⟩))
    go_ret
    exact ⟨ret_i (by rw [← HR.out, word_or a b hra.1 hra.2 hrb.1 hrb.2]; rfl), xq.below⟩
  · rw [h2] at hsa hsb
    clear h2 hbi
    have HT := hid h1
    clear h1
    go_enter Tryz.func90, Tryz.ntmps90
    go_wp2
    refine wp_region_calm (by kernel_rfl) (by kernel_rfl) ?_
    repeat (go_big_quiet_step (fail))
    refine wpQuiet_nil ?_
    intro _ hw'
    obtain ⟨xq, hw''⟩ := hw'
    subst hw''
    go_wp2_with (first | (go_at_call 131; first | (with_reducible refine (C1.out _).mono ?_; rintro e w' ⟨rfl, rfl⟩) | (with_reducible refine (C2.out _).mono ?_; rintro e w' ⟨rfl, rfl⟩)) | (go_at_call 132; refine (CW.out _ _).mono ?_; rintro e w' ⟨rfl, rfl⟩) | (go_at_call 134; refine (CN.out _ _).mono ?_; rintro e w' ⟨rfl, rfl⟩) | (go_at_call 110; refine (CP.out _ _ _ _).mono ?_; rintro e w' ⟨rfl, rfl⟩) | (go_at_call 133; refine (CB.out _ _ _ _).mono ?_; rintro e w' ⟨rfl, rfl⟩))
    go_ret
    exact ⟨ret_i (by rw [← HR.out, word_or a b hra.1 hra.2 hrb.1 hrb.2]; rfl), xq.below⟩
  · rw [h2] at hsa hsb
    clear h2 hbi
    have HT := hid h1
    clear h1
    go_enter Tryz.func90, Tryz.ntmps90
    go_wp2
    refine wp_region_calm (by kernel_rfl) (by kernel_rfl) ?_
    repeat (go_big_quiet_step (fail))
    refine wpQuiet_nil ?_
    intro _ hw'
    obtain ⟨xq, hw''⟩ := hw'
    subst hw''
    go_wp2_with (first | (go_at_call 131; first | (with_reducible refine (C1.out _).mono ?_; rintro e w' ⟨rfl, rfl⟩) | (with_reducible refine (C2.out _).mono ?_; rintro e w' ⟨rfl, rfl⟩)) | (go_at_call 132; refine (CW.out _ _).mono ?_; rintro e w' ⟨rfl, rfl⟩) | (go_at_call 134; refine (CN.out _ _).mono ?_; rintro e w' ⟨rfl, rfl⟩) | (go_at_call 110; refine (CP.out _ _ _ _).mono ?_; rintro e w' ⟨rfl, rfl⟩) | (go_at_call 133; refine (CB.out _ _ _ _).mono ?_; rintro e w' ⟨rfl, rfl⟩))
    go_ret
    exact ⟨ret_i (by rw [← HR.out, word_or a b hra.1 hra.2 hrb.1 hrb.2]; rfl), xq.below⟩
set_option maxRecDepth 100000 in
theorem i_res5 (bi a b : Int) (w : World) (ha : wordB bi a = true) (hb : wordB bi b = true) :
    Calls Tryz.prog 90 #[.int .i64 5, .int .i64 bi, .int .i64 a, .int .i64 b] w fun e w' => e = .returned (.int .i64 (resZ 5 bi a b)) ∧ Below w.heap.size w w' := by
  have hbi : bitsB bi = true := by simp only [wordB, Bool.and_eq_true] at ha; exact ha.1
  have C1 := hid (fun W => i_signedOf bi a W ha)
  have C2 := hid (fun W => i_signedOf bi b W hb)
  have CW := hid (fun n W => i_wrapped bi n W hbi)
  have CN := hid (fun n W => i_nearest bi n W hbi)
  have CP := hid (fun p x y W => i_pick p x y W)
  have CB := hid (fun n x y W => i_bounded n x y W)
  have hk := tmod_sh hb
  have hk16 := shB_lt b hbi
  have hra := wordB_range ha
  have hrb := wordB_range hb
  have hsa := sgB_range ha
  have hsb := sgB_range hb
  generalize hR : resZ 5 bi a b = R
  have HR := hid hR
  clear hR
  generalize hK : shB bi b = kk at hk hk16
  have HK := hid hK
  have HTA := hid (show a ≤ top bi by simp only [wordB, Bool.and_eq_true, inB_iff] at ha; exact ha.2.2)
  clear hK ha hb
  rcases top_or hbi with ⟨rfl, h1, h2⟩ | ⟨rfl, h1, h2⟩ | ⟨rfl, h1, h2⟩
  · rw [h2] at hsa hsb
    clear h2 hbi
    have HT := hid h1
    clear h1
    go_enter Tryz.func90, Tryz.ntmps90
    go_wp2
    refine wp_region_calm (by kernel_rfl) (by kernel_rfl) ?_
    repeat (go_big_quiet_step (fail))
    refine wpQuiet_nil ?_
    intro _ hw'
    obtain ⟨xq, hw''⟩ := hw'
    subst hw''
    go_wp2_with (first | (go_at_call 131; first | (with_reducible refine (C1.out _).mono ?_; rintro e w' ⟨rfl, rfl⟩) | (with_reducible refine (C2.out _).mono ?_; rintro e w' ⟨rfl, rfl⟩)) | (go_at_call 132; refine (CW.out _ _).mono ?_; rintro e w' ⟨rfl, rfl⟩) | (go_at_call 134; refine (CN.out _ _).mono ?_; rintro e w' ⟨rfl, rfl⟩) | (go_at_call 110; refine (CP.out _ _ _ _).mono ?_; rintro e w' ⟨rfl, rfl⟩) | (go_at_call 133; refine (CB.out _ _ _ _).mono ?_; rintro e w' ⟨rfl, rfl⟩))
    go_ret
    exact ⟨ret_i (by rw [← HR.out, word_xor a b hra.1 hra.2 hrb.1 hrb.2]; rfl), xq.below⟩
  · rw [h2] at hsa hsb
    clear h2 hbi
    have HT := hid h1
    clear h1
    go_enter Tryz.func90, Tryz.ntmps90
    go_wp2
    refine wp_region_calm (by kernel_rfl) (by kernel_rfl) ?_
    repeat (go_big_quiet_step (fail))
    refine wpQuiet_nil ?_
    intro _ hw'
    obtain ⟨xq, hw''⟩ := hw'
    subst hw''
    go_wp2_with (first | (go_at_call 131; first | (with_reducible refine (C1.out _).mono ?_; rintro e w' ⟨rfl, rfl⟩) | (with_reducible refine (C2.out _).mono ?_; rintro e w' ⟨rfl, rfl⟩)) | (go_at_call 132; refine (CW.out _ _).mono ?_; rintro e w' ⟨rfl, rfl⟩) | (go_at_call 134; refine (CN.out _ _).mono ?_; rintro e w' ⟨rfl, rfl⟩) | (go_at_call 110; refine (CP.out _ _ _ _).mono ?_; rintro e w' ⟨rfl, rfl⟩) | (go_at_call 133; refine (CB.out _ _ _ _).mono ?_; rintro e w' ⟨rfl, rfl⟩))
    go_ret
    exact ⟨ret_i (by rw [← HR.out, word_xor a b hra.1 hra.2 hrb.1 hrb.2]; rfl), xq.below⟩
  · rw [h2] at hsa hsb
    clear h2 hbi
    have HT := hid h1
    clear h1
    go_enter Tryz.func90, Tryz.ntmps90
    go_wp2
    refine wp_region_calm (by kernel_rfl) (by kernel_rfl) ?_
    repeat (go_big_quiet_step (fail))
    refine wpQuiet_nil ?_
    intro _ hw'
    obtain ⟨xq, hw''⟩ := hw'
    subst hw''
    go_wp2_with (first | (go_at_call 131; first | (with_reducible refine (C1.out _).mono ?_; rintro e w' ⟨rfl, rfl⟩) | (with_reducible refine (C2.out _).mono ?_; rintro e w' ⟨rfl, rfl⟩)) | (go_at_call 132; refine (CW.out _ _).mono ?_; rintro e w' ⟨rfl, rfl⟩) | (go_at_call 134; refine (CN.out _ _).mono ?_; rintro e w' ⟨rfl, rfl⟩) | (go_at_call 110; refine (CP.out _ _ _ _).mono ?_; rintro e w' ⟨rfl, rfl⟩) | (go_at_call 133; refine (CB.out _ _ _ _).mono ?_; rintro e w' ⟨rfl, rfl⟩))
    go_ret
    exact ⟨ret_i (by rw [← HR.out, word_xor a b hra.1 hra.2 hrb.1 hrb.2]; rfl), xq.below⟩
set_option maxRecDepth 100000 in
theorem i_res6 (bi a b : Int) (w : World) (ha : wordB bi a = true) (hb : wordB bi b = true) :
    Calls Tryz.prog 90 #[.int .i64 6, .int .i64 bi, .int .i64 a, .int .i64 b] w fun e w' => e = .returned (.int .i64 (resZ 6 bi a b)) ∧ Below w.heap.size w w' := by
  have hbi : bitsB bi = true := by simp only [wordB, Bool.and_eq_true] at ha; exact ha.1
  have C1 := hid (fun W => i_signedOf bi a W ha)
  have C2 := hid (fun W => i_signedOf bi b W hb)
  have CW := hid (fun n W => i_wrapped bi n W hbi)
  have CN := hid (fun n W => i_nearest bi n W hbi)
  have CP := hid (fun p x y W => i_pick p x y W)
  have CB := hid (fun n x y W => i_bounded n x y W)
  have hk := tmod_sh hb
  have hk16 := shB_lt b hbi
  have hra := wordB_range ha
  have hrb := wordB_range hb
  have hsa := sgB_range ha
  have hsb := sgB_range hb
  generalize hR : resZ 6 bi a b = R
  have HR := hid hR
  clear hR
  generalize hK : shB bi b = kk at hk hk16
  have HK := hid hK
  have HTA := hid (show a ≤ top bi by simp only [wordB, Bool.and_eq_true, inB_iff] at ha; exact ha.2.2)
  clear hK ha hb
  have hq : b < a ∨ ¬ b < a := by omega
  rcases top_or hbi with ⟨rfl, h1, h2⟩ | ⟨rfl, h1, h2⟩ | ⟨rfl, h1, h2⟩
  · rw [h2] at hsa hsb
    clear h2 hbi
    have HT := hid h1
    clear h1
    rcases hq with hq | hq
    · go_enter Tryz.func90, Tryz.ntmps90
      go_wp2
      refine wp_region_calm (by kernel_rfl) (by kernel_rfl) ?_
      repeat (go_big_quiet_step (fail))
      refine wpQuiet_nil ?_
      intro _ hw'
      obtain ⟨xq, hw''⟩ := hw'
      subst hw''
      go_wp2_with (first | (go_at_call 131; first | (with_reducible refine (C1.out _).mono ?_; rintro e w' ⟨rfl, rfl⟩) | (with_reducible refine (C2.out _).mono ?_; rintro e w' ⟨rfl, rfl⟩)) | (go_at_call 132; refine (CW.out _ _).mono ?_; rintro e w' ⟨rfl, rfl⟩) | (go_at_call 134; refine (CN.out _ _).mono ?_; rintro e w' ⟨rfl, rfl⟩) | (go_at_call 110; refine (CP.out _ _ _ _).mono ?_; rintro e w' ⟨rfl, rfl⟩) | (go_at_call 133; refine (CB.out _ _ _ _).mono ?_; rintro e w' ⟨rfl, rfl⟩))
      go_ret
      exact ⟨ret_i (by rw [← HR.out]; show _ = min a b; omega), xq.below⟩
    · go_enter Tryz.func90, Tryz.ntmps90
      go_wp2
      refine wp_region_calm (by kernel_rfl) (by kernel_rfl) ?_
      repeat (go_big_quiet_step (fail))
      refine wpQuiet_nil ?_
      intro _ hw'
      obtain ⟨xq, hw''⟩ := hw'
      subst hw''
      go_wp2_with (first | (go_at_call 131; first | (with_reducible refine (C1.out _).mono ?_; rintro e w' ⟨rfl, rfl⟩) | (with_reducible refine (C2.out _).mono ?_; rintro e w' ⟨rfl, rfl⟩)) | (go_at_call 132; refine (CW.out _ _).mono ?_; rintro e w' ⟨rfl, rfl⟩) | (go_at_call 134; refine (CN.out _ _).mono ?_; rintro e w' ⟨rfl, rfl⟩) | (go_at_call 110; refine (CP.out _ _ _ _).mono ?_; rintro e w' ⟨rfl, rfl⟩) | (go_at_call 133; refine (CB.out _ _ _ _).mono ?_; rintro e w' ⟨rfl, rfl⟩))
      go_ret
      exact ⟨ret_i (by rw [← HR.out]; show _ = min a b; omega), xq.below⟩
  · rw [h2] at hsa hsb
    clear h2 hbi
    have HT := hid h1
    clear h1
    rcases hq with hq | hq
    · go_enter Tryz.func90, Tryz.ntmps90
      go_wp2
      refine wp_region_calm (by kernel_rfl) (by kernel_rfl) ?_
      repeat (go_big_quiet_step (fail))
      refine wpQuiet_nil ?_
      intro _ hw'
      obtain ⟨xq, hw''⟩ := hw'
      subst hw''
      go_wp2_with (first | (go_at_call 131; first | (with_reducible refine (C1.out _).mono ?_; rintro e w' ⟨rfl, rfl⟩) | (with_reducible refine (C2.out _).mono ?_; rintro e w' ⟨rfl, rfl⟩)) | (go_at_call 132; refine (CW.out _ _).mono ?_; rintro e w' ⟨rfl, rfl⟩) | (go_at_call 134; refine (CN.out _ _).mono ?_; rintro e w' ⟨rfl, rfl⟩) | (go_at_call 110; refine (CP.out _ _ _ _).mono ?_; rintro e w' ⟨rfl, rfl⟩) | (go_at_call 133; refine (CB.out _ _ _ _).mono ?_; rintro e w' ⟨rfl, rfl⟩))
      go_ret
      exact ⟨ret_i (by rw [← HR.out]; show _ = min a b; omega), xq.below⟩
    · go_enter Tryz.func90, Tryz.ntmps90
      go_wp2
      refine wp_region_calm (by kernel_rfl) (by kernel_rfl) ?_
      repeat (go_big_quiet_step (fail))
      refine wpQuiet_nil ?_
      intro _ hw'
      obtain ⟨xq, hw''⟩ := hw'
      subst hw''
      go_wp2_with (first | (go_at_call 131; first | (with_reducible refine (C1.out _).mono ?_; rintro e w' ⟨rfl, rfl⟩) | (with_reducible refine (C2.out _).mono ?_; rintro e w' ⟨rfl, rfl⟩)) | (go_at_call 132; refine (CW.out _ _).mono ?_; rintro e w' ⟨rfl, rfl⟩) | (go_at_call 134; refine (CN.out _ _).mono ?_; rintro e w' ⟨rfl, rfl⟩) | (go_at_call 110; refine (CP.out _ _ _ _).mono ?_; rintro e w' ⟨rfl, rfl⟩) | (go_at_call 133; refine (CB.out _ _ _ _).mono ?_; rintro e w' ⟨rfl, rfl⟩))
      go_ret
      exact ⟨ret_i (by rw [← HR.out]; show _ = min a b; omega), xq.below⟩
  · rw [h2] at hsa hsb
    clear h2 hbi
    have HT := hid h1
    clear h1
    rcases hq with hq | hq
    · go_enter Tryz.func90, Tryz.ntmps90
      go_wp2
      refine wp_region_calm (by kernel_rfl) (by kernel_rfl) ?_
      repeat (go_big_quiet_step (fail))
      refine wpQuiet_nil ?_
      intro _ hw'
      obtain ⟨xq, hw''⟩ := hw'
      subst hw''
      go_wp2_with (first | (go_at_call 131; first | (with_reducible refine (C1.out _).mono ?_; rintro e w' ⟨rfl, rfl⟩) | (with_reducible refine (C2.out _).mono ?_; rintro e w' ⟨rfl, rfl⟩)) | (go_at_call 132; refine (CW.out _ _).mono ?_; rintro e w' ⟨rfl, rfl⟩) | (go_at_call 134; refine (CN.out _ _).mono ?_; rintro e w' ⟨rfl, rfl⟩) | (go_at_call 110; refine (CP.out _ _ _ _).mono ?_; rintro e w' ⟨rfl, rfl⟩) | (go_at_call 133; refine (CB.out _ _ _ _).mono ?_; rintro e w' ⟨rfl, rfl⟩))
      go_ret
      exact ⟨ret_i (by rw [← HR.out]; show _ = min a b; omega), xq.below⟩
    · go_enter Tryz.func90, Tryz.ntmps90
      go_wp2
      refine wp_region_calm (by kernel_rfl) (by kernel_rfl) ?_
      repeat (go_big_quiet_step (fail))
      refine wpQuiet_nil ?_
      intro _ hw'
      obtain ⟨xq, hw''⟩ := hw'
      subst hw''
      go_wp2_with (first | (go_at_call 131; first | (with_reducible refine (C1.out _).mono ?_; rintro e w' ⟨rfl, rfl⟩) | (with_reducible refine (C2.out _).mono ?_; rintro e w' ⟨rfl, rfl⟩)) | (go_at_call 132; refine (CW.out _ _).mono ?_; rintro e w' ⟨rfl, rfl⟩) | (go_at_call 134; refine (CN.out _ _).mono ?_; rintro e w' ⟨rfl, rfl⟩) | (go_at_call 110; refine (CP.out _ _ _ _).mono ?_; rintro e w' ⟨rfl, rfl⟩) | (go_at_call 133; refine (CB.out _ _ _ _).mono ?_; rintro e w' ⟨rfl, rfl⟩))
      go_ret
      exact ⟨ret_i (by rw [← HR.out]; show _ = min a b; omega), xq.below⟩
set_option maxRecDepth 100000 in
theorem i_res7 (bi a b : Int) (w : World) (ha : wordB bi a = true) (hb : wordB bi b = true) :
    Calls Tryz.prog 90 #[.int .i64 7, .int .i64 bi, .int .i64 a, .int .i64 b] w fun e w' => e = .returned (.int .i64 (resZ 7 bi a b)) ∧ Below w.heap.size w w' := by
  have hbi : bitsB bi = true := by simp only [wordB, Bool.and_eq_true] at ha; exact ha.1
  have C1 := hid (fun W => i_signedOf bi a W ha)
  have C2 := hid (fun W => i_signedOf bi b W hb)
  have CW := hid (fun n W => i_wrapped bi n W hbi)
  have CN := hid (fun n W => i_nearest bi n W hbi)
  have CP := hid (fun p x y W => i_pick p x y W)
  have CB := hid (fun n x y W => i_bounded n x y W)
  have hk := tmod_sh hb
  have hk16 := shB_lt b hbi
  have hra := wordB_range ha
  have hrb := wordB_range hb
  have hsa := sgB_range ha
  have hsb := sgB_range hb
  generalize hR : resZ 7 bi a b = R
  have HR := hid hR
  clear hR
  generalize hK : shB bi b = kk at hk hk16
  have HK := hid hK
  have HTA := hid (show a ≤ top bi by simp only [wordB, Bool.and_eq_true, inB_iff] at ha; exact ha.2.2)
  clear hK ha hb
  have hq : a < b ∨ ¬ a < b := by omega
  rcases top_or hbi with ⟨rfl, h1, h2⟩ | ⟨rfl, h1, h2⟩ | ⟨rfl, h1, h2⟩
  · rw [h2] at hsa hsb
    clear h2 hbi
    have HT := hid h1
    clear h1
    rcases hq with hq | hq
    · go_enter Tryz.func90, Tryz.ntmps90
      go_wp2
      refine wp_region_calm (by kernel_rfl) (by kernel_rfl) ?_
      repeat (go_big_quiet_step (fail))
      refine wpQuiet_nil ?_
      intro _ hw'
      obtain ⟨xq, hw''⟩ := hw'
      subst hw''
      go_wp2_with (first | (go_at_call 131; first | (with_reducible refine (C1.out _).mono ?_; rintro e w' ⟨rfl, rfl⟩) | (with_reducible refine (C2.out _).mono ?_; rintro e w' ⟨rfl, rfl⟩)) | (go_at_call 132; refine (CW.out _ _).mono ?_; rintro e w' ⟨rfl, rfl⟩) | (go_at_call 134; refine (CN.out _ _).mono ?_; rintro e w' ⟨rfl, rfl⟩) | (go_at_call 110; refine (CP.out _ _ _ _).mono ?_; rintro e w' ⟨rfl, rfl⟩) | (go_at_call 133; refine (CB.out _ _ _ _).mono ?_; rintro e w' ⟨rfl, rfl⟩))
      go_ret
      exact ⟨ret_i (by rw [← HR.out]; show _ = max a b; omega), xq.below⟩
    · go_enter Tryz.func90, Tryz.ntmps90
      go_wp2
      refine wp_region_calm (by kernel_rfl) (by kernel_rfl) ?_
      repeat (go_big_quiet_step (fail))
      refine wpQuiet_nil ?_
      intro _ hw'
      obtain ⟨xq, hw''⟩ := hw'
      subst hw''
      go_wp2_with (first | (go_at_call 131; first | (with_reducible refine (C1.out _).mono ?_; rintro e w' ⟨rfl, rfl⟩) | (with_reducible refine (C2.out _).mono ?_; rintro e w' ⟨rfl, rfl⟩)) | (go_at_call 132; refine (CW.out _ _).mono ?_; rintro e w' ⟨rfl, rfl⟩) | (go_at_call 134; refine (CN.out _ _).mono ?_; rintro e w' ⟨rfl, rfl⟩) | (go_at_call 110; refine (CP.out _ _ _ _).mono ?_; rintro e w' ⟨rfl, rfl⟩) | (go_at_call 133; refine (CB.out _ _ _ _).mono ?_; rintro e w' ⟨rfl, rfl⟩))
      go_ret
      exact ⟨ret_i (by rw [← HR.out]; show _ = max a b; omega), xq.below⟩
  · rw [h2] at hsa hsb
    clear h2 hbi
    have HT := hid h1
    clear h1
    rcases hq with hq | hq
    · go_enter Tryz.func90, Tryz.ntmps90
      go_wp2
      refine wp_region_calm (by kernel_rfl) (by kernel_rfl) ?_
      repeat (go_big_quiet_step (fail))
      refine wpQuiet_nil ?_
      intro _ hw'
      obtain ⟨xq, hw''⟩ := hw'
      subst hw''
      go_wp2_with (first | (go_at_call 131; first | (with_reducible refine (C1.out _).mono ?_; rintro e w' ⟨rfl, rfl⟩) | (with_reducible refine (C2.out _).mono ?_; rintro e w' ⟨rfl, rfl⟩)) | (go_at_call 132; refine (CW.out _ _).mono ?_; rintro e w' ⟨rfl, rfl⟩) | (go_at_call 134; refine (CN.out _ _).mono ?_; rintro e w' ⟨rfl, rfl⟩) | (go_at_call 110; refine (CP.out _ _ _ _).mono ?_; rintro e w' ⟨rfl, rfl⟩) | (go_at_call 133; refine (CB.out _ _ _ _).mono ?_; rintro e w' ⟨rfl, rfl⟩))
      go_ret
      exact ⟨ret_i (by rw [← HR.out]; show _ = max a b; omega), xq.below⟩
    · go_enter Tryz.func90, Tryz.ntmps90
      go_wp2
      refine wp_region_calm (by kernel_rfl) (by kernel_rfl) ?_
      repeat (go_big_quiet_step (fail))
      refine wpQuiet_nil ?_
      intro _ hw'
      obtain ⟨xq, hw''⟩ := hw'
      subst hw''
      go_wp2_with (first | (go_at_call 131; first | (with_reducible refine (C1.out _).mono ?_; rintro e w' ⟨rfl, rfl⟩) | (with_reducible refine (C2.out _).mono ?_; rintro e w' ⟨rfl, rfl⟩)) | (go_at_call 132; refine (CW.out _ _).mono ?_; rintro e w' ⟨rfl, rfl⟩) | (go_at_call 134; refine (CN.out _ _).mono ?_; rintro e w' ⟨rfl, rfl⟩) | (go_at_call 110; refine (CP.out _ _ _ _).mono ?_; rintro e w' ⟨rfl, rfl⟩) | (go_at_call 133; refine (CB.out _ _ _ _).mono ?_; rintro e w' ⟨rfl, rfl⟩))
      go_ret
      exact ⟨ret_i (by rw [← HR.out]; show _ = max a b; omega), xq.below⟩
  · rw [h2] at hsa hsb
    clear h2 hbi
    have HT := hid h1
    clear h1
    rcases hq with hq | hq
    · go_enter Tryz.func90, Tryz.ntmps90
      go_wp2
      refine wp_region_calm (by kernel_rfl) (by kernel_rfl) ?_
      repeat (go_big_quiet_step (fail))
      refine wpQuiet_nil ?_
      intro _ hw'
      obtain ⟨xq, hw''⟩ := hw'
      subst hw''
      go_wp2_with (first | (go_at_call 131; first | (with_reducible refine (C1.out _).mono ?_; rintro e w' ⟨rfl, rfl⟩) | (with_reducible refine (C2.out _).mono ?_; rintro e w' ⟨rfl, rfl⟩)) | (go_at_call 132; refine (CW.out _ _).mono ?_; rintro e w' ⟨rfl, rfl⟩) | (go_at_call 134; refine (CN.out _ _).mono ?_; rintro e w' ⟨rfl, rfl⟩) | (go_at_call 110; refine (CP.out _ _ _ _).mono ?_; rintro e w' ⟨rfl, rfl⟩) | (go_at_call 133; refine (CB.out _ _ _ _).mono ?_; rintro e w' ⟨rfl, rfl⟩))
      go_ret
      exact ⟨ret_i (by rw [← HR.out]; show _ = max a b; omega), xq.below⟩
    · go_enter Tryz.func90, Tryz.ntmps90
      go_wp2
      refine wp_region_calm (by kernel_rfl) (by kernel_rfl) ?_
      repeat (go_big_quiet_step (fail))
      refine wpQuiet_nil ?_
      intro _ hw'
      obtain ⟨xq, hw''⟩ := hw'
      subst hw''
      go_wp2_with (first | (go_at_call 131; first | (with_reducible refine (C1.out _).mono ?_; rintro e w' ⟨rfl, rfl⟩) | (with_reducible refine (C2.out _).mono ?_; rintro e w' ⟨rfl, rfl⟩)) | (go_at_call 132; refine (CW.out _ _).mono ?_; rintro e w' ⟨rfl, rfl⟩) | (go_at_call 134; refine (CN.out _ _).mono ?_; rintro e w' ⟨rfl, rfl⟩) | (go_at_call 110; refine (CP.out _ _ _ _).mono ?_; rintro e w' ⟨rfl, rfl⟩) | (go_at_call 133; refine (CB.out _ _ _ _).mono ?_; rintro e w' ⟨rfl, rfl⟩))
      go_ret
      exact ⟨ret_i (by rw [← HR.out]; show _ = max a b; omega), xq.below⟩
set_option maxRecDepth 100000 in
theorem i_res8 (bi a b : Int) (w : World) (ha : wordB bi a = true) (hb : wordB bi b = true) :
    Calls Tryz.prog 90 #[.int .i64 8, .int .i64 bi, .int .i64 a, .int .i64 b] w fun e w' => e = .returned (.int .i64 (resZ 8 bi a b)) ∧ Below w.heap.size w w' := by
  have hbi : bitsB bi = true := by simp only [wordB, Bool.and_eq_true] at ha; exact ha.1
  have C1 := hid (fun W => i_signedOf bi a W ha)
  have C2 := hid (fun W => i_signedOf bi b W hb)
  have CW := hid (fun n W => i_wrapped bi n W hbi)
  have CN := hid (fun n W => i_nearest bi n W hbi)
  have CP := hid (fun p x y W => i_pick p x y W)
  have CB := hid (fun n x y W => i_bounded n x y W)
  have hk := tmod_sh hb
  have hk16 := shB_lt b hbi
  have hra := wordB_range ha
  have hrb := wordB_range hb
  have hsa := sgB_range ha
  have hsb := sgB_range hb
  generalize hR : resZ 8 bi a b = R
  have HR := hid hR
  clear hR
  generalize hK : shB bi b = kk at hk hk16
  have HK := hid hK
  have HTA := hid (show a ≤ top bi by simp only [wordB, Bool.and_eq_true, inB_iff] at ha; exact ha.2.2)
  clear hK ha hb
  rcases top_or hbi with ⟨rfl, h1, h2⟩ | ⟨rfl, h1, h2⟩ | ⟨rfl, h1, h2⟩
  · rw [h2] at hsa hsb
    clear h2 hbi
    have HT := hid h1
    clear h1
    go_enter Tryz.func90, Tryz.ntmps90
    go_wp2
    refine wp_region_calm (by kernel_rfl) (by kernel_rfl) ?_
    repeat (go_big_quiet_step (fail))
    refine wpQuiet_nil ?_
    intro _ hw'
    obtain ⟨xq, hw''⟩ := hw'
    subst hw''
    go_wp2_with (first | (go_at_call 131; first | (with_reducible refine (C1.out _).mono ?_; rintro e w' ⟨rfl, rfl⟩) | (with_reducible refine (C2.out _).mono ?_; rintro e w' ⟨rfl, rfl⟩)) | (go_at_call 132; refine (CW.out _ _).mono ?_; rintro e w' ⟨rfl, rfl⟩) | (go_at_call 134; refine (CN.out _ _).mono ?_; rintro e w' ⟨rfl, rfl⟩) | (go_at_call 110; refine (CP.out _ _ _ _).mono ?_; rintro e w' ⟨rfl, rfl⟩) | (go_at_call 133; refine (CB.out _ _ _ _).mono ?_; rintro e w' ⟨rfl, rfl⟩))
    go_ret
    exact ⟨ret_i (by rw [← HR.out]; exact pk_ite), xq.below⟩
  · rw [h2] at hsa hsb
    clear h2 hbi
    have HT := hid h1
    clear h1
    go_enter Tryz.func90, Tryz.ntmps90
    go_wp2
    refine wp_region_calm (by kernel_rfl) (by kernel_rfl) ?_
    repeat (go_big_quiet_step (fail))
    refine wpQuiet_nil ?_
    intro _ hw'
    obtain ⟨xq, hw''⟩ := hw'
    subst hw''
    go_wp2_with (first | (go_at_call 131; first | (with_reducible refine (C1.out _).mono ?_; rintro e w' ⟨rfl, rfl⟩) | (with_reducible refine (C2.out _).mono ?_; rintro e w' ⟨rfl, rfl⟩)) | (go_at_call 132; refine (CW.out _ _).mono ?_; rintro e w' ⟨rfl, rfl⟩) | (go_at_call 134; refine (CN.out _ _).mono ?_; rintro e w' ⟨rfl, rfl⟩) | (go_at_call 110; refine (CP.out _ _ _ _).mono ?_; rintro e w' ⟨rfl, rfl⟩) | (go_at_call 133; refine (CB.out _ _ _ _).mono ?_; rintro e w' ⟨rfl, rfl⟩))
    go_ret
    exact ⟨ret_i (by rw [← HR.out]; exact pk_ite), xq.below⟩
  · rw [h2] at hsa hsb
    clear h2 hbi
    have HT := hid h1
    clear h1
    go_enter Tryz.func90, Tryz.ntmps90
    go_wp2
    refine wp_region_calm (by kernel_rfl) (by kernel_rfl) ?_
    repeat (go_big_quiet_step (fail))
    refine wpQuiet_nil ?_
    intro _ hw'
    obtain ⟨xq, hw''⟩ := hw'
    subst hw''
    go_wp2_with (first | (go_at_call 131; first | (with_reducible refine (C1.out _).mono ?_; rintro e w' ⟨rfl, rfl⟩) | (with_reducible refine (C2.out _).mono ?_; rintro e w' ⟨rfl, rfl⟩)) | (go_at_call 132; refine (CW.out _ _).mono ?_; rintro e w' ⟨rfl, rfl⟩) | (go_at_call 134; refine (CN.out _ _).mono ?_; rintro e w' ⟨rfl, rfl⟩) | (go_at_call 110; refine (CP.out _ _ _ _).mono ?_; rintro e w' ⟨rfl, rfl⟩) | (go_at_call 133; refine (CB.out _ _ _ _).mono ?_; rintro e w' ⟨rfl, rfl⟩))
    go_ret
    exact ⟨ret_i (by rw [← HR.out]; exact pk_ite), xq.below⟩
set_option maxRecDepth 100000 in
theorem i_res9 (bi a b : Int) (w : World) (ha : wordB bi a = true) (hb : wordB bi b = true) :
    Calls Tryz.prog 90 #[.int .i64 9, .int .i64 bi, .int .i64 a, .int .i64 b] w fun e w' => e = .returned (.int .i64 (resZ 9 bi a b)) ∧ Below w.heap.size w w' := by
  have hbi : bitsB bi = true := by simp only [wordB, Bool.and_eq_true] at ha; exact ha.1
  have C1 := hid (fun W => i_signedOf bi a W ha)
  have C2 := hid (fun W => i_signedOf bi b W hb)
  have CW := hid (fun n W => i_wrapped bi n W hbi)
  have CN := hid (fun n W => i_nearest bi n W hbi)
  have CP := hid (fun p x y W => i_pick p x y W)
  have CB := hid (fun n x y W => i_bounded n x y W)
  have hk := tmod_sh hb
  have hk16 := shB_lt b hbi
  have hra := wordB_range ha
  have hrb := wordB_range hb
  have hsa := sgB_range ha
  have hsb := sgB_range hb
  generalize hR : resZ 9 bi a b = R
  have HR := hid hR
  clear hR
  generalize hK : shB bi b = kk at hk hk16
  have HK := hid hK
  have HTA := hid (show a ≤ top bi by simp only [wordB, Bool.and_eq_true, inB_iff] at ha; exact ha.2.2)
  clear hK ha hb
  rcases top_or hbi with ⟨rfl, h1, h2⟩ | ⟨rfl, h1, h2⟩ | ⟨rfl, h1, h2⟩
  · rw [h2] at hsa hsb
    clear h2 hbi
    have HT := hid h1
    clear h1
    go_enter Tryz.func90, Tryz.ntmps90
    go_wp2
    refine wp_region_calm (by kernel_rfl) (by kernel_rfl) ?_
    repeat (go_big_quiet_step (fail))
    refine wpQuiet_nil ?_
    intro _ hw'
    obtain ⟨xq, hw''⟩ := hw'
    subst hw''
    go_wp2_with (first | (go_at_call 131; first | (with_reducible refine (C1.out _).mono ?_; rintro e w' ⟨rfl, rfl⟩) | (with_reducible refine (C2.out _).mono ?_; rintro e w' ⟨rfl, rfl⟩)) | (go_at_call 132; refine (CW.out _ _).mono ?_; rintro e w' ⟨rfl, rfl⟩) | (go_at_call 134; refine (CN.out _ _).mono ?_; rintro e w' ⟨rfl, rfl⟩) | (go_at_call 110; refine (CP.out _ _ _ _).mono ?_; rintro e w' ⟨rfl, rfl⟩) | (go_at_call 133; refine (CB.out _ _ _ _).mono ?_; rintro e w' ⟨rfl, rfl⟩))
    go_ret
    exact ⟨ret_i (by rw [← HR.out]; exact pk_ite), xq.below⟩
  · rw [h2] at hsa hsb
    clear h2 hbi
    have HT := hid h1
    clear h1
    go_enter Tryz.func90, Tryz.ntmps90
    go_wp2
    refine wp_region_calm (by kernel_rfl) (by kernel_rfl) ?_
    repeat (go_big_quiet_step (fail))
    refine wpQuiet_nil ?_
    intro _ hw'
    obtain ⟨xq, hw''⟩ := hw'
    subst hw''
    go_wp2_with (first | (go_at_call 131; first | (with_reducible refine (C1.out _).mono ?_; rintro e w' ⟨rfl, rfl⟩) | (with_reducible refine (C2.out _).mono ?_; rintro e w' ⟨rfl, rfl⟩)) | (go_at_call 132; refine (CW.out _ _).mono ?_; rintro e w' ⟨rfl, rfl⟩) | (go_at_call 134; refine (CN.out _ _).mono ?_; rintro e w' ⟨rfl, rfl⟩) | (go_at_call 110; refine (CP.out _ _ _ _).mono ?_; rintro e w' ⟨rfl, rfl⟩) | (go_at_call 133; refine (CB.out _ _ _ _).mono ?_; rintro e w' ⟨rfl, rfl⟩))
    go_ret
    exact ⟨ret_i (by rw [← HR.out]; exact pk_ite), xq.below⟩
  · rw [h2] at hsa hsb
    clear h2 hbi
    have HT := hid h1
    clear h1
    go_enter Tryz.func90, Tryz.ntmps90
    go_wp2
    refine wp_region_calm (by kernel_rfl) (by kernel_rfl) ?_
    repeat (go_big_quiet_step (fail))
    refine wpQuiet_nil ?_
    intro _ hw'
    obtain ⟨xq, hw''⟩ := hw'
    subst hw''
    go_wp2_with (first | (go_at_call 131; first | (with_reducible refine (C1.out _).mono ?_; rintro e w' ⟨rfl, rfl⟩) | (with_reducible refine (C2.out _).mono ?_; rintro e w' ⟨rfl, rfl⟩)) | (go_at_call 132; refine (CW.out _ _).mono ?_; rintro e w' ⟨rfl, rfl⟩) | (go_at_call 134; refine (CN.out _ _).mono ?_; rintro e w' ⟨rfl, rfl⟩) | (go_at_call 110; refine (CP.out _ _ _ _).mono ?_; rintro e w' ⟨rfl, rfl⟩) | (go_at_call 133; refine (CB.out _ _ _ _).mono ?_; rintro e w' ⟨rfl, rfl⟩))
    go_ret
    exact ⟨ret_i (by rw [← HR.out]; exact pk_ite), xq.below⟩
set_option maxRecDepth 100000 in
theorem i_res10 (bi a b : Int) (w : World) (ha : wordB bi a = true) (hb : wordB bi b = true) :
    Calls Tryz.prog 90 #[.int .i64 10, .int .i64 bi, .int .i64 a, .int .i64 b] w fun e w' => e = .returned (.int .i64 (resZ 10 bi a b)) ∧ Below w.heap.size w w' := by
  have hbi : bitsB bi = true := by simp only [wordB, Bool.and_eq_true] at ha; exact ha.1
  have C1 := hid (fun W => i_signedOf bi a W ha)
  have C2 := hid (fun W => i_signedOf bi b W hb)
  have CW := hid (fun n W => i_wrapped bi n W hbi)
  have CN := hid (fun n W => i_nearest bi n W hbi)
  have CP := hid (fun p x y W => i_pick p x y W)
  have CB := hid (fun n x y W => i_bounded n x y W)
  have hk := tmod_sh hb
  have hk16 := shB_lt b hbi
  have hra := wordB_range ha
  have hrb := wordB_range hb
  have hsa := sgB_range ha
  have hsb := sgB_range hb
  generalize hR : resZ 10 bi a b = R
  have HR := hid hR
  clear hR
  generalize hK : shB bi b = kk at hk hk16
  have HK := hid hK
  have HTA := hid (show a ≤ top bi by simp only [wordB, Bool.and_eq_true, inB_iff] at ha; exact ha.2.2)
  clear hK ha hb
  rcases top_or hbi with ⟨rfl, h1, h2⟩ | ⟨rfl, h1, h2⟩ | ⟨rfl, h1, h2⟩
  · rw [h2] at hsa hsb
    clear h2 hbi
    have HT := hid h1
    clear h1
    go_enter Tryz.func90, Tryz.ntmps90
    go_wp2
    refine wp_region_calm (by kernel_rfl) (by kernel_rfl) ?_
    repeat (go_big_quiet_step (fail))
    refine wpQuiet_nil ?_
    intro _ hw'
    obtain ⟨xq, hw''⟩ := hw'
    subst hw''
    go_wp2_with (first | (go_at_call 131; first | (with_reducible refine (C1.out _).mono ?_; rintro e w' ⟨rfl, rfl⟩) | (with_reducible refine (C2.out _).mono ?_; rintro e w' ⟨rfl, rfl⟩)) | (go_at_call 132; refine (CW.out _ _).mono ?_; rintro e w' ⟨rfl, rfl⟩) | (go_at_call 134; refine (CN.out _ _).mono ?_; rintro e w' ⟨rfl, rfl⟩) | (go_at_call 110; refine (CP.out _ _ _ _).mono ?_; rintro e w' ⟨rfl, rfl⟩) | (go_at_call 133; refine (CB.out _ _ _ _).mono ?_; rintro e w' ⟨rfl, rfl⟩))
    go_ret
    exact ⟨ret_i (by rw [← HR.out]; show _ = min (a + b) (top _); have := HTA.out; rw [HT.out] at *; omega), xq.below⟩
  · rw [h2] at hsa hsb
    clear h2 hbi
    have HT := hid h1
    clear h1
    go_enter Tryz.func90, Tryz.ntmps90
    go_wp2
    refine wp_region_calm (by kernel_rfl) (by kernel_rfl) ?_
    repeat (go_big_quiet_step (fail))
    refine wpQuiet_nil ?_
    intro _ hw'
    obtain ⟨xq, hw''⟩ := hw'
    subst hw''
    go_wp2_with (first | (go_at_call 131; first | (with_reducible refine (C1.out _).mono ?_; rintro e w' ⟨rfl, rfl⟩) | (with_reducible refine (C2.out _).mono ?_; rintro e w' ⟨rfl, rfl⟩)) | (go_at_call 132; refine (CW.out _ _).mono ?_; rintro e w' ⟨rfl, rfl⟩) | (go_at_call 134; refine (CN.out _ _).mono ?_; rintro e w' ⟨rfl, rfl⟩) | (go_at_call 110; refine (CP.out _ _ _ _).mono ?_; rintro e w' ⟨rfl, rfl⟩) | (go_at_call 133; refine (CB.out _ _ _ _).mono ?_; rintro e w' ⟨rfl, rfl⟩))
    go_ret
    exact ⟨ret_i (by rw [← HR.out]; show _ = min (a + b) (top _); have := HTA.out; rw [HT.out] at *; omega), xq.below⟩
  · rw [h2] at hsa hsb
    clear h2 hbi
    have HT := hid h1
    clear h1
    go_enter Tryz.func90, Tryz.ntmps90
    go_wp2
    refine wp_region_calm (by kernel_rfl) (by kernel_rfl) ?_
    repeat (go_big_quiet_step (fail))
    refine wpQuiet_nil ?_
    intro _ hw'
    obtain ⟨xq, hw''⟩ := hw'
    subst hw''
    go_wp2_with (first | (go_at_call 131; first | (with_reducible refine (C1.out _).mono ?_; rintro e w' ⟨rfl, rfl⟩) | (with_reducible refine (C2.out _).mono ?_; rintro e w' ⟨rfl, rfl⟩)) | (go_at_call 132; refine (CW.out _ _).mono ?_; rintro e w' ⟨rfl, rfl⟩) | (go_at_call 134; refine (CN.out _ _).mono ?_; rintro e w' ⟨rfl, rfl⟩) | (go_at_call 110; refine (CP.out _ _ _ _).mono ?_; rintro e w' ⟨rfl, rfl⟩) | (go_at_call 133; refine (CB.out _ _ _ _).mono ?_; rintro e w' ⟨rfl, rfl⟩))
    go_ret
    exact ⟨ret_i (by rw [← HR.out]; show _ = min (a + b) (top _); have := HTA.out; rw [HT.out] at *; omega), xq.below⟩
set_option maxRecDepth 100000 in
theorem i_res11 (bi a b : Int) (w : World) (ha : wordB bi a = true) (hb : wordB bi b = true) :
    Calls Tryz.prog 90 #[.int .i64 11, .int .i64 bi, .int .i64 a, .int .i64 b] w fun e w' => e = .returned (.int .i64 (resZ 11 bi a b)) ∧ Below w.heap.size w w' := by
  have hbi : bitsB bi = true := by simp only [wordB, Bool.and_eq_true] at ha; exact ha.1
  have C1 := hid (fun W => i_signedOf bi a W ha)
  have C2 := hid (fun W => i_signedOf bi b W hb)
  have CW := hid (fun n W => i_wrapped bi n W hbi)
  have CN := hid (fun n W => i_nearest bi n W hbi)
  have CP := hid (fun p x y W => i_pick p x y W)
  have CB := hid (fun n x y W => i_bounded n x y W)
  have hk := tmod_sh hb
  have hk16 := shB_lt b hbi
  have hra := wordB_range ha
  have hrb := wordB_range hb
  have hsa := sgB_range ha
  have hsb := sgB_range hb
  generalize hR : resZ 11 bi a b = R
  have HR := hid hR
  clear hR
  generalize hK : shB bi b = kk at hk hk16
  have HK := hid hK
  have HTA := hid (show a ≤ top bi by simp only [wordB, Bool.and_eq_true, inB_iff] at ha; exact ha.2.2)
  clear hK ha hb
  rcases top_or hbi with ⟨rfl, h1, h2⟩ | ⟨rfl, h1, h2⟩ | ⟨rfl, h1, h2⟩
  · rw [h2] at hsa hsb
    clear h2 hbi
    have HT := hid h1
    clear h1
    go_enter Tryz.func90, Tryz.ntmps90
    go_wp2
    refine wp_region_calm (by kernel_rfl) (by kernel_rfl) ?_
    repeat (go_big_quiet_step (fail))
    refine wpQuiet_nil ?_
    intro _ hw'
    obtain ⟨xq, hw''⟩ := hw'
    subst hw''
    go_wp2_with (first | (go_at_call 131; first | (with_reducible refine (C1.out _).mono ?_; rintro e w' ⟨rfl, rfl⟩) | (with_reducible refine (C2.out _).mono ?_; rintro e w' ⟨rfl, rfl⟩)) | (go_at_call 132; refine (CW.out _ _).mono ?_; rintro e w' ⟨rfl, rfl⟩) | (go_at_call 134; refine (CN.out _ _).mono ?_; rintro e w' ⟨rfl, rfl⟩) | (go_at_call 110; refine (CP.out _ _ _ _).mono ?_; rintro e w' ⟨rfl, rfl⟩) | (go_at_call 133; refine (CB.out _ _ _ _).mono ?_; rintro e w' ⟨rfl, rfl⟩))
    go_ret
    exact ⟨ret_i (by rw [← HR.out]; rfl), xq.below⟩
  · rw [h2] at hsa hsb
    clear h2 hbi
    have HT := hid h1
    clear h1
    go_enter Tryz.func90, Tryz.ntmps90
    go_wp2
    refine wp_region_calm (by kernel_rfl) (by kernel_rfl) ?_
    repeat (go_big_quiet_step (fail))
    refine wpQuiet_nil ?_
    intro _ hw'
    obtain ⟨xq, hw''⟩ := hw'
    subst hw''
    go_wp2_with (first | (go_at_call 131; first | (with_reducible refine (C1.out _).mono ?_; rintro e w' ⟨rfl, rfl⟩) | (with_reducible refine (C2.out _).mono ?_; rintro e w' ⟨rfl, rfl⟩)) | (go_at_call 132; refine (CW.out _ _).mono ?_; rintro e w' ⟨rfl, rfl⟩) | (go_at_call 134; refine (CN.out _ _).mono ?_; rintro e w' ⟨rfl, rfl⟩) | (go_at_call 110; refine (CP.out _ _ _ _).mono ?_; rintro e w' ⟨rfl, rfl⟩) | (go_at_call 133; refine (CB.out _ _ _ _).mono ?_; rintro e w' ⟨rfl, rfl⟩))
    go_ret
    exact ⟨ret_i (by rw [← HR.out]; rfl), xq.below⟩
  · rw [h2] at hsa hsb
    clear h2 hbi
    have HT := hid h1
    clear h1
    go_enter Tryz.func90, Tryz.ntmps90
    go_wp2
    refine wp_region_calm (by kernel_rfl) (by kernel_rfl) ?_
    repeat (go_big_quiet_step (fail))
    refine wpQuiet_nil ?_
    intro _ hw'
    obtain ⟨xq, hw''⟩ := hw'
    subst hw''
    go_wp2_with (first | (go_at_call 131; first | (with_reducible refine (C1.out _).mono ?_; rintro e w' ⟨rfl, rfl⟩) | (with_reducible refine (C2.out _).mono ?_; rintro e w' ⟨rfl, rfl⟩)) | (go_at_call 132; refine (CW.out _ _).mono ?_; rintro e w' ⟨rfl, rfl⟩) | (go_at_call 134; refine (CN.out _ _).mono ?_; rintro e w' ⟨rfl, rfl⟩) | (go_at_call 110; refine (CP.out _ _ _ _).mono ?_; rintro e w' ⟨rfl, rfl⟩) | (go_at_call 133; refine (CB.out _ _ _ _).mono ?_; rintro e w' ⟨rfl, rfl⟩))
    go_ret
    exact ⟨ret_i (by rw [← HR.out]; rfl), xq.below⟩
set_option maxRecDepth 100000 in
theorem i_res12 (bi a b : Int) (w : World) (ha : wordB bi a = true) (hb : wordB bi b = true) :
    Calls Tryz.prog 90 #[.int .i64 12, .int .i64 bi, .int .i64 a, .int .i64 b] w fun e w' => e = .returned (.int .i64 (resZ 12 bi a b)) ∧ Below w.heap.size w w' := by
  have hbi : bitsB bi = true := by simp only [wordB, Bool.and_eq_true] at ha; exact ha.1
  have C1 := hid (fun W => i_signedOf bi a W ha)
  have C2 := hid (fun W => i_signedOf bi b W hb)
  have CW := hid (fun n W => i_wrapped bi n W hbi)
  have CN := hid (fun n W => i_nearest bi n W hbi)
  have CP := hid (fun p x y W => i_pick p x y W)
  have CB := hid (fun n x y W => i_bounded n x y W)
  have hk := tmod_sh hb
  have hk16 := shB_lt b hbi
  have hra := wordB_range ha
  have hrb := wordB_range hb
  have hsa := sgB_range ha
  have hsb := sgB_range hb
  generalize hR : resZ 12 bi a b = R
  have HR := hid hR
  clear hR
  generalize hK : shB bi b = kk at hk hk16
  have HK := hid hK
  have HTA := hid (show a ≤ top bi by simp only [wordB, Bool.and_eq_true, inB_iff] at ha; exact ha.2.2)
  clear hK ha hb
  rcases top_or hbi with ⟨rfl, h1, h2⟩ | ⟨rfl, h1, h2⟩ | ⟨rfl, h1, h2⟩
  · rw [h2] at hsa hsb
    clear h2 hbi
    have HT := hid h1
    clear h1
    go_enter Tryz.func90, Tryz.ntmps90
    go_wp2
    refine wp_region_calm (by kernel_rfl) (by kernel_rfl) ?_
    repeat (go_big_quiet_step (fail))
    refine wpQuiet_nil ?_
    intro _ hw'
    obtain ⟨xq, hw''⟩ := hw'
    subst hw''
    go_wp2_with (first | (go_at_call 131; first | (with_reducible refine (C1.out _).mono ?_; rintro e w' ⟨rfl, rfl⟩) | (with_reducible refine (C2.out _).mono ?_; rintro e w' ⟨rfl, rfl⟩)) | (go_at_call 132; refine (CW.out _ _).mono ?_; rintro e w' ⟨rfl, rfl⟩) | (go_at_call 134; refine (CN.out _ _).mono ?_; rintro e w' ⟨rfl, rfl⟩) | (go_at_call 110; refine (CP.out _ _ _ _).mono ?_; rintro e w' ⟨rfl, rfl⟩) | (go_at_call 133; refine (CB.out _ _ _ _).mono ?_; rintro e w' ⟨rfl, rfl⟩))
    go_ret
    exact ⟨ret_i (by rw [← HR.out]; show _ = max (a - b) 0; have := HTA.out; rw [HT.out] at this; omega), xq.below⟩
  · rw [h2] at hsa hsb
    clear h2 hbi
    have HT := hid h1
    clear h1
    go_enter Tryz.func90, Tryz.ntmps90
    go_wp2
    refine wp_region_calm (by kernel_rfl) (by kernel_rfl) ?_
    repeat (go_big_quiet_step (fail))
    refine wpQuiet_nil ?_
    intro _ hw'
    obtain ⟨xq, hw''⟩ := hw'
    subst hw''
    go_wp2_with (first | (go_at_call 131; first | (with_reducible refine (C1.out _).mono ?_; rintro e w' ⟨rfl, rfl⟩) | (with_reducible refine (C2.out _).mono ?_; rintro e w' ⟨rfl, rfl⟩)) | (go_at_call 132; refine (CW.out _ _).mono ?_; rintro e w' ⟨rfl, rfl⟩) | (go_at_call 134; refine (CN.out _ _).mono ?_; rintro e w' ⟨rfl, rfl⟩) | (go_at_call 110; refine (CP.out _ _ _ _).mono ?_; rintro e w' ⟨rfl, rfl⟩) | (go_at_call 133; refine (CB.out _ _ _ _).mono ?_; rintro e w' ⟨rfl, rfl⟩))
    go_ret
    exact ⟨ret_i (by rw [← HR.out]; show _ = max (a - b) 0; have := HTA.out; rw [HT.out] at this; omega), xq.below⟩
  · rw [h2] at hsa hsb
    clear h2 hbi
    have HT := hid h1
    clear h1
    go_enter Tryz.func90, Tryz.ntmps90
    go_wp2
    refine wp_region_calm (by kernel_rfl) (by kernel_rfl) ?_
    repeat (go_big_quiet_step (fail))
    refine wpQuiet_nil ?_
    intro _ hw'
    obtain ⟨xq, hw''⟩ := hw'
    subst hw''
    go_wp2_with (first | (go_at_call 131; first | (with_reducible refine (C1.out _).mono ?_; rintro e w' ⟨rfl, rfl⟩) | (with_reducible refine (C2.out _).mono ?_; rintro e w' ⟨rfl, rfl⟩)) | (go_at_call 132; refine (CW.out _ _).mono ?_; rintro e w' ⟨rfl, rfl⟩) | (go_at_call 134; refine (CN.out _ _).mono ?_; rintro e w' ⟨rfl, rfl⟩) | (go_at_call 110; refine (CP.out _ _ _ _).mono ?_; rintro e w' ⟨rfl, rfl⟩) | (go_at_call 133; refine (CB.out _ _ _ _).mono ?_; rintro e w' ⟨rfl, rfl⟩))
    go_ret
    exact ⟨ret_i (by rw [← HR.out]; show _ = max (a - b) 0; have := HTA.out; rw [HT.out] at this; omega), xq.below⟩
set_option maxRecDepth 100000 in
theorem i_res13 (bi a b : Int) (w : World) (ha : wordB bi a = true) (hb : wordB bi b = true) :
    Calls Tryz.prog 90 #[.int .i64 13, .int .i64 bi, .int .i64 a, .int .i64 b] w fun e w' => e = .returned (.int .i64 (resZ 13 bi a b)) ∧ Below w.heap.size w w' := by
  have hbi : bitsB bi = true := by simp only [wordB, Bool.and_eq_true] at ha; exact ha.1
  have C1 := hid (fun W => i_signedOf bi a W ha)
  have C2 := hid (fun W => i_signedOf bi b W hb)
  have CW := hid (fun n W => i_wrapped bi n W hbi)
  have CN := hid (fun n W => i_nearest bi n W hbi)
  have CP := hid (fun p x y W => i_pick p x y W)
  have CB := hid (fun n x y W => i_bounded n x y W)
  have hk := tmod_sh hb
  have hk16 := shB_lt b hbi
  have hra := wordB_range ha
  have hrb := wordB_range hb
  have hsa := sgB_range ha
  have hsb := sgB_range hb
  generalize hR : resZ 13 bi a b = R
  have HR := hid hR
  clear hR
  generalize hK : shB bi b = kk at hk hk16
  have HK := hid hK
  have HTA := hid (show a ≤ top bi by simp only [wordB, Bool.and_eq_true, inB_iff] at ha; exact ha.2.2)
  clear hK ha hb
  rcases top_or hbi with ⟨rfl, h1, h2⟩ | ⟨rfl, h1, h2⟩ | ⟨rfl, h1, h2⟩
  · rw [h2] at hsa hsb
    clear h2 hbi
    have HT := hid h1
    clear h1
    go_enter Tryz.func90, Tryz.ntmps90
    go_wp2
    refine wp_region_calm (by kernel_rfl) (by kernel_rfl) ?_
    repeat (go_big_quiet_step (fail))
    refine wpQuiet_nil ?_
    intro _ hw'
    obtain ⟨xq, hw''⟩ := hw'
    subst hw''
    go_wp2_with (first | (go_at_call 131; first | (with_reducible refine (C1.out _).mono ?_; rintro e w' ⟨rfl, rfl⟩) | (with_reducible refine (C2.out _).mono ?_; rintro e w' ⟨rfl, rfl⟩)) | (go_at_call 132; refine (CW.out _ _).mono ?_; rintro e w' ⟨rfl, rfl⟩) | (go_at_call 134; refine (CN.out _ _).mono ?_; rintro e w' ⟨rfl, rfl⟩) | (go_at_call 110; refine (CP.out _ _ _ _).mono ?_; rintro e w' ⟨rfl, rfl⟩) | (go_at_call 133; refine (CB.out _ _ _ _).mono ?_; rintro e w' ⟨rfl, rfl⟩))
    go_ret
    exact ⟨ret_i (by rw [← HR.out]; rfl), xq.below⟩
  · rw [h2] at hsa hsb
    clear h2 hbi
    have HT := hid h1
    clear h1
    go_enter Tryz.func90, Tryz.ntmps90
    go_wp2
    refine wp_region_calm (by kernel_rfl) (by kernel_rfl) ?_
    repeat (go_big_quiet_step (fail))
    refine wpQuiet_nil ?_
    intro _ hw'
    obtain ⟨xq, hw''⟩ := hw'
    subst hw''
    go_wp2_with (first | (go_at_call 131; first | (with_reducible refine (C1.out _).mono ?_; rintro e w' ⟨rfl, rfl⟩) | (with_reducible refine (C2.out _).mono ?_; rintro e w' ⟨rfl, rfl⟩)) | (go_at_call 132; refine (CW.out _ _).mono ?_; rintro e w' ⟨rfl, rfl⟩) | (go_at_call 134; refine (CN.out _ _).mono ?_; rintro e w' ⟨rfl, rfl⟩) | (go_at_call 110; refine (CP.out _ _ _ _).mono ?_; rintro e w' ⟨rfl, rfl⟩) | (go_at_call 133; refine (CB.out _ _ _ _).mono ?_; rintro e w' ⟨rfl, rfl⟩))
    go_ret
    exact ⟨ret_i (by rw [← HR.out]; rfl), xq.below⟩
  · rw [h2] at hsa hsb
    clear h2 hbi
    have HT := hid h1
    clear h1
    go_enter Tryz.func90, Tryz.ntmps90
    go_wp2
    refine wp_region_calm (by kernel_rfl) (by kernel_rfl) ?_
    repeat (go_big_quiet_step (fail))
    refine wpQuiet_nil ?_
    intro _ hw'
    obtain ⟨xq, hw''⟩ := hw'
    subst hw''
    go_wp2_with (first | (go_at_call 131; first | (with_reducible refine (C1.out _).mono ?_; rintro e w' ⟨rfl, rfl⟩) | (with_reducible refine (C2.out _).mono ?_; rintro e w' ⟨rfl, rfl⟩)) | (go_at_call 132; refine (CW.out _ _).mono ?_; rintro e w' ⟨rfl, rfl⟩) | (go_at_call 134; refine (CN.out _ _).mono ?_; rintro e w' ⟨rfl, rfl⟩) | (go_at_call 110; refine (CP.out _ _ _ _).mono ?_; rintro e w' ⟨rfl, rfl⟩) | (go_at_call 133; refine (CB.out _ _ _ _).mono ?_; rintro e w' ⟨rfl, rfl⟩))
    go_ret
    exact ⟨ret_i (by rw [← HR.out]; rfl), xq.below⟩
set_option maxRecDepth 100000 in
theorem i_res14 (bi a b : Int) (w : World) (ha : wordB bi a = true) (hb : wordB bi b = true) :
    Calls Tryz.prog 90 #[.int .i64 14, .int .i64 bi, .int .i64 a, .int .i64 b] w fun e w' => e = .returned (.int .i64 (resZ 14 bi a b)) ∧ Below w.heap.size w w' := by
  have hbi : bitsB bi = true := by simp only [wordB, Bool.and_eq_true] at ha; exact ha.1
  have C1 := hid (fun W => i_signedOf bi a W ha)
  have C2 := hid (fun W => i_signedOf bi b W hb)
  have CW := hid (fun n W => i_wrapped bi n W hbi)
  have CN := hid (fun n W => i_nearest bi n W hbi)
  have CP := hid (fun p x y W => i_pick p x y W)
  have CB := hid (fun n x y W => i_bounded n x y W)
  have hk := tmod_sh hb
  have hk16 := shB_lt b hbi
  have hra := wordB_range ha
  have hrb := wordB_range hb
  have hsa := sgB_range ha
  have hsb := sgB_range hb
  generalize hR : resZ 14 bi a b = R
  have HR := hid hR
  clear hR
  generalize hK : shB bi b = kk at hk hk16
  have HK := hid hK
  have HTA := hid (show a ≤ top bi by simp only [wordB, Bool.and_eq_true, inB_iff] at ha; exact ha.2.2)
  clear hK ha hb
  rcases top_or hbi with ⟨rfl, h1, h2⟩ | ⟨rfl, h1, h2⟩ | ⟨rfl, h1, h2⟩
  · rw [h2] at hsa hsb
    clear h2 hbi
    have HT := hid h1
    clear h1
    go_enter Tryz.func90, Tryz.ntmps90
    go_wp2
    refine wp_region_calm (by kernel_rfl) (by kernel_rfl) ?_
    repeat (go_big_quiet_step (fail))
    refine wpQuiet_nil ?_
    intro _ hw'
    obtain ⟨xq, hw''⟩ := hw'
    subst hw''
    go_wp2_with (first | (go_at_call 131; first | (with_reducible refine (C1.out _).mono ?_; rintro e w' ⟨rfl, rfl⟩) | (with_reducible refine (C2.out _).mono ?_; rintro e w' ⟨rfl, rfl⟩)) | (go_at_call 132; refine (CW.out _ _).mono ?_; rintro e w' ⟨rfl, rfl⟩) | (go_at_call 134; refine (CN.out _ _).mono ?_; rintro e w' ⟨rfl, rfl⟩) | (go_at_call 110; refine (CP.out _ _ _ _).mono ?_; rintro e w' ⟨rfl, rfl⟩) | (go_at_call 133; refine (CB.out _ _ _ _).mono ?_; rintro e w' ⟨rfl, rfl⟩))
    go_ret
    exact ⟨ret_i (by rw [← HR.out]; show _ = (a + b + 1) / 2; omega), xq.below⟩
  · rw [h2] at hsa hsb
    clear h2 hbi
    have HT := hid h1
    clear h1
    go_enter Tryz.func90, Tryz.ntmps90
    go_wp2
    refine wp_region_calm (by kernel_rfl) (by kernel_rfl) ?_
    repeat (go_big_quiet_step (fail))
    refine wpQuiet_nil ?_
    intro _ hw'
    obtain ⟨xq, hw''⟩ := hw'
    subst hw''
    go_wp2_with (first | (go_at_call 131; first | (with_reducible refine (C1.out _).mono ?_; rintro e w' ⟨rfl, rfl⟩) | (with_reducible refine (C2.out _).mono ?_; rintro e w' ⟨rfl, rfl⟩)) | (go_at_call 132; refine (CW.out _ _).mono ?_; rintro e w' ⟨rfl, rfl⟩) | (go_at_call 134; refine (CN.out _ _).mono ?_; rintro e w' ⟨rfl, rfl⟩) | (go_at_call 110; refine (CP.out _ _ _ _).mono ?_; rintro e w' ⟨rfl, rfl⟩) | (go_at_call 133; refine (CB.out _ _ _ _).mono ?_; rintro e w' ⟨rfl, rfl⟩))
    go_ret
    exact ⟨ret_i (by rw [← HR.out]; show _ = (a + b + 1) / 2; omega), xq.below⟩
  · rw [h2] at hsa hsb
    clear h2 hbi
    have HT := hid h1
    clear h1
    go_enter Tryz.func90, Tryz.ntmps90
    go_wp2
    refine wp_region_calm (by kernel_rfl) (by kernel_rfl) ?_
    repeat (go_big_quiet_step (fail))
    refine wpQuiet_nil ?_
    intro _ hw'
    obtain ⟨xq, hw''⟩ := hw'
    subst hw''
    go_wp2_with (first | (go_at_call 131; first | (with_reducible refine (C1.out _).mono ?_; rintro e w' ⟨rfl, rfl⟩) | (with_reducible refine (C2.out _).mono ?_; rintro e w' ⟨rfl, rfl⟩)) | (go_at_call 132; refine (CW.out _ _).mono ?_; rintro e w' ⟨rfl, rfl⟩) | (go_at_call 134; refine (CN.out _ _).mono ?_; rintro e w' ⟨rfl, rfl⟩) | (go_at_call 110; refine (CP.out _ _ _ _).mono ?_; rintro e w' ⟨rfl, rfl⟩) | (go_at_call 133; refine (CB.out _ _ _ _).mono ?_; rintro e w' ⟨rfl, rfl⟩))
    go_ret
    exact ⟨ret_i (by rw [← HR.out]; show _ = (a + b + 1) / 2; omega), xq.below⟩
set_option maxRecDepth 100000 in
theorem i_res15 (bi a b : Int) (w : World) (ha : wordB bi a = true) (hb : wordB bi b = true) :
    Calls Tryz.prog 90 #[.int .i64 15, .int .i64 bi, .int .i64 a, .int .i64 b] w fun e w' => e = .returned (.int .i64 (resZ 15 bi a b)) ∧ Below w.heap.size w w' := by
  have hbi : bitsB bi = true := by simp only [wordB, Bool.and_eq_true] at ha; exact ha.1
  have C1 := hid (fun W => i_signedOf bi a W ha)
  have C2 := hid (fun W => i_signedOf bi b W hb)
  have CW := hid (fun n W => i_wrapped bi n W hbi)
  have CN := hid (fun n W => i_nearest bi n W hbi)
  have CP := hid (fun p x y W => i_pick p x y W)
  have CB := hid (fun n x y W => i_bounded n x y W)
  have hk := tmod_sh hb
  have hk16 := shB_lt b hbi
  have hra := wordB_range ha
  have hrb := wordB_range hb
  have hsa := sgB_range ha
  have hsb := sgB_range hb
  generalize hR : resZ 15 bi a b = R
  have HR := hid hR
  clear hR
  generalize hK : shB bi b = kk at hk hk16
  have HK := hid hK
  have HTA := hid (show a ≤ top bi by simp only [wordB, Bool.and_eq_true, inB_iff] at ha; exact ha.2.2)
  clear hK ha hb
  rcases top_or hbi with ⟨rfl, h1, h2⟩ | ⟨rfl, h1, h2⟩ | ⟨rfl, h1, h2⟩
  · rw [h2] at hsa hsb
    clear h2 hbi
    have HT := hid h1
    clear h1
    go_enter Tryz.func90, Tryz.ntmps90
    go_wp2
    refine wp_region_calm (by kernel_rfl) (by kernel_rfl) ?_
    repeat (go_big_quiet_step (fail))
    refine wpQuiet_nil ?_
    intro _ hw'
    obtain ⟨xq, hw''⟩ := hw'
    subst hw''
    go_wp2_with (first | (go_at_call 131; first | (with_reducible refine (C1.out _).mono ?_; rintro e w' ⟨rfl, rfl⟩) | (with_reducible refine (C2.out _).mono ?_; rintro e w' ⟨rfl, rfl⟩)) | (go_at_call 132; refine (CW.out _ _).mono ?_; rintro e w' ⟨rfl, rfl⟩) | (go_at_call 134; refine (CN.out _ _).mono ?_; rintro e w' ⟨rfl, rfl⟩) | (go_at_call 110; refine (CP.out _ _ _ _).mono ?_; rintro e w' ⟨rfl, rfl⟩) | (go_at_call 133; refine (CB.out _ _ _ _).mono ?_; rintro e w' ⟨rfl, rfl⟩))
    go_ret
    exact ⟨ret_i (by rw [← HR.out, shl_keep hra hk16]; show _ = wrB _ (a * 2 ^ shB _ b); rw [HK.out]), xq.below⟩
  · rw [h2] at hsa hsb
    clear h2 hbi
    have HT := hid h1
    clear h1
    go_enter Tryz.func90, Tryz.ntmps90
    go_wp2
    refine wp_region_calm (by kernel_rfl) (by kernel_rfl) ?_
    repeat (go_big_quiet_step (fail))
    refine wpQuiet_nil ?_
    intro _ hw'
    obtain ⟨xq, hw''⟩ := hw'
    subst hw''
    go_wp2_with (first | (go_at_call 131; first | (with_reducible refine (C1.out _).mono ?_; rintro e w' ⟨rfl, rfl⟩) | (with_reducible refine (C2.out _).mono ?_; rintro e w' ⟨rfl, rfl⟩)) | (go_at_call 132; refine (CW.out _ _).mono ?_; rintro e w' ⟨rfl, rfl⟩) | (go_at_call 134; refine (CN.out _ _).mono ?_; rintro e w' ⟨rfl, rfl⟩) | (go_at_call 110; refine (CP.out _ _ _ _).mono ?_; rintro e w' ⟨rfl, rfl⟩) | (go_at_call 133; refine (CB.out _ _ _ _).mono ?_; rintro e w' ⟨rfl, rfl⟩))
    go_ret
    exact ⟨ret_i (by rw [← HR.out, shl_keep hra hk16]; show _ = wrB _ (a * 2 ^ shB _ b); rw [HK.out]), xq.below⟩
  · rw [h2] at hsa hsb
    clear h2 hbi
    have HT := hid h1
    clear h1
    go_enter Tryz.func90, Tryz.ntmps90
    go_wp2
    refine wp_region_calm (by kernel_rfl) (by kernel_rfl) ?_
    repeat (go_big_quiet_step (fail))
    refine wpQuiet_nil ?_
    intro _ hw'
    obtain ⟨xq, hw''⟩ := hw'
    subst hw''
    go_wp2_with (first | (go_at_call 131; first | (with_reducible refine (C1.out _).mono ?_; rintro e w' ⟨rfl, rfl⟩) | (with_reducible refine (C2.out _).mono ?_; rintro e w' ⟨rfl, rfl⟩)) | (go_at_call 132; refine (CW.out _ _).mono ?_; rintro e w' ⟨rfl, rfl⟩) | (go_at_call 134; refine (CN.out _ _).mono ?_; rintro e w' ⟨rfl, rfl⟩) | (go_at_call 110; refine (CP.out _ _ _ _).mono ?_; rintro e w' ⟨rfl, rfl⟩) | (go_at_call 133; refine (CB.out _ _ _ _).mono ?_; rintro e w' ⟨rfl, rfl⟩))
    go_ret
    exact ⟨ret_i (by rw [← HR.out, shl_keep hra hk16]; show _ = wrB _ (a * 2 ^ shB _ b); rw [HK.out]), xq.below⟩
set_option maxRecDepth 100000 in
theorem i_res16 (bi a b : Int) (w : World) (ha : wordB bi a = true) (hb : wordB bi b = true) :
    Calls Tryz.prog 90 #[.int .i64 16, .int .i64 bi, .int .i64 a, .int .i64 b] w fun e w' => e = .returned (.int .i64 (resZ 16 bi a b)) ∧ Below w.heap.size w w' := by
  have hbi : bitsB bi = true := by simp only [wordB, Bool.and_eq_true] at ha; exact ha.1
  have C1 := hid (fun W => i_signedOf bi a W ha)
  have C2 := hid (fun W => i_signedOf bi b W hb)
  have CW := hid (fun n W => i_wrapped bi n W hbi)
  have CN := hid (fun n W => i_nearest bi n W hbi)
  have CP := hid (fun p x y W => i_pick p x y W)
  have CB := hid (fun n x y W => i_bounded n x y W)
  have hk := tmod_sh hb
  have hk16 := shB_lt b hbi
  have hra := wordB_range ha
  have hrb := wordB_range hb
  have hsa := sgB_range ha
  have hsb := sgB_range hb
  generalize hR : resZ 16 bi a b = R
  have HR := hid hR
  clear hR
  generalize hK : shB bi b = kk at hk hk16
  have HK := hid hK
  have HTA := hid (show a ≤ top bi by simp only [wordB, Bool.and_eq_true, inB_iff] at ha; exact ha.2.2)
  clear hK ha hb
  rcases top_or hbi with ⟨rfl, h1, h2⟩ | ⟨rfl, h1, h2⟩ | ⟨rfl, h1, h2⟩
  · rw [h2] at hsa hsb
    clear h2 hbi
    have HT := hid h1
    clear h1
    go_enter Tryz.func90, Tryz.ntmps90
    go_wp2
    refine wp_region_calm (by kernel_rfl) (by kernel_rfl) ?_
    repeat (go_big_quiet_step (fail))
    refine wpQuiet_nil ?_
    intro _ hw'
    obtain ⟨xq, hw''⟩ := hw'
    subst hw''
    go_wp2_with (first | (go_at_call 131; first | (with_reducible refine (C1.out _).mono ?_; rintro e w' ⟨rfl, rfl⟩) | (with_reducible refine (C2.out _).mono ?_; rintro e w' ⟨rfl, rfl⟩)) | (go_at_call 132; refine (CW.out _ _).mono ?_; rintro e w' ⟨rfl, rfl⟩) | (go_at_call 134; refine (CN.out _ _).mono ?_; rintro e w' ⟨rfl, rfl⟩) | (go_at_call 110; refine (CP.out _ _ _ _).mono ?_; rintro e w' ⟨rfl, rfl⟩) | (go_at_call 133; refine (CB.out _ _ _ _).mono ?_; rintro e w' ⟨rfl, rfl⟩))
    go_ret
    exact ⟨ret_i (by rw [← HR.out]; show _ = a / 2 ^ shB _ b; rw [HK.out]), xq.below⟩
  · rw [h2] at hsa hsb
    clear h2 hbi
    have HT := hid h1
    clear h1
    go_enter Tryz.func90, Tryz.ntmps90
    go_wp2
    refine wp_region_calm (by kernel_rfl) (by kernel_rfl) ?_
    repeat (go_big_quiet_step (fail))
    refine wpQuiet_nil ?_
    intro _ hw'
    obtain ⟨xq, hw''⟩ := hw'
    subst hw''
    go_wp2_with (first | (go_at_call 131; first | (with_reducible refine (C1.out _).mono ?_; rintro e w' ⟨rfl, rfl⟩) | (with_reducible refine (C2.out _).mono ?_; rintro e w' ⟨rfl, rfl⟩)) | (go_at_call 132; refine (CW.out _ _).mono ?_; rintro e w' ⟨rfl, rfl⟩) | (go_at_call 134; refine (CN.out _ _).mono ?_; rintro e w' ⟨rfl, rfl⟩) | (go_at_call 110; refine (CP.out _ _ _ _).mono ?_; rintro e w' ⟨rfl, rfl⟩) | (go_at_call 133; refine (CB.out _ _ _ _).mono ?_; rintro e w' ⟨rfl, rfl⟩))
    go_ret
    exact ⟨ret_i (by rw [← HR.out]; show _ = a / 2 ^ shB _ b; rw [HK.out]), xq.below⟩
  · rw [h2] at hsa hsb
    clear h2 hbi
    have HT := hid h1
    clear h1
    go_enter Tryz.func90, Tryz.ntmps90
    go_wp2
    refine wp_region_calm (by kernel_rfl) (by kernel_rfl) ?_
    repeat (go_big_quiet_step (fail))
    refine wpQuiet_nil ?_
    intro _ hw'
    obtain ⟨xq, hw''⟩ := hw'
    subst hw''
    go_wp2_with (first | (go_at_call 131; first | (with_reducible refine (C1.out _).mono ?_; rintro e w' ⟨rfl, rfl⟩) | (with_reducible refine (C2.out _).mono ?_; rintro e w' ⟨rfl, rfl⟩)) | (go_at_call 132; refine (CW.out _ _).mono ?_; rintro e w' ⟨rfl, rfl⟩) | (go_at_call 134; refine (CN.out _ _).mono ?_; rintro e w' ⟨rfl, rfl⟩) | (go_at_call 110; refine (CP.out _ _ _ _).mono ?_; rintro e w' ⟨rfl, rfl⟩) | (go_at_call 133; refine (CB.out _ _ _ _).mono ?_; rintro e w' ⟨rfl, rfl⟩))
    go_ret
    exact ⟨ret_i (by rw [← HR.out]; show _ = a / 2 ^ shB _ b; rw [HK.out]), xq.below⟩
set_option maxRecDepth 100000 in
theorem i_res17 (bi a b : Int) (w : World) (ha : wordB bi a = true) (hb : wordB bi b = true) :
    Calls Tryz.prog 90 #[.int .i64 17, .int .i64 bi, .int .i64 a, .int .i64 b] w fun e w' => e = .returned (.int .i64 (resZ 17 bi a b)) ∧ Below w.heap.size w w' := by
  have hbi : bitsB bi = true := by simp only [wordB, Bool.and_eq_true] at ha; exact ha.1
  have C1 := hid (fun W => i_signedOf bi a W ha)
  have C2 := hid (fun W => i_signedOf bi b W hb)
  have CW := hid (fun n W => i_wrapped bi n W hbi)
  have CN := hid (fun n W => i_nearest bi n W hbi)
  have CP := hid (fun p x y W => i_pick p x y W)
  have CB := hid (fun n x y W => i_bounded n x y W)
  have hk := tmod_sh hb
  have hk16 := shB_lt b hbi
  have hra := wordB_range ha
  have hrb := wordB_range hb
  have hsa := sgB_range ha
  have hsb := sgB_range hb
  generalize hR : resZ 17 bi a b = R
  have HR := hid hR
  clear hR
  generalize hK : shB bi b = kk at hk hk16
  have HK := hid hK
  have HTA := hid (show a ≤ top bi by simp only [wordB, Bool.and_eq_true, inB_iff] at ha; exact ha.2.2)
  clear hK ha hb
  rcases top_or hbi with ⟨rfl, h1, h2⟩ | ⟨rfl, h1, h2⟩ | ⟨rfl, h1, h2⟩
  · rw [h2] at hsa hsb
    clear h2 hbi
    have HT := hid h1
    clear h1
    go_enter Tryz.func90, Tryz.ntmps90
    go_wp2
    refine wp_region_calm (by kernel_rfl) (by kernel_rfl) ?_
    repeat (go_big_quiet_step (fail))
    refine wpQuiet_nil ?_
    intro _ hw'
    obtain ⟨xq, hw''⟩ := hw'
    subst hw''
    go_wp2_with (first | (go_at_call 131; first | (with_reducible refine (C1.out _).mono ?_; rintro e w' ⟨rfl, rfl⟩) | (with_reducible refine (C2.out _).mono ?_; rintro e w' ⟨rfl, rfl⟩)) | (go_at_call 132; refine (CW.out _ _).mono ?_; rintro e w' ⟨rfl, rfl⟩) | (go_at_call 134; refine (CN.out _ _).mono ?_; rintro e w' ⟨rfl, rfl⟩) | (go_at_call 110; refine (CP.out _ _ _ _).mono ?_; rintro e w' ⟨rfl, rfl⟩) | (go_at_call 133; refine (CB.out _ _ _ _).mono ?_; rintro e w' ⟨rfl, rfl⟩))
    go_ret
    exact ⟨ret_i (by rw [← HR.out]; show _ = wrB _ (sgB _ a / 2 ^ shB _ b); rw [HK.out]), xq.below⟩
  · rw [h2] at hsa hsb
    clear h2 hbi
    have HT := hid h1
    clear h1
    go_enter Tryz.func90, Tryz.ntmps90
    go_wp2
    refine wp_region_calm (by kernel_rfl) (by kernel_rfl) ?_
    repeat (go_big_quiet_step (fail))
    refine wpQuiet_nil ?_
    intro _ hw'
    obtain ⟨xq, hw''⟩ := hw'
    subst hw''
    go_wp2_with (first | (go_at_call 131; first | (with_reducible refine (C1.out _).mono ?_; rintro e w' ⟨rfl, rfl⟩) | (with_reducible refine (C2.out _).mono ?_; rintro e w' ⟨rfl, rfl⟩)) | (go_at_call 132; refine (CW.out _ _).mono ?_; rintro e w' ⟨rfl, rfl⟩) | (go_at_call 134; refine (CN.out _ _).mono ?_; rintro e w' ⟨rfl, rfl⟩) | (go_at_call 110; refine (CP.out _ _ _ _).mono ?_; rintro e w' ⟨rfl, rfl⟩) | (go_at_call 133; refine (CB.out _ _ _ _).mono ?_; rintro e w' ⟨rfl, rfl⟩))
    go_ret
    exact ⟨ret_i (by rw [← HR.out]; show _ = wrB _ (sgB _ a / 2 ^ shB _ b); rw [HK.out]), xq.below⟩
  · rw [h2] at hsa hsb
    clear h2 hbi
    have HT := hid h1
    clear h1
    go_enter Tryz.func90, Tryz.ntmps90
    go_wp2
    refine wp_region_calm (by kernel_rfl) (by kernel_rfl) ?_
    repeat (go_big_quiet_step (fail))
    refine wpQuiet_nil ?_
    intro _ hw'
    obtain ⟨xq, hw''⟩ := hw'
    subst hw''
    go_wp2_with (first | (go_at_call 131; first | (with_reducible refine (C1.out _).mono ?_; rintro e w' ⟨rfl, rfl⟩) | (with_reducible refine (C2.out _).mono ?_; rintro e w' ⟨rfl, rfl⟩)) | (go_at_call 132; refine (CW.out _ _).mono ?_; rintro e w' ⟨rfl, rfl⟩) | (go_at_call 134; refine (CN.out _ _).mono ?_; rintro e w' ⟨rfl, rfl⟩) | (go_at_call 110; refine (CP.out _ _ _ _).mono ?_; rintro e w' ⟨rfl, rfl⟩) | (go_at_call 133; refine (CB.out _ _ _ _).mono ?_; rintro e w' ⟨rfl, rfl⟩))
    go_ret
    exact ⟨ret_i (by rw [← HR.out]; show _ = wrB _ (sgB _ a / 2 ^ shB _ b); rw [HK.out]), xq.below⟩
theorem i_result (op bi a b : Int) (w : World) (ho : inB op 0 17 = true) (ha : wordB bi a = true) (hb : wordB bi b = true) :
    Calls Tryz.prog 90 #[.int .i64 op, .int .i64 bi, .int .i64 a, .int .i64 b] w fun e w' => e = .returned (.int .i64 (resZ op bi a b)) ∧ Below w.heap.size w w' := by
  rcases op_or ho with rfl | rfl | rfl | rfl | rfl | rfl | rfl | rfl | rfl | rfl | rfl | rfl | rfl | rfl | rfl | rfl | rfl | rfl
  · exact i_res0 bi a b w ha hb
  · exact i_res1 bi a b w ha hb
  · exact i_res2 bi a b w ha hb
  · exact i_res3 bi a b w ha hb
  · exact i_res4 bi a b w ha hb
  · exact i_res5 bi a b w ha hb
  · exact i_res6 bi a b w ha hb
  · exact i_res7 bi a b w ha hb
  · exact i_res8 bi a b w ha hb
  · exact i_res9 bi a b w ha hb
  · exact i_res10 bi a b w ha hb
  · exact i_res11 bi a b w ha hb
  · exact i_res12 bi a b w ha hb
  · exact i_res13 bi a b w ha hb
  · exact i_res14 bi a b w ha hb
  · exact i_res15 bi a b w ha hb
  · exact i_res16 bi a b w ha hb
  · exact i_res17 bi a b w ha hb
end Go.Proofs.YtnnioicjmlfllaaGreatDoor
set_option linter.unusedVariables false
set_option linter.unusedSimpArgs false
namespace Go.Proofs.YtnnioicjmlfllaaGreatDoor
open Go.RowKit

/-! ### The result's block of a statement that is read -/
theorem results_row_tmp4 {P : Program} {fn : Func} {p u : Tmp} {ty : TypeId} (h : fn.results = #[.cell p ty, .tmp u]) (tmps : Array Value) (w : World) (g : Nat) (t : TypeId) (cs : Array Value) (fr : Nat × Nat) (d : TypeDesc)
    (hp : tmps.getD p undef = .pointer (some ⟨g, 0, none⟩)) (hg : w.heap[g]? = some (.cells cs t fr))
    (hu : P.underlying ty = some d) (hd : (match d with | .struct _ | .array _ _ => true | _ => false) = true) (hi : (P.info? ty).map (·.size) = some cs.size) :
    (results fn tmps).run P w = .ok (.tuple #[.agg cs, tmps.getD u undef]) w := by
  have hp' : tmps[p]?.getD undef = .pointer (some ⟨g, 0, none⟩) := by simpa using hp
  rw [results_cell_tmp h]
  simp [hp', asAddr, run_loadVar_row w g t ty cs fr d hg hu hd hi, Result.andThen]
def RB (W : World) (b : Nat) : Prop := W.heap[b]? = some (.cells #[.int .i64 0, .int .i64 0, .int .i64 0, .int .i64 0] 45)
theorem RB.made (w : World) : RB (w.alloc (.cells #[.int .i64 0, .int .i64 0, .int .i64 0, .int .i64 0] 45)) w.heap.size := heap_alloc_new _ _
theorem RB.below {W W' : World} {b : Nat} (h : RB W b) (hb : Below W.heap.size W W') : RB W' b := by
  unfold RB at *
  refine (hb.block _ ?_).trans h
  by_cases e : b < W.heap.size
  · exact e
  · rw [Array.getElem?_eq_none (by omega)] at h; cases h
theorem RB.at_ {W : World} {b : Nat} (h : RB W b) : W.cell? ⟨b, 0, none⟩ = some (.int .i64 0) ∧ W.cell? ⟨b, 1, none⟩ = some (.int .i64 0) ∧ W.cell? ⟨b, 2, none⟩ = some (.int .i64 0) ∧ W.cell? ⟨b, 3, none⟩ = some (.int .i64 0) ∧ ∀ j, W.frozen? ⟨b, j, none⟩ = false := by
  unfold RB at h
  refine ⟨?_, ?_, ?_, ?_, fun j => frozen_of_row _ _ _ _ _ h⟩ <;> (rw [cell_of_row _ _ _ _ _ _ h]; rfl)
theorem RB.fin {W : World} {b : Nat} (h : RB W b) (o d a s : Int) : ((((W.setCell ⟨b, 0, none⟩ (.int .i64 o)).setCell ⟨b, 1, none⟩ (.int .i64 d)).setCell ⟨b, 2, none⟩ (.int .i64 a)).setCell ⟨b, 3, none⟩ (.int .i64 s)).heap[b]? = some (.cells #[.int .i64 o, .int .i64 d, .int .i64 a, .int .i64 s] 45) := by
  unfold RB at h
  have h3 := heap_setCell_same _ _ 0 _ _ (.int .i64 o) h
  have h4 := heap_setCell_same _ _ 1 _ _ (.int .i64 d) h3
  have h5 := heap_setCell_same _ _ 2 _ _ (.int .i64 a) h4
  have h6 := heap_setCell_same _ _ 3 _ _ (.int .i64 s) h5
  exact h6
theorem RB.fin_below {w W : World} {b : Nat} (h : Below w.heap.size w W) (hb : w.heap.size ≤ b) (o d a s : Int) : Below w.heap.size w ((((W.setCell ⟨b, 0, none⟩ (.int .i64 o)).setCell ⟨b, 1, none⟩ (.int .i64 d)).setCell ⟨b, 2, none⟩ (.int .i64 a)).setCell ⟨b, 3, none⟩ (.int .i64 s)) :=
  bset (bset (bset (bset h hb _) hb _) hb _) hb _
/-- Three texts in a row. -/
structure C3 (W : World) (g : Nat) (t0 t1 t2 : ByteArray) : Prop where
  c0 : W.cell? ⟨g, 0, none⟩ = some (.string t0)
  c1 : W.cell? ⟨g, 1, none⟩ = some (.string t1)
  c2 : W.cell? ⟨g, 2, none⟩ = some (.string t2)
theorem C3.below {W W' : World} {g : Nat} {t0 t1 t2 : ByteArray} (h : C3 W g t0 t1 t2) (hb : Below W.heap.size W W') : C3 W' g t0 t1 t2 := ⟨bcell hb h.c0, bcell hb h.c1, bcell hb h.c2⟩
theorem own3 {w : World} {lo hi : Nat} {v : Value} {p0 p1 p2 : List UInt8} (h : Own w lo hi 9 1 v 3 (strs [p0, p1, p2])) : ∃ g c, v = .slice (some ⟨g, 0, none⟩) 3 c ∧ C3 w g (bstr p0) (bstr p1) (bstr p2) ∧ 3 ≤ c := by
  obtain ⟨A, c, rfl, h1, h2, h3⟩ := Own.shape h
  rcases h3 with ⟨_, h0⟩ | ⟨g, rfl, _, _, hc, _⟩
  · omega
  · exact ⟨g, c, rfl, ⟨by simpa using hc 0 (.string (bstr p0)) rfl, by simpa using hc 1 (.string (bstr p1)) rfl, by simpa using hc 2 (.string (bstr p2)) rfl⟩, h1⟩
set_option maxRecDepth 100000 in
theorem i_readStmt0 (w : World) (s tl tr : ByteArray) (cb : Bool) (n : Nat) (hn : ¬ n = 3) (hn2 : n ≤ 9223372036854775807)
    (C0 : Hid (∀ W, Below w.heap.size w W → Calls Tryz.prog 95 #[.string s, .string { data := #[61] }] W fun e w' => e = .returned (.tuple #[.string tl, .string tr, .bool cb]) ∧ Below W.heap.size W w'))
    (C1 : Hid (∀ W, Below w.heap.size w W → Calls Tryz.prog 43 #[.string tr, .string { data := #[32] }] W fun e w' => ∃ A c, e = .returned (.slice A n c) ∧ Below W.heap.size W w')) :
    Calls Tryz.prog 44 #[.string s] w fun e w' => e = .returned (.tuple #[sv ⟨0, 0, 0, 0⟩, .bool false]) ∧ Below w.heap.size w w' := by
  have HR0 := hid (RB.made w)
  have HB0 := hid (ballocw w (.cells #[.int .i64 0, .int .i64 0, .int .i64 0, .int .i64 0] 45))
  have hne : ((n : Int) != 3) = true := by simp; omega
  clear hn
  go_enter Tryz.func44, Tryz.ntmps44
  go_wp2_with (first
    | (go_at_call 95; go_loud (refine (C0.out _ HB0.out).mono ?_; rintro e w1 ⟨rfl, hb1⟩; have HR1 := hid (HR0.out.below hb1); have HB1 := hid (bthen HB0.out hb1); clear hb1))
    | (go_at_call 43; go_loud (refine (C1.out _ HB1.out).mono ?_; rintro e w2 ⟨A2, c2, rfl, hb2⟩; have HR2 := hid (HR1.out.below hb2); have HB2 := hid (bthen HB1.out hb2); clear hb2; obtain ⟨q0, q1, q2, q3, qf⟩ := HR2.out.at_; have f0 := qf 0; have f1 := qf 1; have f2 := qf 2; have f3 := qf 3; clear qf)))
  refine bodyPost_ret (results_row_tmp4 rfl _ _ w.heap.size 45 #[.int .i64 0, .int .i64 0, .int .i64 0, .int .i64 0] (0, 0) _ rfl (HR2.out.fin 0 0 0 0) Tryz.underlying45 rfl (by kernel_rfl)) rfl ?_
  exact ⟨rfl, RB.fin_below HB2.out (Nat.le_refl _) 0 0 0 0⟩
set_option maxRecDepth 100000 in
theorem i_readStmt3 (w : World) (s tl tr t0 t1 t2 : ByteArray) (cb b1 b2 b3 b4 : Bool) (o d a b : Int)
    (C0 : Hid (∀ W, Below w.heap.size w W → Calls Tryz.prog 95 #[.string s, .string { data := #[61] }] W fun e w' => e = .returned (.tuple #[.string tl, .string tr, .bool cb]) ∧ Below W.heap.size W w'))
    (C1 : Hid (∀ W, Below w.heap.size w W → Calls Tryz.prog 43 #[.string tr, .string { data := #[32] }] W fun e w' => ∃ g c, e = .returned (.slice (some ⟨g, 0, none⟩) 3 c) ∧ C3 w' g t0 t1 t2 ∧ Below W.heap.size W w'))
    (D0 : Hid (∀ W, Below w.heap.size w W → Calls Tryz.prog 73 #[.string tl] W fun e w' => e = .returned (.tuple #[.int .i64 d, .bool b1]) ∧ Below W.heap.size W w'))
    (D1 : Hid (∀ W, Below w.heap.size w W → Calls Tryz.prog 73 #[.string t0] W fun e w' => e = .returned (.tuple #[.int .i64 a, .bool b2]) ∧ Below W.heap.size W w'))
    (D2 : Hid (∀ W, Below w.heap.size w W → Calls Tryz.prog 96 #[.string t1] W fun e w' => e = .returned (.tuple #[.int .i64 o, .bool b3]) ∧ Below W.heap.size W w'))
    (D3 : Hid (∀ W, Below w.heap.size w W → Calls Tryz.prog 73 #[.string t2] W fun e w' => e = .returned (.tuple #[.int .i64 b, .bool b4]) ∧ Below W.heap.size W w')) :
    Calls Tryz.prog 44 #[.string s] w fun e w' => e = .returned (.tuple #[sv ⟨o, d, a, b⟩, .bool (b1 && (b2 && (b3 && b4)))]) ∧ Below w.heap.size w w' := by
  have HR0 := hid (RB.made w)
  have HB0 := hid (ballocw w (.cells #[.int .i64 0, .int .i64 0, .int .i64 0, .int .i64 0] 45))
  cases b1
  rotate_left
  cases b2
  rotate_left
  cases b3
  rotate_left
  cases b4
  all_goals
    go_enter Tryz.func44, Tryz.ntmps44
    go_wp2_with (first
      | (go_at_call 95; go_loud (refine (C0.out _ HB0.out).mono ?_; rintro e w1 ⟨rfl, hb1⟩; have HR1 := hid (HR0.out.below hb1); have HB1 := hid (bthen HB0.out hb1); clear hb1))
      | (go_at_call 43; go_loud (refine (C1.out _ HB1.out).mono ?_; rintro e w2 ⟨g2, c2, rfl, hg2, hb2⟩; have HR2 := hid (HR1.out.below hb2); have HB2 := hid (bthen HB1.out hb2); have HG2 := hid hg2; clear hb2 hg2))
      | (go_at_call 73; go_loud (with_reducible refine (D0.out _ HB2.out).mono ?_; rintro e w3 ⟨rfl, hb3⟩; have HR3 := hid (HR2.out.below hb3); have HB3 := hid (bthen HB2.out hb3); have HG3 := hid (HG2.out.below hb3); have k0 := HG3.out.c0; clear hb3))
      | (go_at_call 73; with_reducible refine (D1.out _ HB3.out).mono ?_; rintro e w4 ⟨rfl, hb4⟩; have HR4 := hid (HR3.out.below hb4); have HB4 := hid (bthen HB3.out hb4); have HG4 := hid (HG3.out.below hb4); have k1 := HG4.out.c1; clear hb4 k0)
      | (go_at_call 96; with_reducible refine (D2.out _ HB4.out).mono ?_; rintro e w5 ⟨rfl, hb5⟩; have HR5 := hid (HR4.out.below hb5); have HB5 := hid (bthen HB4.out hb5); have HG5 := hid (HG4.out.below hb5); have k2 := HG5.out.c2; clear hb5 k1)
      | (go_at_call 73; with_reducible refine (D3.out _ HB5.out).mono ?_; rintro e w6 ⟨rfl, hb6⟩; have HR6 := hid (HR5.out.below hb6); have HB6 := hid (bthen HB5.out hb6); obtain ⟨q0, q1, q2, q3, qf⟩ := HR6.out.at_; have f0 := qf 0; have f1 := qf 1; have f2 := qf 2; have f3 := qf 3; clear hb6 k2 qf))
    refine bodyPost_ret (results_row_tmp4 rfl _ _ w.heap.size 45 #[.int .i64 o, .int .i64 d, .int .i64 a, .int .i64 b] (0, 0) _ rfl (HR6.out.fin o d a b) Tryz.underlying45 rfl (by kernel_rfl)) rfl ?_
    exact ⟨rfl, RB.fin_below HB6.out (Nat.le_refl _) o d a b⟩
theorem valR_num (l : List UInt8) : valR l = .tuple #[.int .i64 (vNum l), .bool (valB l)] := by
  unfold valR vNum
  cases valB l <;> rfl
theorem opR_num (s : ByteArray) : opR s = .tuple #[.int .i64 (oNum s.data.toList), .bool (oB s.data.toList)] := by
  unfold opR oNum oB
  rw [bstr_data]
theorem stmRs_no {l : List UInt8} {ps : List (List UInt8)} (h : ¬ ps.length = 3) : stmRs l ps = (⟨0, 0, 0, 0⟩, false) := by unfold stmRs; rw [if_neg h]
/-- The world is fit for reading texts. -/
structure Fit3 (w : World) : Prop where
  p : Pow w
  a : Asc w
  e : Errs w
  s : w.ShapedOpen Tryz.prog
theorem Fit3.below {w W : World} (h : Fit3 w) (hb : Below w.heap.size w W) : Fit3 W := ⟨h.p.below hb, h.a.below hb, h.e.below hb, shaped_below h.s hb⟩
theorem i_readStmt (w : World) (s : ByteArray) (hs : s.size ≤ 1048576) (hf : Fit3 w) :
    Calls Tryz.prog 44 #[.string s] w fun e w' => e = .returned (.tuple #[sv (stmR s.data.toList).1, .bool (stmR s.data.toList).2]) ∧ Below w.heap.size w w' := by
  have hsz : s.data.toList.length = s.size := by rw [Array.length_toList]; rfl
  have hl1 := cut_len1 s.data.toList 61
  have hl2 := cut_len2 s.data.toList 61
  rw [hsz] at hl1 hl2
  have C0 := hid (fun W (hW : Below w.heap.size w W) => g_Cut W s 61 (shaped_below hf.s hW) hs)
  unfold stmR
  generalize Lib.cut s.data.toList [61] = q at *
  obtain ⟨l, r, c⟩ := q
  simp only at hl1 hl2 C0 ⊢
  have CS := fun W (hW : Below w.heap.size w W) => g_Split W (bstr r) 32 (shaped_below hf.s hW) (by rw [bstr_size]; omega)
  rw [bstr_toList] at CS
  have hml : ∀ p, p ∈ cutL 32 r → p.length ≤ 1048576 := fun p hp => Nat.le_trans (cutL_mem_len hp) (by omega)
  have hcl : (cutL 32 r).length ≤ 9223372036854775807 := by
    have := cutL_len 32 (bstr r)
    rw [bstr_toList, bstr_size] at this
    omega
  generalize cutL 32 r = ps at *
  by_cases h3 : ps.length = 3
  · match ps, h3, CS, hml with
    | [p0, p1, p2], _, CS, hml =>
      have C1 : Hid (∀ W, Below w.heap.size w W → Calls Tryz.prog 43 #[.string (bstr r), .string { data := #[32] }] W fun e w' => ∃ g c, e = .returned (.slice (some ⟨g, 0, none⟩) 3 c) ∧ C3 w' g (bstr p0) (bstr p1) (bstr p2) ∧ Below W.heap.size W w') := hid (fun W hW => (CS W hW).mono (fun e w' hq => by
        obtain ⟨v, rfl, ho, hb⟩ := hq
        obtain ⟨g, c, rfl, h1, _⟩ := own3 ho
        exact ⟨g, c, rfl, h1, hb⟩))
      have RD := fun (x : List UInt8) (hx : x.length ≤ 1048576) => hid (fun W (hW : Below w.heap.size w W) => by
        have := i_ReadDecimal W (bstr x) (by rw [bstr_size]; omega) (hf.p.below hW) (hf.e.below hW)
        rw [bstr_toList, valR_num] at this
        exact this)
      have RO := hid (fun W (hW : Below w.heap.size w W) => by
        have := i_ReadOp W (bstr p1) (hf.a.below hW)
        rw [opR_num, bstr_toList] at this
        exact this)
      exact i_readStmt3 w s (bstr l) (bstr r) (bstr p0) (bstr p1) (bstr p2) c (valB l) (valB p0) (oB p1) (valB p2) (oNum p1) (vNum l) (vNum p0) (vNum p2) C0 C1 (RD l (by omega)) (RD p0 (hml p0 (by simp))) RO (RD p2 (hml p2 (by simp)))
  · rw [stmRs_no h3]
    refine i_readStmt0 w s (bstr l) (bstr r) c ps.length h3 hcl C0 (hid (fun W hW => (CS W hW).mono fun e w' hq => ?_))
    obtain ⟨v, rfl, ho, hb⟩ := hq
    obtain ⟨A, c, rfl, _⟩ := Own.shape ho
    exact ⟨A, c, rfl, hb⟩
end Go.Proofs.YtnnioicjmlfllaaGreatDoor
set_option linter.unusedVariables false
set_option linter.unusedSimpArgs false
namespace Go.Proofs.YtnnioicjmlfllaaGreatDoor
open Go.RowKit


end Go.Proofs.YtnnioicjmlfllaaGreatDoor
set_option linter.unusedVariables false
set_option linter.unusedSimpArgs false
namespace Go.Proofs.YtnnioicjmlfllaaGreatDoor
open Go.RowKit

theorem first_hit (m : UInt8) : ∀ (l : List UInt8), (∀ j : Nat, l[j]? ≠ some m) ∨ ∃ K : Nat, l[K]? = some m ∧ ∀ j : Nat, j < K → l[j]? ≠ some m := by
  intro l
  induction l with
  | nil => left; intro j; simp
  | cons b l ih =>
    by_cases hb : b = m
    · right; exact ⟨0, by simp [hb], fun j hj => absurd hj (by omega)⟩
    · rcases ih with h | ⟨K, h1, h2⟩
      · left
        intro j
        cases j with
        | zero => simpa using hb
        | succ j => simpa using h j
      · right
        refine ⟨K + 1, by simpa using h1, fun j hj => ?_⟩
        cases j with
        | zero => simpa using hb
        | succ j => simpa using h2 j (by omega)
theorem byte_ne {b : UInt8} (h : ¬ b = 61) : ((b.toNat : Int) != 61) = true := by
  have : ¬ b.toNat = 61 := fun z => h (UInt8.toNat_inj.1 (by rw [z]; rfl))
  simp; omega
theorem byte_eq {b : UInt8} (h : b = 61) : ((b.toNat : Int) != 61) = false := by subst h; rfl

end Go.Proofs.YtnnioicjmlfllaaGreatDoor
set_option linter.unusedVariables false
set_option linter.unusedSimpArgs false
namespace Go.Proofs.YtnnioicjmlfllaaGreatDoor
open Go.RowKit

/-- Texts in a row. -/
def Prt (W : World) (g : Nat) (ps : List (List UInt8)) : Prop := ∀ k, k < ps.length → W.cell? ⟨g, k, none⟩ = some (.string (bstr (ptx ps k)))
theorem Prt.below {W W' : World} {g : Nat} {ps : List (List UInt8)} (h : Prt W g ps) (hb : Below W.heap.size W W') : Prt W' g ps := fun k hk => bcell hb (h k hk)
theorem own_prt {w : World} {lo hi : Nat} {v : Value} {ps : List (List UInt8)} (h : Own w lo hi 9 1 v ps.length (strs ps)) (hn : ps ≠ []) : ∃ g c, v = .slice (some ⟨g, 0, none⟩) ps.length c ∧ Prt w g ps ∧ ps.length ≤ c ∧ c ≤ 9223372036854775807 := by
  obtain ⟨A, c, rfl, h1, h2, h3⟩ := Own.shape h
  rcases h3 with ⟨_, h0⟩ | ⟨g, rfl, _, _, hc, _⟩
  · exact absurd (List.length_eq_zero_iff.1 h0) hn
  · refine ⟨g, c, rfl, fun k hk => ?_, h1, h2⟩
    have := hc k (.string (bstr (ptx ps k))) (by unfold strs; rw [List.getElem?_map, ptx_get hk]; rfl)
    simpa using this
def smR (p : List UInt8) : SmV := (stmR p).1
theorem rdL_smR (l : List UInt8) : rdL l = (cutL 59 l).map smR := rfl
theorem i_ValidCodeB (w : World) (A : Option Addr) (c : Nat) (xs : List SmV) (hl : xs.length ≤ 9223372036854775807) (hR : RdC w A xs) :
    Calls Tryz.prog 37 #[.slice A xs.length c] w fun e w' => e = .returned (.bool (codeB xs)) ∧ Below w.heap.size w w' := by
  have hall := areAllC w A c xs 83 #[] (fun k => stmB (sel xs k)) (by omega) hR (enters_of Tryz.func83 (by kernel_rfl) rfl) (fun W hW k hk => i_ValidCode1 W (sel xs k))
  rw [allN_stms] at hall
  clear hR
  unfold codeB
  generalize xs.all stmB = r at hall ⊢
  by_cases h : xs.length ≤ 16
  · have h' : (xs.length : Int) ≤ 16 := by omega
    go_enter Tryz.func37, Tryz.ntmps37
    go_wp2_with fail
    refine hall.mono ?_
    rintro e w1 ⟨rfl, hb1⟩
    go_wp2_with fail
    go_ret
    exact ⟨ret_b (by simp [h]), hb1⟩
  · have h' : ¬ (xs.length : Int) ≤ 16 := by omega
    clear hall
    go_enter Tryz.func37, Tryz.ntmps37
    go_wp2_with fail
    go_ret
    exact ⟨ret_b (by simp [h]), Below.refl _ _⟩
/-- Code and a word are returned. -/
def RetC (w : World) (xs : List SmV) (b : Bool) (e : Ending) (w' : World) : Prop := ∃ v, e = .returned (.tuple #[v, .bool b]) ∧ OC w' w.heap.size w'.heap.size v xs ∧ Below w.heap.size w w'
theorem i_ReadCode0 (w : World) : Calls Tryz.prog 15 #[.string { data := #[] }] w (RetC w [] true) := by
  go_enter Tryz.func15, Tryz.ntmps15
  go_wp2
  go_ret2
  exact ⟨_, rfl, OC.nil _ _ _, Below.refl _ _⟩
set_option maxRecDepth 100000 in
set_option maxHeartbeats 1000000 in
theorem i_ReadCodeM (w : World) (s : ByteArray) (ps : List (List UInt8)) (xs : List SmV) (bb : Bool) (hne : s.toList.isEmpty = false) (hn : ps.length ≤ 1048577)
    (CS : Hid (∀ W, Below w.heap.size w W → Calls Tryz.prog 43 #[.string s, .string { data := #[59] }] W fun e w' => ∃ g c, e = .returned (.slice (some ⟨g, 0, none⟩) ps.length c) ∧ Prt w' g ps ∧ Below W.heap.size W w'))
    (CR : Hid (∀ W k, Below w.heap.size w W → k < ps.length → Calls Tryz.prog 44 #[.string (bstr (ptx ps k))] W fun e w' => e = .returned (.tuple #[sv (smR (ptx ps k)), .bool (stmR (ptx ps k)).2]) ∧ Below W.heap.size W w'))
    (CV : Hid (∀ W A c, RdC W A (ps.map smR) → Calls Tryz.prog 37 #[.slice A ps.length c] W fun e w' => e = .returned (.bool (codeB (ps.map smR))) ∧ Below W.heap.size W w'))
    (CT : Hid (∀ W A c, Below w.heap.size w W → RdC W A (ps.map smR) → codeB (ps.map smR) = true → (∀ k, k < ps.length → (stmR (ptx ps k)).2 = true) → Calls Tryz.prog 42 #[.slice A ps.length c] W fun e w' => e = .returned (.string s) ∧ Below W.heap.size W w'))
    (HB : Hid (∀ k, k < ps.length → (stmR (ptx ps k)).2 = false → xs = [] ∧ bb = false))
    (HF : Hid (codeB (ps.map smR) = false → xs = [] ∧ bb = false))
    (HT : Hid ((∀ k, k < ps.length → (stmR (ptx ps k)).2 = true) → codeB (ps.map smR) = true → xs = ps.map smR ∧ bb = true)) :
    Calls Tryz.prog 15 #[.string s] w (RetC w xs bb) := by
  go_enter Tryz.func15, Tryz.ntmps15
  go_wp2_with (go_at_call 43; go_loud (refine (CS.out _ (Below.refl _ _)).mono ?_; rintro e w1 ⟨g, c1, rfl, hp1, hb1⟩; have HP1 := hid hp1; have HB1 := hid hb1; clear hp1 hb1))
  go_loopg [4, 14] ps.length (fun gg v s14 wr => ∃ k : Nat, k ≤ ps.length ∧ ps.length - k ≤ gg ∧ s14 = .int .i64 k ∧ Aside (∀ j, j < k → (stmR (ptx ps j)).2 = true) ∧ Aside (OC wr w1.heap.size wr.heap.size v ((ps.take k).map smR)) ∧ Aside (Below w1.heap.size w1 wr))
  case atStart => exact ⟨0, Nat.zero_le _, by omega, rfl, fun j hj => absurd hj (Nat.not_lt_zero _), OC.nil _ _ _, Below.refl _ _⟩
  case round =>
    obtain ⟨k, hk, hg, rfl, AL, OW, BW⟩ := hrel
    by_cases hlt : k < ps.length
    · have hc := (HP1.out.below BW.out) k hlt
      have hltz : (k : Int) < (ps.length : Int) := by omega
      have C := hid (CR.out wr k (HB1.out.trans (BW.out.mono HB1.out.size)) hlt)
      have HBk := hid (HB.out k hlt)
      have HTK := hid (ptx_take hlt smR)
      have HALk := hid (fun (h : (stmR (ptx ps k)).2 = true) => (show ∀ j, j < k + 1 → (stmR (ptx ps j)).2 = true from fun j hj => by
        by_cases e : j = k
        · subst e; exact h
        · exact AL.out j (by omega)))
      have HL : Hid (((ps.take k).map smR).length = k) := hid (by simp; omega)
      clear CS CR CV CT HB HF HT AL
      generalize bstr (ptx ps k) = t at *
      generalize (stmR (ptx ps k)).2 = ok at *
      generalize smR (ptx ps k) = y at *
      obtain ⟨yo, yd, ya, yb⟩ := y
      have hlen : ((ps.take k).map smR).length + 1 ≤ 2097152 := by rw [HL.out]; omega
      have HLEN := hid hlen
      clear hlen
      cases ok with
      | false =>
        obtain ⟨rfl, rfl⟩ := HBk.out rfl
        go_wp2_with (go_at_call 44; go_loud (refine C.out.mono ?_; rintro e w2 ⟨rfl, hb2⟩; have HB2 := hid hb2; clear hb2))
        go_ret2
        exact ⟨_, rfl, OC.nil _ _ _, balloc (HB1.out.trans ((bthen BW.out HB2.out).mono HB1.out.size)) _⟩
      | true =>
        go_wp2_with (first
          | (go_at_call 44; go_loud (refine C.out.mono ?_; rintro e w2 ⟨rfl, hb2⟩; have hb3 := bthen hb2 (ballocw w2 (.cells #[.int .i64 yo, .int .i64 yd, .int .i64 ya, .int .i64 yb] 45)); have HO3 := hid ((OC.eqv OW.out (Eqv.of hb3 (Nat.le_refl _))).wide (Nat.le_refl _) hb3.size); have HB3 := hid (bthen BW.out hb3); have HZ3 := hid HB3.out.size; clear hb2 hb3))
          | (at_builtin; go_loud (refine wp_appendC w1.heap.size rfl _ _ rfl u4 ((ps.take k).map smR) yo yd ya yb (w2.heap.size + 1) (by simp) rfl rfl HO3.out HZ3.out HLEN.out ?_; intro v4 w4 hown4 hbel4; have HO4 := hid hown4; have HB4 := hid (HB3.out.trans hbel4); clear hown4 hbel4)))
        go_roundg (ps.length - (k + 1))
        case measure => omega
        case rel => exact ⟨k + 1, by omega, by omega, by go_num, HALk.out (by first | rfl | trivial), by rw [HTK.out]; exact HO4.out, HB4.out⟩
    · obtain rfl : k = ps.length := by omega
      have OW' := hid OW.out
      rw [List.take_length] at OW'
      obtain ⟨A, c, rfl, _, _, hR⟩ := OW'.out.shp
      have CV' := hid (CV.out wr A c hR)
      have CT' := hid (fun W (hW : Below wr.heap.size wr W) h => CT.out W A c (HB1.out.trans ((bthen BW.out hW).mono HB1.out.size)) (hR.below hW) h AL.out)
      have HT' := hid (HT.out AL.out)
      have hltz : ¬ (ps.length : Int) < (ps.length : Int) := by omega
      rw [List.length_map] at OW'
      clear CV CT HT HB CS CR OW hR AL
      cases hv : codeB (ps.map smR) with
      | false =>
        rw [hv] at CV'
        obtain ⟨rfl, rfl⟩ := HF.out hv
        clear CT' HT' hv HF
        go_wp2_with (go_at_call 37; go_loud (refine CV'.out.mono ?_; rintro e w2 ⟨rfl, hb2⟩; have HB2 := hid hb2; clear hb2))
        go_ret2
        exact ⟨_, rfl, OC.nil _ _ _, HB1.out.trans ((bthen BW.out HB2.out).mono HB1.out.size)⟩
      | true =>
        rw [hv] at CV'
        obtain ⟨rfl, rfl⟩ := HT'.out hv
        have CT2 := hid (fun W hW => CT'.out W hW hv)
        clear CT' HT' hv HF
        go_wp2_with (first
          | (go_at_call 37; go_loud (refine CV'.out.mono ?_; rintro e w2 ⟨rfl, hb2⟩; have HB2 := hid hb2; clear hb2))
          | (go_at_call 42; go_loud (refine (CT2.out _ HB2.out).mono ?_; rintro e w3 ⟨rfl, hb3⟩; have HB3 := hid (bthen HB2.out hb3); clear hb3)))
        go_ret2
        exact ⟨_, rfl, (OC.eqv OW'.out (Eqv.of HB3.out (Nat.le_refl _))).wide HB1.out.size HB3.out.size, HB1.out.trans ((bthen BW.out HB3.out).mono HB1.out.size)⟩
end Go.Proofs.YtnnioicjmlfllaaGreatDoor
set_option linter.unusedVariables false
set_option linter.unusedSimpArgs false
namespace Go.Proofs.YtnnioicjmlfllaaGreatDoor
open Go.RowKit

set_option maxRecDepth 100000 in
theorem g_Clone (w : World) (A : Option Addr) (c : Nat) (xs : List Int) (hl : xs.length ≤ 1048576) (hR : RdI w A xs) :
    Calls Tryz.prog 55 #[.slice A xs.length c] w (RetI w 2 xs) := by
  cases A with
  | none =>
    have hx : xs = [] := by
      cases xs with
      | nil => rfl
      | cons y ys => obtain ⟨b, off, e, _⟩ := hR.get (k := 0) (by simp); cases e
    subst hx
    have he : ∀ w : World, (binOp .eql 27 (.slice none 0 c) (.slice none 0 0)).run Tryz.prog w = .ok (.bool true) w := fun _ => rfl
    clear hR
    go_enter Tryz.func55, Tryz.ntmps55
    go_wp2
    go_ret
    exact ⟨_, rfl, Own.nil _ _ _ _ _, Below.refl _ _⟩
  | some a =>
    have hown := Own.of (World.ownsRow_lit (base := w.heap.size) (e := 2) (size := 1) w #[] 0 (Nat.le_refl _) (by simp [maxLen]) rfl)
    have hb1 := ballocw w (.cells #[] 2)
    have hr1 := hR.below hb1
    have HO := hid hown
    have HR := hid hr1
    have he : ∀ w : World, (binOp .eql 27 (.slice (some a) xs.length c) (.slice none 0 0)).run Tryz.prog w = .ok (.bool false) w := fun _ => rfl
    clear hown hr1 hR
    go_enter Tryz.func55, Tryz.ntmps55
    go_wp2_with (at_builtin; refine wp_appendS w.heap.size rfl _ _ 27 2 (.int .i64 0) 8 rfl Tryz.underlying27 infoInt rfl (.slice (some ⟨w.heap.size, 0, none⟩) 0 0) 0 _ (some a) c xs rfl rfl HO.out HR.out hb1.size (by omega) (by omega) ?_; intro v1 w1 hown1 hbel1)
    go_ret
    refine ⟨_, rfl, ?_, (hb1.mono (Nat.le_refl _)).trans hbel1⟩
    simpa [OwnI] using hown1
end Go.Proofs.YtnnioicjmlfllaaGreatDoor
set_option linter.unusedVariables false
set_option linter.unusedSimpArgs false
namespace Go.Proofs.YtnnioicjmlfllaaGreatDoor
open Go.RowKit

theorem own_cell {w : World} {lo hi g n c : Nat} {e : TypeId} {xs : List Int} (h : Own w lo hi e 1 (.slice (some ⟨g, 0, none⟩) n c) n (ints xs)) {k : Nat} (hk : k < xs.length) :
    w.cell? ⟨g, k, none⟩ = some (.int .i64 (el xs k)) ∧ w.frozen? ⟨g, k, none⟩ = false := by
  obtain ⟨A, c', e', _, _, hs⟩ := Own.shape h
  cases e'
  rcases hs with ⟨h0, _⟩ | ⟨g', hg, h1, _, hc, hf⟩
  · cases h0
  · cases hg
    exact ⟨hc k _ (ints_get hk), hf k⟩
theorem own_put {w : World} {lo hi g n c : Nat} {e : TypeId} {xs : List Int} (h : Own w lo hi e 1 (.slice (some ⟨g, 0, none⟩) n c) n (ints xs)) (k : Nat) (x : Int) :
    Own (w.setCell ⟨g, k, none⟩ (.int .i64 x)) lo hi e 1 (.slice (some ⟨g, 0, none⟩) n c) n (ints (xs.set k x)) := by
  have := Own.set h k (.int .i64 x)
  rwa [ints_set] at this
theorem own_drew {w : World} {lo hi n : Nat} {e : TypeId} {v : Value} {cs : List Value} (h : Own w lo hi e 1 v n cs) : Own w.drew lo hi e 1 v n cs := h.eqv fun _ _ _ => rfl
theorem bdrew {B : Nat} {w W : World} (h : Below B w W) : Below B w W.drew := ⟨h.os, h.tape, h.output, h.size, h.block⟩
theorem htN_step {ts : List TaskV} {j : Nat} (h : j < ts.length) : htN ts (ts.length - j) = ndN ((htN ts (ts.length - (j + 1))).set j (el (htN ts (ts.length - (j + 1))) j + (tel ts j).lat)) j (tel ts j).needs (tel ts j).needs.length := by
  rw [show ts.length - j = ts.length - (j + 1) + 1 from by omega]
  simp only [htN]
  rw [show ts.length - (ts.length - (j + 1) + 1) = j from by omega]

end Go.Proofs.YtnnioicjmlfllaaGreatDoor
set_option linter.unusedVariables false
set_option linter.unusedSimpArgs false
namespace Go.Proofs.YtnnioicjmlfllaaGreatDoor
open Go.RowKit

/-! ### Rows that are appended one at a time -/
/-- A slice of the call's own is what it was where its own block is. -/
theorem own_blk {w w' : World} {lo hi : Nat} {e : TypeId} {size : Nat} {v : Value} {n : Nat} {cs : List Value} (h : Own w lo hi e size v n cs) (hq : ∀ k, v.ownBlock = some k → w'.heap[k]? = w.heap[k]?) : Own w' lo hi e size v n cs := by
  refine ⟨⟨h.1.1, ?_⟩, h.2⟩
  rcases h.1.2 with hn | ⟨g, cap, cur, rfl, hb, hgg, rest⟩
  · exact .inl hn
  · exact .inr ⟨g, cap, cur, rfl, hb, (hq g rfl).trans hgg, rest⟩
/-- .. and owns it in a narrower range. -/
theorem own_tight {w : World} {lo hi a : Nat} {e : TypeId} {size : Nat} {v : Value} {n : Nat} {cs : List Value} (h : Own w lo hi e size v n cs) (ha : v.ownBlock = some a) : Own w a (a + 1) e size v n cs := by
  refine ⟨⟨h.1.1, ?_⟩, fun k hk => by rw [ha] at hk; cases hk; omega⟩
  rcases h.1.2 with hn | ⟨g, cap, cur, rfl, hb, rest⟩
  · exact .inl hn
  · simp only [Value.ownBlock] at ha
    obtain rfl : g = a := by simpa using ha
    exact .inr ⟨g, cap, cur, rfl, Nat.le_refl _, rest⟩
theorem own_at {w : World} {lo hi a : Nat} {e : TypeId} {size : Nat} {v : Value} {n : Nat} {cs : List Value} (h : Own w lo hi e size v n cs) (ha : v.ownBlock = some a) : lo ≤ a ∧ a < hi ∧ a < w.heap.size := by
  refine ⟨?_, h.2 a ha, (h.1.lt a ha).2⟩
  rcases h.1.2 with ⟨rfl, _⟩ | ⟨g, cap, cur, rfl, hb, _⟩
  · simp [Value.ownBlock] at ha
  · simp [Value.ownBlock] at ha; omega
theorem rw_snoc (xss : List (List Int)) (row : List Int) (k : Nat) (hk : k < xss.length) : rw_ (xss ++ [row]) k = rw_ xss k := by
  unfold rw_; rw [List.getD_eq_getElem?_getD, List.getD_eq_getElem?_getD, List.getElem?_append_left hk]
theorem rw_last (xss : List (List Int)) (row : List Int) : rw_ (xss ++ [row]) xss.length = row := by
  unfold rw_; rw [List.getD_eq_getElem?_getD]; simp
/-- A function that is u at n. -/
def upd (f : Nat → Value) (n : Nat) (u : Value) : Nat → Value := fun i => if i = n then u else f i
theorem upd_at (f : Nat → Value) (n : Nat) (u : Value) : upd f n u n = u := if_pos rfl
theorem upd_ne (f : Nat → Value) {n i : Nat} (u : Value) (h : i ≠ n) : upd f n u i = f i := if_neg h
theorem range_snoc (f : Nat → Value) (n : Nat) (u : Value) : (List.range n).map f ++ [u] = (List.range (n + 1)).map (upd f n u) := by
  rw [List.range_succ, List.map_append]
  simp only [List.map_cons, List.map_nil, upd_at]
  congr 1
  exact List.map_congr_left fun i hi => by rw [upd_ne f u (by have := List.mem_range.1 hi; omega)]
theorem OR.nil (w : World) (lo hi : Nat) : OR w lo hi (.slice none 0 0) [] := ⟨fun _ => .slice none 0 0, Own.nil _ _ _ _ _, fun k hk => absurd hk (Nat.not_lt_zero _), fun i j a b _ hj => absurd hj (Nat.not_lt_zero _), fun k a b hk => absurd hk (Nat.not_lt_zero _)⟩
theorem OR.wide {w : World} {lo hi lo' hi' : Nat} {v : Value} {xss : List (List Int)} (h : OR w lo hi v xss) (h1 : lo' ≤ lo) (h2 : hi ≤ hi') : OR w lo' hi' v xss := by
  obtain ⟨f, a, b, c, d⟩ := h
  exact ⟨f, a.wide h1 h2, fun k hk => Own.wide (b k hk) h1 h2, c, d⟩
theorem infoRow : (Tryz.prog.info? 27).map (fun i => (i.zero, i.size, i.bytes)) = some (some (.slice none 0 0), 1, 24) := by kernel_rfl
theorem wp_appendR {ops : Array Oper} {rest : List Oper} {o : Oper} {a : Act} {Q : Exit → Act → World → Prop} {W : World} (lo B : Nat) (hgd : o.guard = none) (s x : Operand)
    (ho : o.op = .call { callee := .builtin .append, args := #[s, x], argTypes := #[35, 35] })
    (v : Value) (yss : List (List Int)) (A : Option Addr) (c : Nat) (row : List Int) (hs : a.eval s = v) (hx : a.eval x = .slice (some ⟨W.heap.size, 0, none⟩) 1 1)
    (HO : OR W lo B v yss) (HU : OI W B W.heap.size (.slice A row.length c) row) (hlo : lo ≤ B) (hB : B ≤ W.heap.size) (hl : yss.length + 1 ≤ 1048576)
    (h : ∀ v1 w1, OR w1 lo w1.heap.size v1 (yss ++ [row]) → Below lo W w1 → wpList Tryz.prog ops Q rest (a.put o.dst v1) w1) :
    wpList Tryz.prog ops Q (o :: rest) a (W.alloc (.cells #[.slice A row.length c] 27)) := by
  obtain ⟨f, ho1, ho2, ho3, ho4⟩ := HO
  obtain ⟨i0, hi, hzz⟩ := Option.map_eq_some_iff.1 infoRow
  simp only [Prod.mk.injEq] at hzz
  obtain ⟨hz0, hz1, hz2⟩ := hzz
  refine wpList_append_own_at (W.alloc (.cells #[.slice A row.length c] 27)) hgd s x 35 ho lo 27 i0 (.slice none 0 0) 1 24 Tryz.underlying35 hi hz0 hz1 hz2 rfl (by omega) v yss.length _ hs (ho1.1.alloc _) ⟨W.heap.size, 0, none⟩ 1 1 [.slice A row.length c] hx rfl
    (cell_one_new _ _ _) (by intro u hu; simp at hu; subst hu; rfl) (by simp only [maxLen]; omega) (by omega) (by simp; omega) ?_
  intro v1 w1 hown hg _ hblk
  have hsz := hg.size
  simp only [World.alloc] at hsz
  have hsz' : W.heap.size + 1 ≤ w1.heap.size := by simpa using hsz
  have hbl : Below lo W w1 := by
    refine ((Below.refl lo W).alloc (by omega) _).grown hg (by simp; omega) ?_
    intro k hk
    exact (ho1.1.lt k hk).1
  have hkeep : ∀ k, k < W.heap.size → v.ownBlock ≠ some k → w1.heap[k]? = W.heap[k]? := fun k hk hn => by
    rw [hg.block k (by simp; omega) (Ne.symm hn)]
    exact heap_alloc_old _ _ hk
  have hv1 : ∀ k, v1.ownBlock = some k → v.ownBlock = some k ∨ k = W.heap.size + 1 := fun k hk => by
    rcases hblk with e | e
    · exact .inl (by rw [← e]; exact hk)
    · rw [e] at hk; cases hk; right; simp
  refine h v1 w1 ⟨upd f yss.length (.slice A row.length c), ?_, ?_, ?_, ?_⟩ hbl
  · rw [List.length_append, List.length_singleton, ← range_snoc]
    exact Own.of hown
  · intro k hk
    rw [List.length_append, List.length_singleton] at hk
    by_cases e : k = yss.length
    · subst e
      rw [upd_at, rw_last]
      refine Own.wide (own_blk HU fun j hj => hkeep j (own_at HU hj).2.1 fun hv => ?_) hlo (by omega)
      have := (own_at ho1 hv).2.1
      have := (own_at HU hj).1
      omega
    · rw [upd_ne _ _ e, rw_snoc _ _ _ (by omega)]
      have hk' : k < yss.length := by omega
      exact Own.wide (own_blk (ho2 k hk') fun j hj => hkeep j (by have := (own_at (ho2 k hk') hj).2.1; omega) fun hv => ho4 k j j hk' hv hj rfl) (Nat.le_refl _) (by omega)
  · intro i j a b hij hj ha hb
    rw [List.length_append, List.length_singleton] at hj
    rw [upd_ne _ _ (by omega)] at ha
    by_cases e : j = yss.length
    · rw [e, upd_at] at hb
      have := (own_at (ho2 i (by omega)) ha).2.1
      have := (own_at HU hb).1
      omega
    · rw [upd_ne _ _ e] at hb
      exact ho3 i j a b hij (by omega) ha hb
  · intro k a b hk ha hb
    rw [List.length_append, List.length_singleton] at hk
    by_cases e : k = yss.length
    · rw [e, upd_at] at hb
      have h2 := own_at HU hb
      rcases hv1 a ha with e1 | e1
      · have := (own_at ho1 e1).2.1; omega
      · omega
    · rw [upd_ne _ _ e] at hb
      have h2 := own_at (ho2 k (by omega)) hb
      rcases hv1 a ha with e1 | e1
      · exact ho4 k a b (by omega) e1 hb
      · omega
end Go.Proofs.YtnnioicjmlfllaaGreatDoor
set_option linter.unusedVariables false
set_option linter.unusedSimpArgs false
namespace Go.Proofs.YtnnioicjmlfllaaGreatDoor
open Go.RowKit

/-! ### A region that draws its order: its first n operations read or call (what was there stays), those behind them come in their order -/
section
variable {P : Program} {ops : Array Oper} {md : Region.Mode} {C : World → Prop}
def calmL (P : Program) (md : Region.Mode) (ops : Array Oper) (C : World → Prop) (n : Nat) (L : Array Bool → Act → Prop) : Nat → Array Bool → Act → Prop
  | 0, ls, a => L ls a
  | f + 1, ls, a => Region.ready md ops ls ≠ [] ∧ ∀ i ∈ Region.ready md ops ls, i < n ∧ qOp P ops C i (calmL P md ops C n L f (ls.setIfInBounds i true)) a
theorem calmL_any {n g : Nat} {L : Array Bool → Act → Prop} {Q : Exit → Act → World → Prop} (hL : ∀ ls a w, C w → L ls a → wpAny P md ops Q g ls a w) :
    ∀ (f : Nat) (ls : Array Bool) (a : Act) (w : World), C w → calmL P md ops C n L f ls a → wpAny P md ops Q (f + g) ls a w := by
  intro f
  induction f with
  | zero => intro ls a w hw h; rw [Nat.zero_add]; exact hL _ _ _ hw h
  | succ f ih =>
    intro ls a w hw h
    rw [show f + 1 + g = (f + g) + 1 by omega]
    exact ⟨fun h0 => absurd h0 h.1, fun i hi => wpOp_of_qOp hw (fun a' w' hw' h' => ih _ a' w' hw' h') (h.2 i hi).2⟩
theorem calmL_first {n i : Nat} {oi : Oper} {v : Value} {L : Array Bool → Act → Prop} (hi : ops[i]? = some oi) (hsel : ∀ (j : Nat) (o : Oper) cs b, ops[j]? = some o → o.op ≠ .select cs b)
    (hs : Region.sinkB md ops n = true) (hc : Region.chainB md ops n = true) (hn : n < ops.size) (hin : i < n) (hdone : ∀ ls a, L ls a → ∀ j ∈ Region.ready md ops ls, n ≤ j) :
    ∀ (f : Nat) (ls : Array Bool) (a : Act), HeadInv md ops n ls →
      (∀ j oj, ops[j]? = some oj → j ≠ i → ls.getD j true = false → (∀ e ∈ oj.after, Region.binds md e = true → e.on ≠ i) → oi.apart ops oj = true) →
      i ∈ Region.ready md ops ls → YieldsIn P ops C oi v a → calmL P md ops C n L f (ls.setIfInBounds i true) (a.put oi.dst v) → calmL P md ops C n L (f + 1) ls a := by
  intro f
  induction f with
  | zero =>
    intro ls a inv _ hr hy H
    refine ⟨fun h => (by rw [h] at hr; cases hr), fun j hj => ?_⟩
    have hjn : j < n := Nat.lt_of_not_le fun h => tail_waits hs hc hn inv _ i rfl hin (mem_ready.1 hr).1 j h hj
    refine ⟨hjn, ?_⟩
    by_cases e : j = i
    · subst e; exact hy.qOp hi H
    · exact absurd (hdone _ _ H j (ready_mono hj e)) (Nat.not_le_of_lt hjn)
  | succ f ih =>
    intro ls a inv hfree hr hy H
    have hun := (mem_ready.1 hr).1
    refine ⟨fun h => (by rw [h] at hr; cases hr), fun j hj => ?_⟩
    have hjn : j < n := Nat.lt_of_not_le fun h => tail_waits hs hc hn inv _ i rfl hin hun j h hj
    refine ⟨hjn, ?_⟩
    by_cases e : j = i
    · subst e; exact hy.qOp hi H
    · obtain ⟨hju, oj, hoj, hall⟩ := mem_ready.1 hj
      have hno : ∀ e ∈ oj.after, Region.binds md e = true → e.on ≠ i := fun x hx hb hq => by
        have h1 := hall x hx hb
        rw [hq, getD_both hun] at h1; cases h1
      refine qOp_mono (fun a' h3 => ih (ls.setIfInBounds j true) a' (inv.set hj hjn) ?_ (ready_mono hr (Ne.symm e)) h3.1 ?_)
        (qOp_put hoj (hfree j oj hoj e hju hno) (fun cs b => hsel i oi cs b hi) (fun cs b => hsel j oj cs b hoj) hy (H.2 j (ready_mono hj e)).2)
      · intro k ok hk hki hku hkn
        refine hfree k ok hk hki ?_ hkn
        by_cases hjk : j = k
        · subst hjk; exact hju
        · rw [getD_set_ne true hjk] at hku; exact hku
      · rw [Array.setIfInBounds_comm _ _ e]; exact h3.2
theorem calmL_lex {n g : Nat} {Lq : Act → Prop} (hsel : Region.noSelect ops = true) (hs : Region.sinkB md ops n = true) (hc : Region.chainB md ops n = true) (hn : n < ops.size) :
    ∀ (l : List Oper) (k : Nat) (ls : Array Bool) (a : Act), (∀ j, j < l.length → l[j]? = ops[k + j]?) → k + l.length = n → HeadInv md ops n ls →
    Region.lexHead md ops g l.length k ls = true → wpQuiet P ops C Lq l a → calmL P md ops C n (fun ls' a' => Region.seqB md ops g n ls' = true ∧ Lq a') l.length ls a := by
  intro l
  induction l with
  | nil =>
    intro k ls a _ hk _ hB h
    obtain rfl : k = n := by simpa using hk
    exact ⟨by simpa [Region.lexHead] using hB, h⟩
  | cons o l ih =>
    intro k ls a hl hk inv hB h
    have h0 : ops[k]? = some o := by simpa using (hl 0 (by simp)).symm
    simp only [List.length_cons, Region.lexHead, Bool.and_eq_true] at hB
    have hkn : k < n := by simp only [List.length_cons] at hk; omega
    have hr : k ∈ Region.ready md ops ls := by simpa using hB.1.1
    obtain ⟨v, hy, hK⟩ := yieldsIn_of_qOp h0 (show qOp P ops C k (wpQuiet P ops C Lq l) a by unfold qOp; simp only [h0]; exact h)
    exact calmL_first h0 (Region.noSelect_spec hsel) hs hc hn hkn (fun _ _ hL => seqB_ready hL.1) l.length ls a inv (Region.free_spec h0 hB.1.2) hr hy
      (ih (k + 1) _ _ (fun j hj => by have := hl (j + 1) (by simp; omega); simpa [Nat.add_assoc, Nat.add_comm 1 j] using this) (by simp only [List.length_cons] at hk; omega) (inv.set hr hkn) hB.2 hK)
end
theorem wp_region_calm_tail {P : Program} {id : Nat} {Q : Exit → Act → World → Prop} {a : Act} {w : World} {l : List Oper} (n : Nat) (hm : P.follows .mixedOrders = true) (hB : Region.lexTailB .any l.toArray n = true)
    (h : wpQuiet P l.toArray (fun w' => ∃ x : Lat w, w' = x.val) (fun a' => ∀ w', (∃ x : Lat w, w' = x.val) → wpList P l.toArray Q (l.drop n) a' w') (l.take n) a) : (Code.region id l.toArray true).wp P Q a w := by
  simp only [Region.lexTailB, Bool.and_eq_true, decide_eq_true_eq] at hB
  obtain ⟨⟨⟨⟨hsel, hn⟩, hs⟩, hc⟩, hlex⟩ := hB
  have hn' : n < l.length := by simpa using hn
  have htl : (l.take n).length = n := by simp; omega
  have hdl : (l.drop n).length = l.toArray.size - n := by simp
  have inv0 : HeadInv .any l.toArray n (Array.replicate l.toArray.size false) :=
    ⟨by simp, fun j oj _ hl => (by rw [getD_replicate_false] at hl; cases hl), fun t _ ht => getD_in (by simpa using ht) (getD_replicate_false _ _)⟩
  have H := calmL_lex (md := .any) (g := l.toArray.size - n) hsel hs hc hn (l.take n) 0 _ a (fun j hj => by
    have hj' : j < n := by rw [htl] at hj; exact hj
    simp [hj']) (by simpa using htl) inv0 (by rw [htl]; exact hlex) h
  refine wp_region_any hm ?_
  have := calmL_any (Q := Q) (g := l.toArray.size - n) (fun ls a' w' hw' hL => by
    have := wpAny_of_seq (md := .any) (Q' := Q) (l.drop n) n ls a' w' (fun j => by simp [List.getElem?_drop]) (by rw [hdl]; exact hL.1) (hL.2 w' hw')
    rwa [hdl] at this) _ _ _ _ (⟨⟨_, bdrewL w⟩, rfl⟩ : ∃ x : Lat w, ({ w with drawn := w.drawn + 1 } : World) = x.val) H
  rw [htl, show n + (l.toArray.size - n) = l.toArray.size by omega] at this
  exact this
end Go.Proofs.YtnnioicjmlfllaaGreatDoor
set_option linter.unusedVariables false
set_option linter.unusedSimpArgs false
namespace Go.Proofs.YtnnioicjmlfllaaGreatDoor
open Go.RowKit

/-! ### Code that runs -/
theorem runR_take {bi : Int} {cells : List Int} {cs : List SmV} {k : Nat} (h : k < cs.length) : runR bi cells (cs.take (k + 1)) = stpR bi (runR bi cells (cs.take k)) (sel cs k) := by
  rw [sel_take h]; unfold runR; rw [List.foldl_append]; rfl
theorem celB_run {bi : Int} {cs : List SmV} (hc : cs.all stmB = true) : ∀ {cells : List Int}, celB bi cells = true → celB bi (runR bi cells cs) = true := by
  induction cs with
  | nil => intro cells h; exact h
  | cons x r ih =>
    intro cells h
    simp only [List.all_cons, Bool.and_eq_true] at hc
    exact ih hc.2 (celB_step h hc.1)
theorem codeB_take {cs : List SmV} (hc : codeB cs = true) (k : Nat) : (cs.take k).all stmB = true := by
  unfold codeB at hc
  simp only [Bool.and_eq_true, List.all_eq_true] at hc ⊢
  exact fun x hx => hc.2 x (List.mem_of_mem_take hx)
theorem celB_len {bi : Int} {cells : List Int} (h : celB bi cells = true) : cells.length = 32 := by
  unfold celB at h; simp only [Bool.and_eq_true, decide_eq_true_eq] at h; exact h.2.1
theorem keep6 {W W' : World} {p1 p2 p3 p4 p5 p6 : Addr} {v1 v2 v3 v4 v5 v6 : Value} (h : W.cell? p1 = some v1 ∧ W.cell? p2 = some v2 ∧ W.cell? p3 = some v3 ∧ W.cell? p4 = some v4 ∧ W.cell? p5 = some v5 ∧ W.cell? p6 = some v6) (hb : Below W.heap.size W W') :
    W'.cell? p1 = some v1 ∧ W'.cell? p2 = some v2 ∧ W'.cell? p3 = some v3 ∧ W'.cell? p4 = some v4 ∧ W'.cell? p5 = some v5 ∧ W'.cell? p6 = some v6 :=
  ⟨bcell hb h.1, bcell hb h.2.1, bcell hb h.2.2.1, bcell hb h.2.2.2.1, bcell hb h.2.2.2.2.1, bcell hb h.2.2.2.2.2⟩
theorem size_lt {w : World} {g : Nat} (h : g < w.heap.size) {p : Addr} {v : Value} : Aside (g < (w.setCell p v).heap.size) := by unfold Aside; simpa [World.setCell] using h
theorem i_areCells1 (W : World) (B : Nat) (bi x : Int) (hc : W.cell? ⟨B, 0, none⟩ = some (.int .i64 bi)) :
    Calls Tryz.prog 88 #[.int .i64 x, .pointer (some ⟨B, 0, none⟩)] W fun e w' => e = .returned (.bool (wordB bi x)) ∧ Below W.heap.size W w' := by
  have hd := i_IsWord bi x W
  go_enter Tryz.func88, Tryz.ntmps88
  go_wp2_with (go_at_call 89; refine hd.mono ?_; rintro e w' ⟨rfl, rfl⟩)
  go_ret
  exact ⟨rfl, Below.refl _ _⟩
/-- .. of cells that are right. -/
theorem i_areCells (w : World) (bi : Int) (A : Option Addr) (c : Nat) (xs : List Int) (hv : celB bi xs = true) (hR : RdI w A xs) :
    Calls Tryz.prog 38 #[.int .i64 bi, .slice A xs.length c] w fun e w' => e = .returned (.bool true) ∧ Below w.heap.size w w' := by
  have hlen := celB_len hv
  have hb1 : Below w.heap.size w (w.alloc (.cells #[.int .i64 bi] 2)) := ballocw _ _
  have hall := areAllI (w.alloc (.cells #[.int .i64 bi] 2)) A xs.length c (fun k => .int .i64 (el xs k)) 88 #[.pointer (some ⟨w.heap.size, 0, none⟩)] (fun k => wordB bi (el xs k)) (by omega) (hR.below hb1)
    (enters_of Tryz.func88 (by kernel_rfl) rfl) (fun W hW k hk => i_areCells1 W w.heap.size bi (el xs k) ((hW.cell (p := ⟨w.heap.size, 0, none⟩) (by simp)).trans (by simp)))
  rw [allN_ints xs (wordB bi)] at hall
  have CB := i_isBits bi (w.alloc (.cells #[.int .i64 bi] 2))
  unfold celB at hv
  simp only [Bool.and_eq_true] at hv
  rw [hv.2.2] at hall
  rw [hv.1] at CB
  have HALL := hid hall
  have HCB := hid CB
  have HB1 := hid hb1
  have hb : ((xs.length : Int) == 32) = true := by simp; omega
  clear hall CB hb1 hR hv hlen
  go_enter Tryz.func38, Tryz.ntmps38
  go_wp2_with (first
    | (go_at_call 86; refine HCB.out.mono ?_; rintro e w1 ⟨rfl, rfl⟩)
    | (go_at_call 87; refine HALL.out.mono ?_; rintro e w1 ⟨rfl, hb1⟩))
  go_ret
  exact ⟨rfl, bthen HB1.out hb1⟩
set_option maxRecDepth 100000 in
theorem i_run (w : World) (bi : Int) (A A' : Option Addr) (c c' : Nat) (cs : List SmV) (cells : List Int) (hc : codeB cs = true) (hk : celB bi cells = true) (hR : RdC w A cs) (hI : RdI w A' cells) :
    Calls Tryz.prog 39 #[.int .i64 bi, .slice A cs.length c, .slice A' cells.length c'] w (RetI w 2 (runR bi cells cs)) := by
  have hlen := celB_len hk
  have h16 := codeB_len hc
  have CC := hid (g_Clone w A' c' cells (by omega) hI)
  have HC := hid hc
  have HK := hid hk
  have HR := hid hR
  have HLEN := hid hlen
  clear hc hk hR hI hlen
  go_enter Tryz.func39, Tryz.ntmps39
  go_wp2_with fail
  refine CC.out.mono ?_
  rintro e w1 ⟨v, rfl, ho, hb⟩
  obtain ⟨A1, c1, rfl, hc1, hc2, hsh⟩ := Own.shape ho
  rcases hsh with ⟨rfl, h0⟩ | ⟨g, rfl, hg1, hg2, _, _⟩
  · have := HLEN.out; omega
  have HT := hid (own_tight ho rfl)
  have HB := hid hb
  clear ho hb CC
  go_wp2
  go_loopg [14] cs.length (fun gg s wr => ∃ k : Nat, k ≤ cs.length ∧ cs.length - k ≤ gg ∧ s = .int .i64 k ∧ Aside (Below w.heap.size w wr) ∧ Aside (g < wr.heap.size) ∧
    Aside (Own wr g (g + 1) 2 1 (.slice (some ⟨g, 0, none⟩) cells.length c1) cells.length (ints (runR bi cells (cs.take k)))))
  case atStart => exact ⟨0, Nat.zero_le _, by omega, rfl, HB.out, hg2, HT.out⟩
  case round =>
    obtain ⟨k, hk, hg, rfl, BW, GW, OW⟩ := hrel
    obtain ⟨wk, rfl⟩ : ∃ wk : World, wk = wr := ⟨_, rfl⟩
    clear HT HB
    by_cases hlt : k < cs.length
    · obtain ⟨b, off, rfl, hat⟩ := (HR.out.below BW.out).get hlt
      obtain ⟨⟨ho0, ho1⟩, ⟨hd0, hd1⟩, ⟨ha0, ha1⟩, hs0, hs1⟩ := codeB_at HC.out hlt
      have HS := hid (runR_take (bi := bi) (cells := cells) hlt)
      have hKR := celB_run (bi := bi) (codeB_take HC.out k) HK.out
      have hlR := celB_len hKR
      generalize sel cs k = x at *
      obtain ⟨o, d, a, s⟩ := x
      simp only at ho0 ho1 hd0 hd1 ha0 ha1 hs0 hs1
      obtain ⟨d, rfl⟩ := Int.eq_ofNat_of_zero_le hd0
      obtain ⟨a, rfl⟩ := Int.eq_ofNat_of_zero_le ha0
      obtain ⟨s, rfl⟩ := Int.eq_ofNat_of_zero_le hs0
      have c0 := hat.o
      have cd := hat.d
      have ca := hat.a
      have cb := hat.b
      simp only at c0 cd ca cb
      have hw1 := celB_at hKR (k := a) (by omega)
      have hw2 := celB_at hKR (k := s) (by omega)
      unfold stpR at HS
      simp only [Int.toNat_natCast] at HS
      generalize runR bi cells (cs.take k) = R at *
      have CR := hid (fun W => i_result o bi (el R a) (el R s) W (inB_iff.2 ⟨ho0, ho1⟩) hw1 hw2)
      have hba := ballocw wk (.cells #[.int .i64 o, .int .i64 d, .int .i64 a, .int .i64 s] 45)
      have HO1 := OW.out.eqv (Eqv.of hba (hi := g + 1) GW.out)
      obtain ⟨ca1, _⟩ := own_cell HO1 (k := a) (by omega)
      obtain ⟨cs1, _⟩ := own_cell HO1 (k := s) (by omega)
      have HO1 := hid HO1
      have hn32 : cells.length = 32 := HLEN.out
      have ha32 : (a : Int) < (cells.length : Int) := by omega
      have hs32 : (s : Int) < (cells.length : Int) := by omega
      have hd32 : (d : Int) < (cells.length : Int) := by omega
      have HB2 := hid (bthen BW.out hba)
      have HDL : Hid (d < R.length) := hid (by omega)
      have HG3 : Hid (g < (wk.alloc (.cells #[.int .i64 o, .int .i64 d, .int .i64 a, .int .i64 s] 45)).heap.size) := hid (by have := GW.out; have := hba.size; omega)
      have HSA : Hid (SAt (wk.alloc (.cells #[.int .i64 o, .int .i64 d, .int .i64 a, .int .i64 s] 45)) wk.heap.size 0 ⟨o, d, a, s⟩) := hid ⟨by simp, by simp, by simp, by simp⟩
      clear hn32 hlR hKR hw1 hw2 hat OW BW hba hc1 hc2
      generalize resZ o bi (el R a) (el R s) = r at *
      generalize el R a = xa at *
      generalize el R s = xs at *
      have hlt' : (k : Int) < (cs.length : Int) := by omega
      go_wp2
      clear c0 cd ca cb
      generalize wk.alloc (.cells #[.int .i64 o, .int .i64 d, .int .i64 a, .int .i64 s] 45) = W1 at *
      generalize wk.heap.size = B at *
      have p0 := HSA.out.o
      have p1 := HSA.out.d
      have p2 := HSA.out.a
      have p3 := HSA.out.b
      have l0 := lcell p0
      have l1 := lcell p1
      have l2 := lcell p2
      have l3 := lcell p3
      have l4 := lcell ca1
      have l5 := lcell cs1
      clear p0 p1 p2 p3 ca1 cs1 HSA
      refine wp_region_calm_tail 18 (by kernel_rfl) (by kernel_rfl) ?_
      simp only [List.take_succ_cons, List.take_zero, List.drop_succ_cons, List.drop_zero]
      repeat (go_big_quiet_step ((go_at_call 90; exact calm_of (CR.out _))))
      refine wpQuiet_nil ?_
      intro _ hw'
      obtain ⟨xq, hw''⟩ := hw'
      subst hw''
      have HO3 := HO1.out.eqv (Eqv.of xq.below HG3.out)
      obtain ⟨cd3, fd3⟩ := own_cell HO3 HDL.out
      have HO4 := hid (own_put HO3 d r)
      rw [← HS.out] at HO4
      have HB3 := hid (bthen HB2.out xq.below)
      have HG4 : Hid (g < xq.val.heap.size) := hid (Nat.lt_of_lt_of_le HG3.out xq.below.size)
      clear HO3
      go_wp2
      go_roundg (cs.length - (k + 1))
      case measure => omega
      case rel => exact ⟨k + 1, by omega, by omega, by go_num, bset HB3.out (p := ⟨g, d, none⟩) hg1 _, size_lt HG4.out, HO4.out⟩
    · obtain rfl : k = cs.length := by omega
      have hlt' : ¬ ((cs.length : Nat) : Int) < ((cs.length : Nat) : Int) := by omega
      have HO := hid OW.out
      rw [List.take_length] at HO
      have HB := hid BW.out
      have HG := hid GW.out
      have hll := runR_len bi cs cells
      have HLL := hid hll
      clear OW BW GW hll
      go_wp2
      go_ret
      refine ⟨_, rfl, ?_, HB.out⟩
      unfold OwnI
      rw [HLL.out]
      exact Own.wide HO.out hg1 HG.out
theorem i_RunCode (w : World) (bi : Int) (A A' : Option Addr) (c c' : Nat) (cs : List SmV) (cells : List Int) (hc : codeB cs = true) (hk : celB bi cells = true) (hR : RdC w A cs) (hI : RdI w A' cells) :
    Calls Tryz.prog 11 #[.int .i64 bi, .slice A cs.length c, .slice A' cells.length c'] w (RetIB w (runR bi cells cs, true)) := by
  have C1 := i_ValidCode w A c cs (by have := codeB_len hc; omega) hR
  rw [hc] at C1
  have C1 := hid C1
  have C2 := hid (fun W (hW : Below w.heap.size w W) => i_areCells W bi A' c' cells hk (hI.below hW))
  have C3 := hid (fun W (hW : Below w.heap.size w W) => i_run W bi A A' c c' cs cells hc hk (hR.below hW) (hI.below hW))
  clear hc hk hR hI
  generalize runR bi cells cs = R at *
  go_enter Tryz.func11, Tryz.ntmps11
  go_wp2_with (first
    | (go_at_call 37; refine C1.out.mono ?_; rintro e w1 ⟨rfl, hb1⟩; have HB1 := hid hb1; clear hb1)
    | (go_at_call 38; refine (C2.out _ HB1.out).mono ?_; rintro e w2 ⟨rfl, hb2⟩; have HB2 := hid (bthen HB1.out hb2); clear hb2)
    | (go_at_call 39; refine (C3.out _ HB2.out).mono ?_; rintro e w3 ⟨v3, rfl, ho3, hb3⟩; have HB3 := hid (bthen HB2.out hb3); have HO3 := hid ho3; clear ho3 hb3))
  go_ret2
  exact ⟨_, rfl, Own.wide HO3.out HB2.out.size (Nat.le_refl _), HB3.out⟩
end Go.Proofs.YtnnioicjmlfllaaGreatDoor
set_option linter.unusedVariables false
set_option linter.unusedSimpArgs false
namespace Go.Proofs.YtnnioicjmlfllaaGreatDoor
open Go.RowKit

theorem rw_take {gs : List (List Int)} {k : Nat} (h : k < gs.length) : gs.take (k + 1) = gs.take k ++ [rw_ gs k] := by
  rw [List.take_add_one]
  congr 1
  unfold rw_
  rw [List.getD_eq_getElem?_getD, List.getElem?_eq_getElem h]; rfl
theorem wp_appendRq {ops : Array Oper} {rest : List Oper} {o : Oper} {a : Act} {Q : Exit → Act → World → Prop} {W : World} (lo B : Nat) (hgd : o.guard = none) (s x : Operand)
    (ho : o.op = .call { callee := .builtin .append, args := #[s, x], argTypes := #[35, 35] })
    (v : Value) (yss : List (List Int)) (A : Option Addr) (c n g : Nat) (row : List Int) (hn : row.length = n) (hg : W.heap.size = g) (hs : a.eval s = v) (hx : a.eval x = .slice (some ⟨g, 0, none⟩) 1 1)
    (HO : OR W lo B v yss) (HU : OI W B W.heap.size (.slice A n c) row) (hlo : lo ≤ B) (hB : B ≤ W.heap.size) (hl : yss.length + 1 ≤ 1048576)
    (h : ∀ v1 w1, OR w1 lo w1.heap.size v1 (yss ++ [row]) → Below lo W w1 → wpList Tryz.prog ops Q rest (a.put o.dst v1) w1) :
    wpList Tryz.prog ops Q (o :: rest) a (W.alloc (.cells #[.slice A n c] 27)) := by
  subst hn
  subst hg
  exact wp_appendR lo B hgd s x ho v yss A c row hs hx HO HU hlo hB hl h
set_option maxRecDepth 100000 in
theorem i_clones (w : World) (G : Option Addr) (c : Nat) (gs : List (List Int)) (hsz : rsz gs ≤ 1048576) (hR : RdR w G gs) :
    Calls Tryz.prog 54 #[.slice G gs.length c] w fun e w' => ∃ v, e = .returned v ∧ OR w' w.heap.size w'.heap.size v gs ∧ Below w.heap.size w w' := by
  have HR := hid hR
  have HSZ := hid hsz
  have hgl : gs.length ≤ 1048576 := rsz_len hsz
  clear hR hsz
  go_enter Tryz.func54, Tryz.ntmps54
  go_wp2
  go_loopg [3, 8] gs.length (fun gg s3 s8 wr => ∃ k : Nat, k ≤ gs.length ∧ gs.length - k ≤ gg ∧ s8 = .int .i64 k ∧ Aside (OR wr w.heap.size wr.heap.size s3 (gs.take k)) ∧ Aside (Below w.heap.size w wr))
  case atStart => exact ⟨0, Nat.zero_le _, by omega, rfl, OR.nil _ _ _, Below.refl _ _⟩
  case round =>
    obtain ⟨k, hk, hg, rfl, OW, BW⟩ := hrel
    by_cases hlt : k < gs.length
    · obtain ⟨b, off, A', cr, rfl, hc, hcl, hri⟩ := HR.out.get hlt
      have hcW := bcell BW.out hc
      have hrl := rsz_row HSZ.out hlt
      have C := hid (g_Clone wr A' cr (rw_ gs k) hrl (hri.below BW.out))
      have HTK := hid (rw_take hlt)
      have hltz : (k : Int) < (gs.length : Int) := by omega
      have HLT : Hid ((gs.take k).length + 1 ≤ 1048576) := hid (by simp; omega)
      clear HR hc hri
      generalize rw_ gs k = g at *
      go_wp2_with (first
        | (go_at_call 55; go_loud (refine C.out.mono ?_; rintro e w2 ⟨v2, rfl, ho2, hb2⟩; obtain ⟨A2, c2, rfl, _, _, _⟩ := Own.int ho2; have HO2 := hid ho2; have HB2 := hid (bthen BW.out hb2); have HW2 := hid (OW.out.eqv (Eqv.of hb2 (Nat.le_refl _))); have HZ2 := hid hb2.size; have HZ0 := hid BW.out.size; clear ho2 hb2))
        | (at_builtin; go_loud (refine wp_appendRq w.heap.size wr.heap.size rfl _ _ rfl u3 (gs.take k) A2 c2 g.length w2.heap.size g rfl rfl rfl rfl HW2.out HO2.out HZ0.out HZ2.out HLT.out ?_; intro v3 w3 ho3 hb3; have HO3 := hid ho3; have HB3 := hid (HB2.out.trans hb3); clear ho3 hb3)))
      go_roundg (gs.length - (k + 1))
      case measure => omega
      case rel => exact ⟨k + 1, by omega, by omega, by go_num, by rw [HTK.out]; exact HO3.out, HB3.out⟩
    · obtain rfl : k = gs.length := by omega
      have hltz : ¬ (gs.length : Int) < (gs.length : Int) := by omega
      go_wp2
      go_ret
      exact ⟨_, rfl, by have := OW.out; rwa [List.take_length] at this, BW.out⟩
end Go.Proofs.YtnnioicjmlfllaaGreatDoor
set_option linter.unusedVariables false
set_option linter.unusedSimpArgs false
namespace Go.Proofs.YtnnioicjmlfllaaGreatDoor
open Go.RowKit

/-! ### Levels, dependences, orders -/
def rowJ (cs : List SmV) (n j i : Nat) : List Int := levL cs j ++ (levM cs (levL cs j) j i :: List.replicate (n - (j + 1)) 0)
theorem rowJ_len {cs : List SmV} {n j i : Nat} (h : j < n) : (rowJ cs n j i).length = n := by simp [rowJ, levL_len]; omega
theorem rowJ_zero {cs : List SmV} {n j : Nat} (h : j < n) : levL cs j ++ List.replicate (n - j) 0 = rowJ cs n j 0 := by
  unfold rowJ
  obtain ⟨d, hd⟩ : ∃ d, n - j = d + 1 := ⟨n - j - 1, by omega⟩
  rw [hd, show n - (j + 1) = d by omega, List.replicate_succ]; rfl
theorem rowJ_done {cs : List SmV} {n j : Nat} : rowJ cs n j j = levL cs (j + 1) ++ List.replicate (n - (j + 1)) 0 := by
  unfold rowJ; rw [show levL cs (j + 1) = levL cs j ++ [levM cs (levL cs j) j j] from rfl]; simp
theorem rowJ_lt {cs : List SmV} {n j i k : Nat} (h : k < j) : el (rowJ cs n j i) k = el (levL cs j) k := by
  unfold rowJ el; rw [List.getD_eq_getElem?_getD, List.getD_eq_getElem?_getD, List.getElem?_append_left (by rw [levL_len]; exact h)]
theorem rowJ_at {cs : List SmV} {n j i : Nat} : el (rowJ cs n j i) j = levM cs (levL cs j) j i := by
  unfold rowJ el; rw [List.getD_eq_getElem?_getD, List.getElem?_append_right (by rw [levL_len]; exact Nat.le_refl _), levL_len]; simp
theorem rowJ_set {cs : List SmV} {n j i : Nat} : (rowJ cs n j i).set j (if folB (sel cs i) (sel cs j) then max (levM cs (levL cs j) j i) (el (levL cs j) i + 1) else levM cs (levL cs j) j i) = rowJ cs n j (i + 1) := by
  unfold rowJ
  rw [List.set_append_right _ _ (by rw [levL_len]; exact Nat.le_refl _), levL_len, Nat.sub_self, List.set_cons_zero]; rfl
theorem rowJ_same {cs : List SmV} {n j i : Nat} (h : folB (sel cs i) (sel cs j) = false) : rowJ cs n j (i + 1) = rowJ cs n j i := by
  unfold rowJ; simp only [levM, h]; rfl
theorem depJ_start (cs : List SmV) (i : Nat) : depJ cs i (i + 1) = [] := by
  have : ∀ m, m ≤ i + 1 → depJ cs i m = [] := by
    intro m
    induction m with
    | zero => intro _; rfl
    | succ m ih => intro h; simp only [depJ]; rw [if_neg (by omega), ih (by omega)]
  exact this _ (Nat.le_refl _)
theorem depJ_few (cs : List SmV) (i n : Nat) : (depJ cs i n).length ≤ n := by rw [depJ_len]; exact depG_le cs i n
theorem i_lengthC (A : Option Addr) (n c : Nat) (w : World) : Calls Tryz.prog 48 #[.slice A n c] w fun e w' => e = .returned (.int .i64 n) ∧ w = w' := by
  go_enter Tryz.func48, Tryz.ntmps48
  go_wp2
  go_ret
  exact ⟨rfl, rfl⟩
theorem lat_stm {w : World} {b off : Nat} {x : SmV} (h : SAt w b off x) (z : Lat w) : z.val.cell? ⟨b, off, none⟩ = some (.int .i64 x.o) ∧ z.val.cell? ⟨b, off + 1, none⟩ = some (.int .i64 x.d) ∧ z.val.cell? ⟨b, off + 2, none⟩ = some (.int .i64 x.a) ∧ z.val.cell? ⟨b, off + 3, none⟩ = some (.int .i64 x.b) :=
  ⟨lcell h.o z, lcell h.d z, lcell h.a z, lcell h.b z⟩
set_option maxRecDepth 100000 in
theorem i_MustFollow (w : World) (A : Option Addr) (c : Nat) (cs : List SmV) (i j : Nat) (hc : codeB cs = true) (hij : i < j) (hj : j < cs.length) (hR : RdC w A cs) :
    Calls Tryz.prog 18 #[.slice A cs.length c, .int .i64 (i : Nat), .int .i64 (j : Nat)] w fun e w' => e = .returned (.bool (folB (sel cs i) (sel cs j))) ∧ Below w.heap.size w w' := by
  have h16 := codeB_len hc
  obtain ⟨b, off, rfl, hat⟩ := hR.at (by omega)
  have qi := fun z => lat_stm (hat i (by omega)) z
  have qj := fun z => lat_stm (hat j hj) z
  have CV : Hid (∀ z : Lat w, Calls Tryz.prog 37 #[.slice (some ⟨b, off, none⟩) cs.length c] z.val fun e w' => e = .returned (.bool true) ∧ Below z.val.heap.size z.val w') := hid (fun z => by
    have := i_ValidCode z.val (some ⟨b, off, none⟩) c cs (by omega) (hR.below z.below)
    rw [hc] at this; exact this)
  have CF := hid (fun W => i_follows W (sel cs i) (sel cs j))
  have CL := hid (fun W => i_lengthC (some ⟨b, off, none⟩) cs.length c W)
  have hi0 : (0 : Int) ≤ (i : Int) := by omega
  have hijz : (i : Int) < (j : Int) := by omega
  have hjz : (j : Int) < (cs.length : Int) := by omega
  have hiz : (i : Int) < (cs.length : Int) := by omega
  clear hR hat hc hij hj
  generalize sel cs i = x at *
  generalize sel cs j = y at *
  generalize folB x y = r at *
  have a0 := fun z => (qi z).1
  have a1 := fun z => (qi z).2.1
  have a2 := fun z => (qi z).2.2.1
  have a3 := fun z => (qi z).2.2.2
  have b0 := fun z => (qj z).1
  have b1 := fun z => (qj z).2.1
  have b2 := fun z => (qj z).2.2.1
  have b3 := fun z => (qj z).2.2.2
  clear qi qj
  obtain ⟨o, d, a, s⟩ := x
  obtain ⟨o', d', a', s'⟩ := y
  simp only at a0 a1 a2 a3 b0 b1 b2 b3
  go_enter Tryz.func18, Tryz.ntmps18
  go_wp2
  refine wp_region_calm (by kernel_rfl) (by kernel_rfl) ?_
  repeat (go_big_quiet_step (first | (go_at_call 37; exact calm_of (CV.out _)) | (go_at_call 48; exact calm_same (CL.out _)) | (go_at_call 41; exact calm_of (CF.out _))))
  refine wpQuiet_nil ?_
  intro _ hw'
  obtain ⟨xq, hw''⟩ := hw'
  subst hw''
  go_wp2
  go_ret
  exact ⟨rfl, xq.below⟩
set_option maxRecDepth 100000 in
theorem i_levels (w : World) (A : Option Addr) (c : Nat) (cs : List SmV) (hc : codeB cs = true) (hR : RdC w A cs) :
    Calls Tryz.prog 40 #[.slice A cs.length c] w (RetI w 2 (levL cs cs.length)) := by
  have h16 := codeB_len hc
  have hmk := makeInt cs.length (by omega)
  have HR := hid hR
  clear hR hc
  go_enter Tryz.func40, Tryz.ntmps40
  go_wp2
  clear hmk
  go_loopg [11] cs.length (fun gg s wr => ∃ j : Nat, j ≤ cs.length ∧ cs.length - j ≤ gg ∧ s = .int .i64 j ∧ Aside (Below w.heap.size w wr) ∧
    Aside (Own wr w.heap.size (w.heap.size + 1) 2 1 (.slice (some ⟨w.heap.size, 0, none⟩) cs.length cs.length) cs.length (ints (levL cs j ++ List.replicate (cs.length - j) 0))))
  case atStart => exact ⟨0, Nat.zero_le _, by omega, rfl, ballocw w _, by unfold Aside; simpa [levL, ints_replicate] using own_made w 2 (.int .i64 0) cs.length (by omega)⟩
  case round =>
    obtain ⟨j, hj, hg, rfl, BW, OW⟩ := hrel
    obtain ⟨wj, rfl⟩ : ∃ wj : World, wj = wr := ⟨_, rfl⟩
    by_cases hlt : j < cs.length
    · have hltz : (j : Int) < (cs.length : Int) := by omega
      have HJ := hid hlt
      have OW0 := OW.out
      rw [rowJ_zero hlt] at OW0
      have HO := hid OW0
      have HB := hid BW.out
      have HGG := hid hg
      clear BW OW OW0 hg hlt
      go_wp2
      go_loopg [15] j (fun gg s wr => ∃ i : Nat, i ≤ j ∧ j - i ≤ gg ∧ s = .int .i64 i ∧ Aside (Below w.heap.size w wr) ∧
        Aside (Own wr w.heap.size (w.heap.size + 1) 2 1 (.slice (some ⟨w.heap.size, 0, none⟩) cs.length cs.length) cs.length (ints (rowJ cs cs.length j i))))
      case atStart => exact ⟨0, Nat.zero_le _, by omega, rfl, HB.out, HO.out⟩
      case round =>
        obtain ⟨i, hi, hgi, rfl, BI, OI⟩ := hrel
        obtain ⟨wi, rfl⟩ : ∃ wi : World, wi = wr := ⟨_, rfl⟩
        clear HB HO
        by_cases hlti : i < j
        · have hiz : (i : Int) < (j : Int) := by omega
          have hjn := HJ.out
          obtain ⟨b, off, rfl, hat⟩ := (HR.out.below BI.out).at (by omega)
          have hi16 : (i : Int) < 16 := by omega
          have hicz : (i : Int) < (cs.length : Int) := by omega
          have qi := fun z => lat_stm (hat i (by omega)) z
          have qj := fun z => lat_stm (hat j hjn) z
          have CF := hid (fun W => i_follows W (sel cs i) (sel cs j))
          have HSAME := hid (rowJ_same (cs := cs) (n := cs.length) (j := j) (i := i))
          have HSET := hid (rowJ_set (cs := cs) (n := cs.length) (j := j) (i := i))
          have hli := levL_bnd cs j i hlti
          have hlm := levM_bnd (cs := cs) (ls := levL cs j) (j := j) (m := 16) (i := i) (fun k hk => by have := levL_bnd cs j k (by omega); omega)
          have e1 := rowJ_lt (cs := cs) (n := cs.length) (i := i) hlti
          have e2 := rowJ_at (cs := cs) (n := cs.length) (j := j) (i := i)
          have hln := rowJ_len (cs := cs) (i := i) hjn
          have HC1 : Hid (∀ W, Own W w.heap.size (w.heap.size + 1) 2 1 (.slice (some ⟨w.heap.size, 0, none⟩) cs.length cs.length) cs.length (ints (rowJ cs cs.length j i)) → W.cell? ⟨w.heap.size, i, none⟩ = some (.int .i64 (el (levL cs j) i)) ∧ W.cell? ⟨w.heap.size, j, none⟩ = some (.int .i64 (levM cs (levL cs j) j i)) ∧ W.frozen? ⟨w.heap.size, j, none⟩ = false) := hid (fun W hW => by
            have k1 := own_cell hW (k := i) (by omega)
            have k2 := own_cell hW (k := j) (by omega)
            rw [e1] at k1; rw [e2] at k2
            exact ⟨k1.1, k2⟩)
          have HLT := hid hlti
          have HGI := hid hgi
          have HO := hid OI.out
          have HB := hid BI.out
          have hsz := HO.out.1.lt w.heap.size rfl
          clear hat hi hgi hlti e1 e2 hln hjn OI BI
          generalize sel cs i = x at *
          generalize sel cs j = y at *
          generalize levM cs (levL cs j) j i = lm at *
          generalize el (levL cs j) i = li at *
          generalize rowJ cs cs.length j i = R at *
          obtain ⟨hli0, hli1⟩ := hli
          obtain ⟨hlm0, hlm1⟩ := hlm
          generalize folB x y = r at *
          have a0 := fun z => (qi z).1
          have a1 := fun z => (qi z).2.1
          have a2 := fun z => (qi z).2.2.1
          have a3 := fun z => (qi z).2.2.2
          have b0 := fun z => (qj z).1
          have b1 := fun z => (qj z).2.1
          have b2 := fun z => (qj z).2.2.1
          have b3 := fun z => (qj z).2.2.2
          clear qi qj
          obtain ⟨o, d, a, s⟩ := x
          obtain ⟨o', d', a', s'⟩ := y
          simp only at a0 a1 a2 a3 b0 b1 b2 b3
          go_wp2
          refine wp_region_calm (by kernel_rfl) (by kernel_rfl) ?_
          repeat (go_big_quiet_step (first | (go_at_call 41; exact calm_of (CF.out _))))
          refine wpQuiet_nil ?_
          intro _ hw'
          obtain ⟨xq, hw''⟩ := hw'
          subst hw''
          have hbq := xq.below
          generalize xq.val = w5 at *
          have HO5 := hid (Own.eqv HO.out (Eqv.of hbq hsz.2))
          have HB5 := hid (bthen HB.out hbq)
          obtain ⟨c1, c2, c3⟩ := HC1.out w5 HO5.out
          clear a0 a1 a2 a3 b0 b1 b2 b3 hbq HO HB HC1
          cases r with
          | false =>
            have HO6 := HO5.out
            rw [← HSAME.out rfl] at HO6
            have HO7 := hid HO6
            clear HO6 HSAME HSET
            go_wp2
            go_roundg (j - (i + 1))
            case measure => have := HLT.out; have := HGI.out; go_light; omega
            case rel => exact ⟨i + 1, HLT.out, Nat.le_refl _, by go_num, HB5.out, HO7.out⟩
          | true =>
            have l1 := lcell c1
            have l2 := lcell c2
            have HE := HSET.out
            rw [if_pos rfl] at HE
            have HE := hid HE
            clear HSAME HSET c1 c2 c3
            go_wp2
            refine wp_region_calm_tail 13 (by kernel_rfl) (by kernel_rfl) ?_
            simp only [List.take_succ_cons, List.take_zero, List.drop_succ_cons, List.drop_zero]
            repeat (go_big_quiet_step (fail))
            refine wpQuiet_nil ?_
            intro _ hw'
            obtain ⟨xq, hw''⟩ := hw'
            subst hw''
            have HO6 := Own.eqv HO5.out (Eqv.of xq.below (by have := (HO5.out.1.lt w.heap.size rfl).2; exact this))
            obtain ⟨c4, c5⟩ : xq.val.cell? ⟨w.heap.size, j, none⟩ = some (.int .i64 lm) ∧ xq.val.frozen? ⟨w.heap.size, j, none⟩ = false := ⟨l2 xq, HO6.1.frozenAt j⟩
            have HO7 := own_put HO6 j (max lm (li + 1))
            rw [HE.out] at HO7
            have HO8 := hid HO7
            have HB8 := hid (bset (bthen HB5.out xq.below) (p := ⟨w.heap.size, j, none⟩) (Nat.le_refl _) (.int .i64 (max lm (li + 1))))
            clear HO6 HO7 HE l1 l2
            go_wp2
            go_roundg (j - (i + 1))
            case measure => have := HLT.out; have := HGI.out; go_light; omega
            case rel => exact ⟨i + 1, HLT.out, Nat.le_refl _, by go_num, HB8.out, HO8.out⟩
        · obtain rfl : i = j := by omega
          have hiz : ¬ (i : Int) < (i : Int) := by omega
          have hi16 : (i : Int) < 16 := by have := HJ.out; omega
          have HO := OI.out
          rw [rowJ_done] at HO
          have HO := hid HO
          have HB := hid BI.out
          clear OI BI hgi
          go_wp2
          go_roundg (cs.length - (i + 1))
          case measure => have := HJ.out; have := HGG.out; go_light; omega
          case rel => exact ⟨i + 1, HJ.out, Nat.le_refl _, by go_num, HB.out, HO.out⟩
    · obtain rfl : j = cs.length := by omega
      have hltz : ¬ ((cs.length : Nat) : Int) < ((cs.length : Nat) : Int) := by omega
      have HO := OW.out
      rw [Nat.sub_self, List.replicate_zero, List.append_nil] at HO
      have HO := hid HO
      have HB := hid BW.out
      have HL := hid (levL_len cs cs.length)
      clear OW BW
      go_wp2
      go_ret
      refine ⟨_, rfl, ?_, HB.out⟩
      unfold OwnI
      rw [HL.out]
      exact Own.wide HO.out (Nat.le_refl _) (by have := (HO.out.1.lt w.heap.size rfl).2; exact this)
theorem i_LevelsOf (w : World) (A : Option Addr) (c : Nat) (cs : List SmV) (hc : codeB cs = true) (hR : RdC w A cs) :
    Calls Tryz.prog 12 #[.slice A cs.length c] w (RetIB w (levL cs cs.length, true)) := by
  have C1 := i_ValidCode w A c cs (by have := codeB_len hc; omega) hR
  rw [hc] at C1
  have C1 := hid C1
  have C3 := hid (fun W (hW : Below w.heap.size w W) => i_levels W A c cs hc (hR.below hW))
  clear hc hR
  generalize levL cs cs.length = R at *
  go_enter Tryz.func12, Tryz.ntmps12
  go_wp2_with (first
    | (go_at_call 37; refine C1.out.mono ?_; rintro e w1 ⟨rfl, hb1⟩; have HB1 := hid hb1; clear hb1)
    | (go_at_call 40; refine (C3.out _ HB1.out).mono ?_; rintro e w3 ⟨v3, rfl, ho3, hb3⟩; have HB3 := hid (bthen HB1.out hb3); have HO3 := hid ho3; clear ho3 hb3))
  go_ret2
  exact ⟨_, rfl, Own.wide HO3.out HB1.out.size (Nat.le_refl _), HB3.out⟩
end Go.Proofs.YtnnioicjmlfllaaGreatDoor
set_option linter.unusedVariables false
set_option linter.unusedSimpArgs false
namespace Go.Proofs.YtnnioicjmlfllaaGreatDoor
open Go.RowKit

theorem depJ_step (cs : List SmV) {i j : Nat} (h : i < j) : depJ cs i (j + 1) = if folB (sel cs i) (sel cs j) then depJ cs i j ++ [[(i : Int), (j : Int)]] else depJ cs i j := by
  simp only [depJ]
  by_cases hf : folB (sel cs i) (sel cs j) = true
  · rw [if_pos ⟨h, hf⟩, if_pos hf]
  · rw [if_neg (fun q => hf q.2), if_neg hf]
theorem lit2_own (w : World) (a b : Int) : OI (w.alloc (.cells #[.int .i64 a, .int .i64 b] 2)) w.heap.size (w.alloc (.cells #[.int .i64 a, .int .i64 b] 2)).heap.size (.slice (some ⟨w.heap.size, 0, none⟩) 2 2) [a, b] := by
  have := Own.of (World.ownsRow_lit (base := w.heap.size) (e := 2) (size := 1) w #[.int .i64 a, .int .i64 b] 2 (Nat.le_refl _) (by simp [maxLen]) rfl)
  simpa [OI, OwnI, ints] using this
def RetROB (w : World) (xss : List (List Int)) (b : Bool) (en : Ending) (w' : World) : Prop := ∃ v, en = .returned (.tuple #[v, .bool b]) ∧ OR w' w.heap.size w'.heap.size v xss ∧ Below w.heap.size w w'
set_option maxRecDepth 100000 in
theorem i_DependencesOf (w : World) (A : Option Addr) (c : Nat) (cs : List SmV) (hc : codeB cs = true) (hR : RdC w A cs) :
    Calls Tryz.prog 13 #[.slice A cs.length c] w (RetROB w (depL cs cs.length) true) := by
  have h16 := codeB_len hc
  have CV := i_ValidCode w A c cs (by omega) hR
  rw [hc] at CV
  have CV := hid CV
  have HR := hid hR
  clear hR hc
  go_enter Tryz.func13, Tryz.ntmps13
  go_wp2_with fail
  refine CV.out.mono ?_
  rintro e w1 ⟨rfl, hb1⟩
  have HB1 := hid hb1
  clear hb1 CV
  go_wp2_with fail
  go_loopg [4, 12] cs.length (fun gg v s wr => ∃ i : Nat, i ≤ cs.length ∧ cs.length - i ≤ gg ∧ s = .int .i64 i ∧ Aside (Below w.heap.size w wr) ∧ Aside (OR wr w.heap.size wr.heap.size v (depL cs i)))
  case atStart => exact ⟨0, Nat.zero_le _, by omega, rfl, HB1.out, OR.nil _ _ _⟩
  case round =>
    obtain ⟨i, hi, hg, rfl, BW, OW⟩ := hrel
    obtain ⟨wo, rfl⟩ : ∃ wo : World, wo = wr := ⟨_, rfl⟩
    clear HB1
    by_cases hlt : i < cs.length
    · have hltz : (i : Int) < (cs.length : Int) := by omega
      have hi16 : (i : Int) < 16 := by omega
      have HI := hid hlt
      have HB := hid BW.out
      have OW0 := OW.out
      rw [show depL cs i = depL cs i ++ depJ cs i (i + 1) by rw [depJ_start, List.append_nil]] at OW0
      have HO := hid OW0
      have HGG := hid hg
      clear BW OW OW0 hg hlt
      go_wp2
      go_loopg [4, 6] cs.length (fun gg v s wr => ∃ j : Nat, j ≤ cs.length ∧ i < j ∧ cs.length - j ≤ gg ∧ s = .int .i64 j ∧ Aside (Below w.heap.size w wr) ∧ Aside (OR wr w.heap.size wr.heap.size v (depL cs i ++ depJ cs i j)))
      case atStart => exact ⟨i + 1, HI.out, by omega, by omega, by go_num, HB.out, HO.out⟩
      case round =>
        obtain ⟨j, hj, hij, hgj, rfl, BJ, OJ⟩ := hrel
        obtain ⟨wj, rfl⟩ : ∃ wj : World, wj = wr := ⟨_, rfl⟩
        clear HB HO
        by_cases hltj : j < cs.length
        · have hjz : (j : Int) < (cs.length : Int) := by omega
          have hj16 : (j : Int) < 16 := by omega
          have hicz : (i : Int) < (cs.length : Int) := by omega
          obtain ⟨b, off, rfl, hat⟩ := (HR.out.below BJ.out).at (by omega)
          have qi := fun z => lat_stm (hat i (by omega)) z
          have qj := fun z => lat_stm (hat j hltj) z
          have CF := hid (fun W => i_follows W (sel cs i) (sel cs j))
          have HST := hid (depJ_step cs hij)
          have HFEW : Hid ((depL cs i ++ depJ cs i j).length + 1 ≤ 1048576) := hid (by
            have h1 := depL_few cs i
            have h2 := depJ_few cs i j
            have h3 : i * cs.length ≤ 16 * 16 := Nat.mul_le_mul (by omega) (by omega)
            rw [List.length_append]; omega)
          have HJ := hid hltj
          have HIJ := hid hij
          have HGJ := hid hgj
          have HO := hid OJ.out
          have HB := hid BJ.out
          clear hat hj hgj hltj hij OJ BJ
          generalize sel cs i = x at *
          generalize sel cs j = y at *
          generalize folB x y = r at *
          have a0 := fun z => (qi z).1
          have a1 := fun z => (qi z).2.1
          have a2 := fun z => (qi z).2.2.1
          have a3 := fun z => (qi z).2.2.2
          have b0 := fun z => (qj z).1
          have b1 := fun z => (qj z).2.1
          have b2 := fun z => (qj z).2.2.1
          have b3 := fun z => (qj z).2.2.2
          clear qi qj
          obtain ⟨o, d, a, s⟩ := x
          obtain ⟨o', d', a', s'⟩ := y
          simp only at a0 a1 a2 a3 b0 b1 b2 b3
          go_wp2
          refine wp_region_calm (by kernel_rfl) (by kernel_rfl) ?_
          repeat (go_big_quiet_step (first | (go_at_call 41; exact calm_of (CF.out _))))
          refine wpQuiet_nil ?_
          intro _ hw'
          obtain ⟨xq, hw''⟩ := hw'
          subst hw''
          have hbq := xq.below
          generalize xq.val = w5 at *
          have HO5 := hid (HO.out.eqv (Eqv.of hbq (Nat.le_refl _)))
          have HB5 := hid (bthen HB.out hbq)
          have HZ := hid hbq.size
          have HZ1 := hid HB.out.size
          clear a0 a1 a2 a3 b0 b1 b2 b3 hbq HO HB
          cases r with
          | false =>
            have HO6 := hid (OR.wide HO5.out (Nat.le_refl _) HZ.out)
            have HE := HST.out
            rw [if_neg (by simp)] at HE
            have HE := hid HE
            clear HST HO5
            go_wp2
            go_roundg (cs.length - (j + 1))
            case measure => have := HJ.out; have := HGJ.out; go_light; omega
            case rel => exact ⟨j + 1, HJ.out, by have := HIJ.out; omega, Nat.le_refl _, by go_num, HB5.out, by rw [HE.out]; exact HO6.out⟩
          | true =>
            have HE := HST.out
            rw [if_pos rfl] at HE
            have HE := hid HE
            have HU := hid (lit2_own w5 i j)
            have hb2 := ballocw w5 (.cells #[.int .i64 (i : Nat), .int .i64 (j : Nat)] 2)
            have HO6 := hid (OR.wide (HO5.out.eqv (Eqv.of hb2 HZ.out)) (Nat.le_refl _) HZ.out)
            have HB6 := hid (bthen HB5.out hb2)
            have HZ2 := hid hb2.size
            have HZ3 : Hid (w.heap.size ≤ w5.heap.size) := hid (Nat.le_trans HZ1.out HZ.out)
            clear HST HO5 hb2
            go_wp2_with (at_builtin; refine wp_appendRq w.heap.size w5.heap.size rfl _ _ rfl u4 (depL cs i ++ depJ cs i j) (some ⟨w5.heap.size, 0, none⟩) 2 2 (w5.alloc (.cells #[.int .i64 (i : Nat), .int .i64 (j : Nat)] 2)).heap.size [(i : Int), (j : Int)] rfl rfl rfl (by simp [Act.eval, Act.put]) HO6.out HU.out HZ3.out HZ2.out HFEW.out ?_; intro v3 w3 ho3 hb3; have HO3 := hid ho3; have HB3 := hid (HB6.out.trans hb3); clear ho3 hb3)
            go_roundg (cs.length - (j + 1))
            case measure => have := HJ.out; have := HGJ.out; go_light; omega
            case rel => exact ⟨j + 1, HJ.out, by have := HIJ.out; omega, Nat.le_refl _, by go_num, HB3.out, by rw [HE.out, ← List.append_assoc]; exact HO3.out⟩
        · obtain rfl : j = cs.length := by omega
          have hjz : ¬ ((cs.length : Nat) : Int) < ((cs.length : Nat) : Int) := by omega
          have HO := hid OJ.out
          have HB := hid BJ.out
          clear OJ BJ hgj
          go_wp2
          go_roundg (cs.length - (i + 1))
          case measure => have := HI.out; have := HGG.out; go_light; omega
          case rel => exact ⟨i + 1, HI.out, Nat.le_refl _, by go_num, HB.out, HO.out⟩
    · obtain rfl : i = cs.length := by omega
      have hltz : ¬ ((cs.length : Nat) : Int) < ((cs.length : Nat) : Int) := by omega
      have HO := hid OW.out
      have HB := hid BW.out
      clear OW BW
      go_wp2
      go_ret2
      exact ⟨_, rfl, HO.out, HB.out⟩
/-- Where the first statement of a pair stands is ahead of the second one's. -/
theorem ord_before {cs : List SmV} {ys : List Int} (hl : ys.length = cs.length) (h : OrdC cs ys) {i j : Nat} (hij : i < j) (hj : j < cs.length) (hf : folB (sel cs i) (sel cs j) = true) : fst ys i < fst ys j ∧ 0 ≤ fst ys i := by
  have hall : ∀ k : Nat, k < cs.length → (k : Int) ∈ ys := fun k hk => by
    by_cases hm : (k : Int) ∈ ys
    · exact hm
    · have := nodup_few cs.length ((k : Int) :: ys) (List.nodup_cons.2 ⟨hm, h.nd⟩) (fun x hx => by
        rcases List.mem_cons.1 hx with rfl | hx
        · omega
        · exact h.rg x hx)
      simp at this; omega
  rcases fst_cases ys j with ⟨_, hn⟩ | ⟨q, hq, hqe, hqv, hqf⟩
  · exact absurd (hall j hj) hn
  rcases fst_cases ys i with ⟨_, hn⟩ | ⟨p, hp, hpe, hpv, hpf⟩
  · exact absurd (hall i (by omega)) hn
  have hd := h.dep q hq i (by rw [hqv]; omega) (by rw [hqv]; simpa using hf)
  obtain ⟨m, hm, hme⟩ := List.getElem_of_mem hd
  simp only [List.length_take] at hm
  rw [List.getElem_take] at hme
  have e := el_get (xs := ys) (k := m) (by omega)
  rw [List.getElem?_eq_getElem (by omega)] at e
  have e := Option.some.inj e
  have : p ≤ m := Nat.le_of_not_lt fun q => hpf m q (by rw [← e, hme])
  omega
theorem ord_all {cs : List SmV} {ys : List Int} (hl : ys.length = cs.length) (h : OrdC cs ys) : ordB ys ys.length = true := by
  unfold ordB
  rw [List.all_eq_true]
  intro k hk
  have hk := List.mem_range.1 hk
  refine hasB_iff.2 ?_
  by_cases hm : (k : Int) ∈ ys
  · exact hm
  · have := nodup_few cs.length ((k : Int) :: ys) (List.nodup_cons.2 ⟨hm, h.nd⟩) (fun x hx => by
      rcases List.mem_cons.1 hx with rfl | hx
      · omega
      · exact h.rg x hx)
    simp at this; omega
theorem ord_all' {cs : List SmV} {ys : List Int} (hl : ys.length = cs.length) (h : OrdC cs ys) : ordB ys cs.length = true := by rw [← hl]; exact ord_all hl h
theorem el_inv {xs : List Int} {k : Nat} (h : k < xs.length) : el (inv xs) k = fst xs (k : Int) := by
  unfold inv el; rw [List.getD_eq_getElem?_getD, List.getElem?_map, List.getElem?_range h]; rfl
end Go.Proofs.YtnnioicjmlfllaaGreatDoor
set_option linter.unusedVariables false
set_option linter.unusedSimpArgs false
namespace Go.Proofs.YtnnioicjmlfllaaGreatDoor
open Go.RowKit

theorem i_IsOrder1 (W : World) (B : Nat) (A A' : Option Addr) (c c' n : Nat) (ys ps : List Int) (i j : Nat) (hl : n = ys.length) (hi : i < ys.length) (hj : j < ys.length) (hB : W.cell? ⟨B, 0, none⟩ = some (.slice A n c)) (hR : RdI W A ys) (hp : ps = [(i : Int), (j : Int)]) (hP : RdI W A' ps) :
    Calls Tryz.prog 47 #[.slice A' 2 c', .pointer (some ⟨B, 0, none⟩)] W fun e w' => e = .returned (.bool (decide (el ys i < el ys j))) ∧ Below W.heap.size W w' := by
  subst hp
  obtain ⟨b, off, rfl, h0⟩ := hP.get (k := 0) (by simp)
  obtain ⟨b', off', e, h1⟩ := hP.get (k := 1) (by simp)
  cases e
  obtain ⟨b2, off2, rfl, h2⟩ := hR.get hi
  obtain ⟨b3, off3, e, h3⟩ := hR.get hj
  cases e
  have l0 := lcell hB
  have l1 : ∀ x : Lat W, x.val.cell? ⟨b, off, none⟩ = some (.int .i64 (i : Nat)) := lcell h0
  have l2 : ∀ x : Lat W, x.val.cell? ⟨b, off + 1, none⟩ = some (.int .i64 (j : Nat)) := lcell h1
  have l3 := lcell h2
  have l4 := lcell h3
  have hiz : (i : Int) < (n : Int) := by omega
  have hjz : (j : Int) < (n : Int) := by omega
  clear hB hR hP h0 h1 h2 h3 hl
  generalize el ys i = x at *
  generalize el ys j = y at *
  go_enter Tryz.func47, Tryz.ntmps47
  go_wp2
  refine wp_region_calm (by kernel_rfl) (by kernel_rfl) ?_
  repeat (go_big_quiet_step (fail))
  refine wpQuiet_nil ?_
  intro _ hw'
  obtain ⟨xq, hw''⟩ := hw'
  subst hw''
  go_wp2
  go_ret
  exact ⟨rfl, xq.below⟩
set_option maxRecDepth 100000 in
/-- .. of an order of valid code. -/
theorem i_IsOrder (w : World) (A A' : Option Addr) (c c' : Nat) (cs : List SmV) (ys : List Int) (hc : codeB cs = true) (hl : ys.length = cs.length) (h : OrdC cs ys) (hR : RdC w A cs) (hY : RdI w A' ys) :
    Calls Tryz.prog 16 #[.slice A cs.length c, .slice A' cs.length c'] w fun e w' => e = .returned (.bool true) ∧ Below w.heap.size w w' := by
  have h16 := codeB_len hc
  have C1 := hid (i_DependencesOf w A c cs hc hR)
  have C2 : Hid (∀ W, Below w.heap.size w W → Calls Tryz.prog 45 #[.slice A' cs.length c', .int .i64 (cs.length : Nat)] W (RetGB W (inv ys, true))) := hid (fun W hW => by
    have := i_places W A' c' ys cs.length (by omega) (by omega) (hY.below hW)
    unfold m_places at this
    rw [ord_all' hl h, decide_eq_true hl] at this
    rw [hl] at this
    exact this)
  have C3 : Hid (∀ W (B : Nat) (Ap A2 : Option Addr) (cp c2 : Nat), W.cell? ⟨B, 0, none⟩ = some (.slice A2 cs.length c2) → RdI W A2 (inv ys) → RdR W Ap (depL cs cs.length) →
      Calls Tryz.prog 46 #[.slice Ap (depL cs cs.length).length cp, .func (.func 47) #[] #[.pointer (some ⟨B, 0, none⟩)]] W fun e w' => e = .returned (.bool true) ∧ Below W.heap.size W w') := hid (fun W B Ap A2 cp c2 hB hI hP => by
    obtain ⟨f, hf, hr⟩ := hP
    have hfew := depL_few cs cs.length
    have h3 : cs.length * cs.length ≤ 16 * 16 := Nat.mul_le_mul (by omega) (by omega)
    have hall := areAllR W Ap (depL cs cs.length).length cp f 47 #[.pointer (some ⟨B, 0, none⟩)] (fun k => true) (by omega) hf (enters_of Tryz.func47 (by kernel_rfl) rfl) (fun W' hW' k hk => by
      obtain ⟨A3, c3, e, hcc, hrr⟩ := hr k hk
      have hmem : rw_ (depL cs cs.length) k ∈ depL cs cs.length := by
        unfold rw_; rw [List.getD_eq_getElem?_getD, List.getElem?_eq_getElem hk]; exact List.getElem_mem hk
      obtain ⟨i, j, hi, hj, hij, hfl, hpe⟩ := depL_mem hmem
      obtain ⟨hb1, hb2⟩ := ord_before hl h hij hj (by simpa using hfl)
      rw [e, hpe]
      rw [hpe] at hrr
      have hil : (inv ys).length = cs.length := by rw [inv_length]; exact hl
      have := i_IsOrder1 W' B A2 A3 c2 c3 cs.length (inv ys) _ i j hil.symm (by omega) (by omega) (bcell hW' hB) (hI.below hW') rfl (hrr.below hW')
      rw [el_inv (by omega), el_inv (by omega), decide_eq_true hb1] at this
      exact this)
    have ht : allN (depL cs cs.length).length (fun _ => true) = true := by unfold allN; simp
    rw [ht] at hall
    exact hall)
  have HIL : Hid ((inv ys).length = cs.length) := hid (by rw [inv_length]; exact hl)
  clear hc hl h hR hY
  generalize depL cs cs.length = D at *
  generalize inv ys = I at *
  go_enter Tryz.func16, Tryz.ntmps16
  go_wp2_with fail
  refine C1.out.mono ?_
  rintro e w1 ⟨v1, rfl, ho1, hb1⟩
  obtain ⟨A1, c1, rfl, _, _, _⟩ := ho1.shp
  have HO1 := hid ho1
  have HB1 := hid hb1
  clear ho1 hb1 C1
  go_wp2_with fail
  refine (C2.out _ HB1.out).mono ?_
  rintro e w2 ⟨v2, rfl, ho2, hb2⟩
  obtain ⟨A2, c2, rfl, _, _, hr2⟩ := Own.int ho2
  rw [HIL.out]
  have HB2 := hid (bthen HB1.out hb2)
  have hbx := ballocw w2 (.cells #[.slice A2 cs.length c2] 86)
  have HBX := hid (bthen HB2.out hbx)
  have HO2 := hid ((OR.rd (HO1.out.eqv (Eqv.of (bthen hb2 hbx) (Nat.le_refl _)))))
  have HR2 := hid (RdI.below hr2 hbx)
  have HCX : Hid ((w2.alloc (.cells #[.slice A2 cs.length c2] 86)).cell? ⟨w2.heap.size, 0, none⟩ = some (.slice A2 cs.length c2)) := hid (by simp)
  clear ho2 hb2 hr2 hbx C2 HO1
  go_wp2_with (go_at_call 46; go_loud (refine (C3.out _ _ A1 A2 c1 c2 HCX.out HR2.out HO2.out).mono ?_; rintro e w3 ⟨rfl, hb3⟩))
  go_ret
  exact ⟨rfl, bthen HBX.out hb3⟩
set_option maxRecDepth 100000 in
theorem i_ReorderCode (w : World) (A A' : Option Addr) (c c' : Nat) (cs : List SmV) (ys : List Int) (hc : codeB cs = true) (hl : ys.length = cs.length) (h : OrdC cs ys) (hR : RdC w A cs) (hY : RdI w A' ys) :
    Calls Tryz.prog 10 #[.slice A cs.length c, .slice A' cs.length c'] w (RetC w (ordM cs ys) true) := by
  have h16 := codeB_len hc
  have C1 := hid (i_IsOrder w A A' c c' cs ys hc hl h hR hY)
  have HR := hid hR
  have HY := hid hY
  have HL := hid hl
  have HG := hid h.rg
  clear hc hl h hR hY
  go_enter Tryz.func10, Tryz.ntmps10
  go_wp2_with fail
  refine C1.out.mono ?_
  rintro e w1 ⟨rfl, hb1⟩
  have HB1 := hid hb1
  clear C1 hb1
  go_wp2
  go_loopg [6, 15] cs.length (fun gg v s wr => ∃ k : Nat, k ≤ cs.length ∧ cs.length - k ≤ gg ∧ s = .int .i64 k ∧ Aside (Below w.heap.size w wr) ∧ Aside (OC wr w.heap.size wr.heap.size v (ordM cs (ys.take k))))
  case atStart => exact ⟨0, Nat.zero_le _, by omega, rfl, HB1.out, Own.nil _ _ _ _ _⟩
  case round =>
    obtain ⟨k, hk, hg, rfl, BW, OW⟩ := hrel
    obtain ⟨wk, rfl⟩ : ∃ wk : World, wk = wr := ⟨_, rfl⟩
    clear HB1
    by_cases hlt : k < cs.length
    · have hltz : (k : Int) < (cs.length : Int) := by omega
      have hky : k < ys.length := by have := HL.out; omega
      obtain ⟨by_, offy, rfl, hy⟩ := (HY.out.below BW.out).get hky
      obtain ⟨hy0, hy1⟩ := HG.out _ (el_mem hky)
      have HTK : Hid (ordM cs (ys.take (k + 1)) = ordM cs (ys.take k) ++ [sel cs (el ys k).toNat]) := hid (by rw [el_take hky]; unfold ordM; rw [List.map_append]; rfl)
      generalize el ys k = y at *
      obtain ⟨y, rfl⟩ := Int.eq_ofNat_of_zero_le hy0
      obtain ⟨b, off, rfl, hat⟩ := (HR.out.below BW.out).get (k := y) (by omega)
      simp only [Int.toNat_natCast] at HTK
      have HLN : Hid ((ordM cs (ys.take k)).length + 1 ≤ 2097152) := hid (by simp [ordM]; omega)
      generalize sel cs y = x at *
      obtain ⟨o, d, a, s⟩ := x
      have c0 := hat.o
      have c1 := hat.d
      have c2 := hat.a
      have c3 := hat.b
      simp only at c0 c1 c2 c3
      have HO := hid OW.out
      have HB := hid BW.out
      have hz := BW.out.size
      have HZ := hid hz
      clear hat hky OW BW hz
      go_wp2_with (at_builtin; refine wp_appendC w.heap.size rfl _ _ rfl u6 (ordM cs (ys.take k)) o d a s wk.heap.size rfl rfl rfl HO.out HZ.out HLN.out ?_; intro v3 w3 ho3 hb3; have HO3 := hid ho3; have HB3 := hid (HB.out.trans hb3); clear ho3 hb3)
      go_roundg (cs.length - (k + 1))
      case measure => omega
      case rel => exact ⟨k + 1, by omega, by omega, by go_num, HB3.out, by rw [HTK.out]; exact HO3.out⟩
    · obtain rfl : k = cs.length := by omega
      have hltz : ¬ ((cs.length : Nat) : Int) < ((cs.length : Nat) : Int) := by omega
      have HO := OW.out
      rw [← HL.out, List.take_length] at HO
      have HO := hid HO
      have HB := hid BW.out
      clear OW BW
      go_wp2
      go_ret2
      exact ⟨_, rfl, HO.out, HB.out⟩
def numsB (xs ys : List Int) : Bool := decide (xs = ys)
set_option maxRecDepth 100000 in
/-- .. of lists that are the same. -/
theorem l_b10Nums (w : World) (A A' : Option Addr) (c c' n : Nat) (xs : List Int) (hn : xs.length = n) (hl : n ≤ 1048576) (hX : RdI w A xs) (hY : RdI w A' xs) :
    Calls Tryz.prog 17 #[.slice A n c, .slice A' n c'] w fun e w' => e = .returned (.bool true) ∧ Below w.heap.size w w' := by
  have HN := hid hn
  have HX := hid hX
  have HY := hid hY
  clear hX hY hn
  go_enter Tryz.func17, Tryz.ntmps17
  go_wp2
  go_loopg [5] n (fun gg s wr => ∃ k : Nat, k ≤ n ∧ n - k ≤ gg ∧ s = .int .i64 k ∧ Aside (Below w.heap.size w wr))
  case atStart => exact ⟨0, Nat.zero_le _, by omega, rfl, Below.refl _ _⟩
  case round =>
    obtain ⟨k, hk, hg, rfl, BW⟩ := hrel
    obtain ⟨wk, rfl⟩ : ∃ wk : World, wk = wr := ⟨_, rfl⟩
    by_cases hlt : k < n
    · have hltz : (k : Int) < (n : Int) := by omega
      obtain ⟨b, off, rfl, h1⟩ := (HX.out.below BW.out).get (k := k) (by have := HN.out; omega)
      obtain ⟨b', off', rfl, h2⟩ := (HY.out.below BW.out).get (k := k) (by have := HN.out; omega)
      have l1 := lcell h1
      have l2 := lcell h2
      have HB := hid BW.out
      clear h1 h2 BW
      go_wp2
      refine wp_region_calm (by kernel_rfl) (by kernel_rfl) ?_
      repeat (go_big_quiet_step (fail))
      refine wpQuiet_nil ?_
      intro _ hw'
      obtain ⟨xq, hw''⟩ := hw'
      subst hw''
      have HB2 := hid (bthen HB.out xq.below)
      clear l1 l2
      go_wp2
      go_roundg (n - (k + 1))
      case measure => omega
      case rel => exact ⟨k + 1, by omega, by omega, by go_num, HB2.out⟩
    · obtain rfl : k = n := by omega
      have hltz : ¬ ((k : Nat) : Int) < ((k : Nat) : Int) := by omega
      go_wp2
      go_ret
      exact ⟨rfl, BW.out⟩
end Go.Proofs.YtnnioicjmlfllaaGreatDoor
set_option linter.unusedVariables false
set_option linter.unusedSimpArgs false
namespace Go.Proofs.YtnnioicjmlfllaaGreatDoor
open Go.RowKit

/-! ### A text that was written is read back -/
theorem cutG_hit (m : UInt8) : ∀ (x cur r : List UInt8), m ∉ x → cutG m cur (x ++ m :: r) = (cur ++ x) :: cutL m r := by
  intro x
  induction x with
  | nil => intro cur r _; simp [cutG, cutL]
  | cons b x ih =>
    intro cur r h
    have hb : b ≠ m := fun e => h (by simp [e])
    simp only [List.cons_append, cutG, if_neg hb]
    rw [ih _ _ (fun q => h (by simp [q]))]; simp
theorem cutG_miss (m : UInt8) : ∀ (x cur : List UInt8), m ∉ x → cutG m cur x = [cur ++ x] := by
  intro x
  induction x with
  | nil => intro cur _; simp [cutG]
  | cons b x ih =>
    intro cur h
    have hb : b ≠ m := fun e => h (by simp [e])
    simp only [cutG, if_neg hb]
    rw [ih _ (fun q => h (by simp [q]))]; simp
theorem cutL_hit {m : UInt8} {x r : List UInt8} (h : m ∉ x) : cutL m (x ++ m :: r) = x :: cutL m r := by unfold cutL; rw [cutG_hit m x [] r h]; rfl
theorem cutL_miss {m : UInt8} {x : List UInt8} (h : m ∉ x) : cutL m x = [x] := by unfold cutL; rw [cutG_miss m x [] h]; rfl
theorem cutL_parts {m : UInt8} : ∀ {ps : List (List UInt8)}, ps ≠ [] → (∀ p ∈ ps, m ∉ p) → cutL m (Lib.join ps [m]) = ps := by
  intro ps
  induction ps with
  | nil => intro h; exact absurd rfl h
  | cons p r ih =>
    intro _ h
    by_cases hr : r = []
    · subst hr; rw [Lib.join_one]; exact cutL_miss (h p (by simp))
    · rw [join_cons2 _ _ _ hr, List.append_assoc]
      show cutL m (p ++ m :: Lib.join r [m]) = _
      rw [cutL_hit (h p (by simp)), ih hr (fun q hq => h q (by simp [hq]))]
theorem cut_hitX {m : UInt8} {x r : List UInt8} (h : m ∉ x) : Lib.cut (x ++ m :: r) [m] = (x, r, true) := by
  have h1 := cutL_hit (r := r) h
  have h2 := cutG_index m (x ++ m :: r) []
  have hge := Lib.index_ge (x ++ m :: r) [m]
  unfold cutL at h1
  rw [h1] at h2
  by_cases hi : Lib.index (x ++ m :: r) [m] = -1
  · rw [if_pos (by simpa using hi)] at h2
    exfalso
    have := congrArg List.length h2
    have hne := cutG_ne m r []
    cases hc : cutG m [] r with
    | nil => exact hne hc
    | cons a b => unfold cutL at this; rw [hc] at this; simp at this
  · rw [if_neg (by simpa using hi)] at h2
    simp only [List.nil_append, List.cons.injEq] at h2
    have hpos : 0 ≤ Lib.index (x ++ m :: r) [m] := by omega
    obtain ⟨i, hie⟩ := Int.eq_ofNat_of_zero_le hpos
    rw [hie] at h2
    simp only [Int.toNat_natCast] at h2
    have hil : i = x.length := by
      have := congrArg List.length h2.1
      simp only [List.length_take, List.length_append, List.length_cons] at this
      by_cases q : i ≤ x.length + (r.length + 1)
      · omega
      · exfalso
        omega
    unfold Lib.cut
    rw [if_pos hpos, hie, hil]
    simp
theorem itoa_mem {n : Int} (h : 0 ≤ n) {b : UInt8} (hb : b ∈ Lib.itoa n) : 48 ≤ b.toNat ∧ b.toNat ≤ 57 := by
  rw [itoa_pos (by omega)] at hb; exact dec_dig _ _ hb
theorem itoa_not {n : Int} (h : 0 ≤ n) {m : UInt8} (hm : m.toNat < 48 ∨ 57 < m.toNat) : m ∉ Lib.itoa n := fun hb => by have := itoa_mem h hb; omega
theorem opTx_not {k : Nat} (hk : k < 18) : (32 : UInt8) ∉ opTx k ∧ (59 : UInt8) ∉ opTx k ∧ (61 : UInt8) ∉ opTx k := by
  have : ∀ k : Fin 18, (32 : UInt8) ∉ opTx k.1 ∧ (59 : UInt8) ∉ opTx k.1 ∧ (61 : UInt8) ∉ opTx k.1 := by decide
  exact this ⟨k, hk⟩
theorem opI_opTx {k : Nat} (hk : k < 18) : opI (bstr (opTx k)) = k := by
  have h1 : ∀ k : Fin 18, idxN (fun j => opTx j == opTx k.1) 18 18 = (k.1 : Int) := by decide
  have h2 := h1 ⟨k, hk⟩
  unfold opI opEq
  rw [bstr_toList]
  exact h2
theorem valB_itoa {n : Int} (h0 : -1000000000 ≤ n) (h1 : n ≤ 1000000000) : valB (Lib.itoa n) = true := by
  unfold valB; rw [valN_itoa]; simp [inB_iff, h0, h1]
theorem stmR_stmT {x : SmV} (h : stmB x = true) : stmR (stmT x) = (x, true) := by
  unfold stmB at h
  simp only [Bool.and_eq_true, inB_iff] at h
  obtain ⟨⟨o0, o1⟩, ⟨d0, d1⟩, ⟨a0, a1⟩, b0, b1⟩ := h
  have ht : stmT x = Lib.itoa x.d ++ 61 :: (Lib.itoa x.a ++ 32 :: (opTx x.o.toNat ++ 32 :: Lib.itoa x.b)) := by simp [stmT]
  obtain ⟨n32, _, _⟩ := opTx_not (k := x.o.toNat) (by omega)
  unfold stmR
  rw [ht, cut_hitX (m := 61) (itoa_not d0 (by first | exact .inr (by decide) | exact .inl (by decide)))]
  simp only
  rw [cutL_hit (m := 32) (itoa_not a0 (by first | exact .inr (by decide) | exact .inl (by decide))), cutL_hit n32, cutL_miss (m := 32) (itoa_not b0 (by first | exact .inr (by decide) | exact .inl (by decide)))]
  unfold stmRs
  rw [if_pos (show List.length _ = 3 from rfl)]
  have hv : ∀ n : Int, 0 ≤ n → n ≤ 31 → valB (Lib.itoa n) = true ∧ vNum (Lib.itoa n) = n := fun n h0 h1 => by
    have := valB_itoa (n := n) (by omega) (by omega)
    refine ⟨this, ?_⟩
    unfold vNum; rw [if_pos this, valN_itoa]
  have ho := opI_opTx (k := x.o.toNat) (by omega)
  have ho2 : oB (opTx x.o.toNat) = true ∧ oNum (opTx x.o.toNat) = x.o := by
    unfold oB oNum; rw [ho]
    refine ⟨by simp; omega, ?_⟩
    rw [if_pos (by omega)]; omega
  simp only [ptx, List.getD_cons_zero, List.getD_cons_succ]
  rw [(hv x.d d0 d1).1, (hv x.d d0 d1).2, (hv x.a a0 a1).1, (hv x.a a0 a1).2, (hv x.b b0 b1).1, (hv x.b b0 b1).2, ho2.1, ho2.2]
  rfl
theorem stmT_ne (x : SmV) : stmT x ≠ [] := by unfold stmT; simp
theorem stmT_59 {x : SmV} (h : stmB x = true) : (59 : UInt8) ∉ stmT x := by
  unfold stmB at h
  simp only [Bool.and_eq_true, inB_iff] at h
  obtain ⟨⟨o0, o1⟩, ⟨d0, d1⟩, ⟨a0, a1⟩, b0, b1⟩ := h
  obtain ⟨_, n59, _⟩ := opTx_not (k := x.o.toNat) (by omega)
  unfold stmT
  simp only [List.mem_append, List.mem_singleton, not_or]
  exact ⟨⟨⟨⟨⟨⟨itoa_not d0 (by decide), by decide⟩, itoa_not a0 (by decide)⟩, by decide⟩, n59⟩, by decide⟩, itoa_not b0 (by decide)⟩
theorem codeT_nil : codeT [] = [] := by simp [codeT, Lib.join]
theorem codeT_ne {cs : List SmV} (h : cs ≠ []) : codeT cs ≠ [] := by
  cases cs with
  | nil => exact absurd rfl h
  | cons x r =>
    unfold codeT
    rw [List.map_cons, Lib.join_cons]
    intro q
    exact stmT_ne x (List.append_eq_nil_iff.1 q).1
/-- The code whose text was written is read back. -/
theorem rd_codeT {cs : List SmV} (hc : codeB cs = true) : rdB (codeT cs) = true ∧ rdC (codeT cs) = cs := by
  by_cases h : cs = []
  · subst h; rw [codeT_nil]; exact rd_nil
  · have hall : ∀ x ∈ cs, stmB x = true := by
      have := hc; unfold codeB at this; simp only [Bool.and_eq_true, List.all_eq_true] at this; exact this.2
    have hcut : cutL 59 (codeT cs) = cs.map stmT := cutL_parts (by simpa using h) (fun p hp => by
      obtain ⟨x, hx, rfl⟩ := List.mem_map.1 hp
      exact stmT_59 (hall x hx))
    have hL : rdL (codeT cs) = cs := by
      unfold rdL
      rw [hcut, List.map_map]
      have : cs.map (((fun p => (stmR p).1) ∘ stmT)) = cs.map id := List.map_congr_left fun x hx => by
        show (stmR (stmT x)).1 = x
        rw [stmR_stmT (hall x hx)]
      rw [this, List.map_id]
    obtain ⟨h1, h2⟩ := rd_yes (codeT_ne h) (by
      rw [hcut, List.all_map, List.all_eq_true]
      intro x hx
      show (stmR (stmT x)).2 = true
      rw [stmR_stmT (hall x hx)]) (by rw [hL]; exact hc)
    exact ⟨h1, by rw [h2, hL]⟩
end Go.Proofs.YtnnioicjmlfllaaGreatDoor
set_option linter.unusedVariables false
set_option linter.unusedSimpArgs false
namespace Go.Proofs.YtnnioicjmlfllaaGreatDoor
open Go.RowKit

theorem OC.emp (w : World) : OC (w.alloc (.cells #[] 45)) w.heap.size (w.heap.size + 1) (.slice (some ⟨w.heap.size, 0, none⟩) 0 0) [] := by
  have := Own.of (World.ownsRow_lit (base := w.heap.size) (e := 45) (size := 4) w #[] 0 (Nat.le_refl _) (by simp [maxLen]) rfl)
  simpa [OC, sfl, ints] using this
end Go.Proofs.YtnnioicjmlfllaaGreatDoor
set_option linter.unusedVariables false
set_option linter.unusedSimpArgs false
namespace Go.Proofs.YtnnioicjmlfllaaGreatDoor
open Go.RowKit

/-! ### Statements that are marked -/
theorem wrap64_inC {x : Int} (h0 : -9223372036854775808 ≤ x) (h1 : x ≤ 9223372036854775807) : wrap64 x = x := by unfold wrap64; omega
def mkCP (m : Int) (k : Nat) : SmV := ⟨m + 4 * k, m + 4 * k + 1, m + 4 * k + 2, m + 4 * k + 3⟩
def mkCS (m : Int) (n : Nat) : List SmV := (List.range n).map (mkCP m)
theorem mkCS_length (m : Int) (n : Nat) : (mkCS m n).length = n := by simp [mkCS]
theorem mkCS_at {m : Int} {n k : Nat} (h : k < n) : sel (mkCS m n) k = mkCP m k := by
  have := sel_get (xs := mkCS m n) (k := k) (by rw [mkCS_length]; exact h)
  unfold mkCS at this ⊢
  rw [List.getElem?_map, List.getElem?_range h] at this
  exact (Option.some.inj this).symm
theorem sfl_set {xs : List SmV} {k : Nat} (h : k < xs.length) (y : SmV) : ((((sfl xs).set (k * 4) y.o).set (k * 4 + 1) y.d).set (k * 4 + 2) y.a).set (k * 4 + 3) y.b = sfl (xs.set k y) := by
  have hl : (sfl (xs.take k)).length = k * 4 := by rw [sfl_length]; simp; omega
  have e : xs = xs.take k ++ (sel xs k :: xs.drop (k + 1)) := by rw [← sel_drop h, List.take_append_drop]
  have e2 : sfl xs = sfl (xs.take k) ++ ((sel xs k).o :: (sel xs k).d :: (sel xs k).a :: (sel xs k).b :: sfl (xs.drop (k + 1))) := by
    conv => lhs; rw [e]
    rw [sfl_append]; simp [sfl]
  have e3 : xs.set k y = xs.take k ++ (y :: xs.drop (k + 1)) := by rw [List.set_eq_take_append_cons_drop, if_pos h]
  rw [e2, e3, sfl_append, List.set_append_right _ _ (by omega), List.set_append_right _ _ (by omega), List.set_append_right _ _ (by omega), List.set_append_right _ _ (by omega), hl]
  simp [sfl]
theorem mkc_step {xs : List SmV} {m : Int} {k : Nat} (h : k < xs.length) : (mkCS m k ++ xs.drop k).set k (mkCP m k) = mkCS m (k + 1) ++ xs.drop (k + 1) := by
  rw [List.set_append_right _ _ (by rw [mkCS_length]; exact Nat.le_refl _), mkCS_length, Nat.sub_self, sel_drop h]
  simp [mkCS, List.range_succ]
theorem mkc_len {xs : List SmV} {m : Int} {k : Nat} (h : k ≤ xs.length) : (mkCS m k ++ xs.drop k).length = xs.length := by rw [List.length_append, mkCS_length, List.length_drop]; omega

end Go.Proofs.YtnnioicjmlfllaaGreatDoor
set_option linter.unusedVariables false
set_option linter.unusedSimpArgs false
namespace Go.Proofs.YtnnioicjmlfllaaGreatDoor
open Go.RowKit

theorem empty_of {s : ByteArray} (h : s.data.toList = []) : s = { data := #[] } := by
  have := bstr_data s
  rw [h] at this
  exact this.symm
theorem ne_empty {s : ByteArray} (h : s.data.toList ≠ []) : s.toList.isEmpty = false := by
  rw [ByteArray.toList_eq]
  cases q : s.data.toList with
  | nil => exact absurd q h
  | cons a l => rfl
theorem i_ReadCode (w : World) (s : ByteArray) (hs : s.size ≤ 1048576) (hf : Fit3 w) :
    Calls Tryz.prog 15 #[.string s] w (RetC w (rdC s.data.toList) (rdB s.data.toList)) := by
  have hsz : s.data.toList.length = s.size := by rw [Array.length_toList]; rfl
  by_cases hl : s.data.toList = []
  · rw [hl, rd_nil.1, rd_nil.2, empty_of hl]
    exact i_ReadCode0 w
  · have hml : ∀ p, p ∈ cutL 59 s.data.toList → p.length ≤ 1048576 := fun p hp => Nat.le_trans (cutL_mem_len hp) (by omega)
    have hpn : cutL 59 s.data.toList ≠ [] := cutG_ne 59 _ []
    have hcl := cutL_len 59 s
    have hbs := bstr_data s
    have HXB : ∀ k, k < (cutL 59 s.data.toList).length → (stmR (ptx (cutL 59 s.data.toList) k)).2 = false → rdC s.data.toList = [] ∧ rdB s.data.toList = false := fun k hk h => (rd_bad hl hk h).symm
    have HXF : codeB ((cutL 59 s.data.toList).map smR) = false → rdC s.data.toList = [] ∧ rdB s.data.toList = false := fun h => (rd_code hl h).symm
    have HXT : (∀ k, k < (cutL 59 s.data.toList).length → (stmR (ptx (cutL 59 s.data.toList) k)).2 = true) → codeB ((cutL 59 s.data.toList).map smR) = true → rdC s.data.toList = (cutL 59 s.data.toList).map smR ∧ rdB s.data.toList = true := fun h h2 => (rd_yes hl (rd_all h) h2).symm
    have HXX : (∀ k, k < (cutL 59 s.data.toList).length → (stmR (ptx (cutL 59 s.data.toList) k)).2 = true) → bstr (codeT ((cutL 59 s.data.toList).map smR)) = s := fun h => by
      have := rd_text (rd_all h)
      rw [rdL_smR] at this
      unfold codeT
      rw [this, hbs]
    have CS := fun W (hW : Below w.heap.size w W) => g_Split W s 59 (shaped_below hf.s hW) hs
    generalize cutL 59 s.data.toList = ps at *
    refine i_ReadCodeM w s ps _ _ (ne_empty hl) (by omega) (hid fun W hW => (CS W hW).mono fun e w' hq => ?_) (hid fun W k hW hk => ?_) (hid fun W A c hR => ?_) (hid fun W A c hW hR hc ha => ?_) (hid HXB) (hid HXF) (hid HXT)
    · obtain ⟨v, rfl, ho, hb⟩ := hq
      obtain ⟨g, c, rfl, h1, _⟩ := own_prt ho hpn
      exact ⟨g, c, rfl, h1, hb⟩
    · have := i_readStmt W (bstr (ptx ps k)) (by rw [bstr_size]; exact hml _ (ptx_mem hk)) (hf.below hW)
      rw [bstr_toList] at this
      exact this
    · have := i_ValidCodeB W A c (ps.map smR) (by rw [List.length_map]; omega) hR
      rw [List.length_map] at this
      exact this
    · have := i_codeText W A c (ps.map smR) hc (hf.p.below hW) (hf.a.below hW) hR
      rw [List.length_map, HXX ha] at this
      exact this

end Go.Proofs.YtnnioicjmlfllaaGreatDoor
set_option linter.unusedVariables false
set_option linter.unusedSimpArgs false
namespace Go.Proofs.YtnnioicjmlfllaaGreatDoor
open Go.RowKit

def codeR (xs : List SmV) : Value := .tuple #[.string (bstr (if codeB xs then codeT xs else [])), .bool (codeB xs)]
theorem codeR_no {xs : List SmV} (h : codeB xs = false) : codeR xs = .tuple #[.string { data := #[] }, .bool false] := by unfold codeR; rw [h]; rfl
theorem codeR_yes {xs : List SmV} (h : codeB xs = true) : codeR xs = .tuple #[.string (bstr (codeT xs)), .bool true] := by unfold codeR; rw [h]; rfl
theorem i_CodeText (w : World) (A : Option Addr) (c : Nat) (xs : List SmV) (hl : xs.length ≤ 1048576) (hp : Pow w) (ha : Asc w) (hR : RdC w A xs) :
    Calls Tryz.prog 14 #[.slice A xs.length c] w fun e w' => e = .returned (codeR xs) ∧ Below w.heap.size w w' := by
  have h1 := i_ValidCode w A c xs hl hR
  cases hv : codeB xs with
  | false =>
    rw [hv] at h1
    have HM := hid (codeR_no hv)
    clear hv hR
    go_enter Tryz.func14, Tryz.ntmps14
    go_wp2_with (go_at_call 37; refine h1.mono ?_; rintro e w1 ⟨rfl, hb1⟩)
    go_ret2
    exact ⟨by rw [HM.out]; rfl, hb1⟩
  | true =>
    have h2 := fun W (hW : Below w.heap.size w W) => i_codeText W A c xs hv (hp.below hW) (ha.below hW) (hR.below hW)
    rw [hv] at h1
    have HM := hid (codeR_yes hv)
    clear hv hR hp ha
    go_enter Tryz.func14, Tryz.ntmps14
    go_wp2_with (first | (go_at_call 37; refine h1.mono ?_; rintro e w1 ⟨rfl, hb1⟩) | (go_at_call 42; refine (h2 _ hb1).mono ?_; rintro e w2 ⟨rfl, hb2⟩))
    go_ret2
    exact ⟨by rw [HM.out]; rfl, bthen hb1 hb2⟩

end Go.Proofs.YtnnioicjmlfllaaGreatDoor
set_option linter.unusedVariables false
set_option linter.unusedSimpArgs false
namespace Go.Proofs.YtnnioicjmlfllaaGreatDoor
open Go.RowKit

theorem celB_of {bi : Int} {xs : List Int} (hb : bitsB bi = true) (h : xs.length = 32 ∧ xs.all (wordB bi) = true) : celB bi xs = true := by
  unfold celB; rw [hb, h.2, decide_eq_true h.1]; rfl
theorem join_lenX {M : Nat} (m : UInt8) : ∀ (ps : List (List UInt8)), (∀ p ∈ ps, p.length ≤ M) → (Lib.join ps [m]).length ≤ ps.length * (M + 1) := by
  intro ps
  induction ps with
  | nil => intro _; simp [Lib.join]
  | cons p r ih =>
    intro h
    have h0 := h p (by simp)
    rw [List.length_cons, Nat.succ_mul]
    by_cases hr : r = []
    · subst hr; rw [Lib.join_one]; omega
    · rw [join_cons2 _ _ _ hr]
      have := ih fun q hq => h q (by simp [hq])
      simp only [List.length_append, List.length_singleton]
      omega
theorem codeT_len' {cs : List SmV} (h : codeB cs = true) : (codeT cs).length ≤ 1048576 := by
  have hh := h
  unfold codeB at h
  simp only [Bool.and_eq_true, decide_eq_true_eq, List.all_eq_true] at h
  have := join_lenX (M := 40) 59 (cs.map stmT) (fun p hp => by
    obtain ⟨x, hx, rfl⟩ := List.mem_map.1 hp
    exact stmT_len (h.2 x hx))
  rw [List.length_map] at this
  have h3 : cs.length * 41 ≤ 16 * 41 := Nat.mul_le_mul_right _ h.1
  unfold codeT
  omega
theorem s_B10CellsB (bi : Int) (hb : bitsB bi = true) (w : World) (A : Option Addr) (c : Nat) (bs : List Int) (hl : bs.length ≤ 1048576) (hR : RdU w A bs) :
    Calls Tryz.prog 9 #[.slice A bs.length c, .int .i64 bi] w fun e w' => ∃ A' c' xs, e = .returned (.slice A' 32 c') ∧ celB bi xs = true ∧ RdI w' A' xs ∧ Below w.heap.size w w' := by
  have key : ∀ (e : Ending) (w' : World), (∃ v xs, e = .returned v ∧ (xs.length = 32 ∧ xs.all (wordB bi) = true) ∧ OI w' w.heap.size w'.heap.size v xs ∧ Below w.heap.size w w') → ∃ A' c' xs, e = .returned (.slice A' 32 c') ∧ celB bi xs = true ∧ RdI w' A' xs ∧ Below w.heap.size w w' := by
    rintro e w' ⟨v, xs, rfl, hx, ho, hb'⟩
    obtain ⟨A', c', rfl, _, _, hr⟩ := OI.shp ho
    exact ⟨A', c', xs, by rw [hx.1], celB_of hb hx, hr, hb'⟩
  rcases bitsB_or hb with rfl | rfl | rfl
  · exact (s_B10Cells4 w A c bs hl hR).mono key
  · exact (s_B10Cells8 w A c bs hl hR).mono key
  · exact (s_B10Cells16 w A c bs hl hR).mono key
theorem rwd_mem {xss : List (List Int)} {k : Nat} (h : k < xss.length) : rw_ xss k ∈ xss := by
  unfold rw_; rw [List.getD_eq_getElem?_getD, List.getElem?_eq_getElem h]; exact List.getElem_mem h
set_option maxRecDepth 100000 in
set_option maxHeartbeats 4000000 in
theorem law_Reordered (w : World) (A0 : Option Addr) (c0 : Nat) (xs0 : List Int) (A1 : Option Addr) (c1 : Nat) (xs1 : List Int) (hl0 : xs0.length ≤ 9223372036854775807) (hR0 : RdU w A0 xs0) (hl1 : xs1.length ≤ 9223372036854775807) (hR1 : RdU w A1 xs1) (hfit : Fit3 w) :
    Calls Tryz.prog 3 #[.slice A0 xs0.length c0, .slice A1 xs1.length c1] w fun e w' => e = .returned (.bool true) ∧ Below w.heap.size w w' := by
  have CL := hid (l_b10Long w A0 A1 xs0.length c0 xs1.length c1 hl0 hl1)
  cases hlong : (decide (1048576 < xs0.length) || decide (1048576 < xs1.length)) with
  | true =>
    rw [hlong] at CL
    clear hlong hR0 hR1
    go_enter Tryz.func3, Tryz.ntmps3
    go_wp2_with fail
    refine CL.out.mono ?_
    rintro e w1 ⟨rfl, rfl⟩
    go_wp2_with fail
    go_ret
    exact ⟨rfl, Below.refl _ _⟩
  | false =>
    rw [hlong] at CL
    have hs0 : xs0.length ≤ 1048576 := by simp at hlong; omega
    have hs1 : xs1.length ≤ 1048576 := by simp at hlong; omega
    have HU0 := hid hR0
    have HU1 := hid hR1
    have HF := hid hfit
    clear hlong hR0 hR1 hl0 hl1 hfit
    go_enter Tryz.func3, Tryz.ntmps3
    go_wp2_with fail
    refine CL.out.mono ?_
    rintro e w0 ⟨rfl, rfl⟩
    clear CL
    have CC := hid (s_B10Code w A0 c0 xs0 hs0 HU0.out)
    go_wp2_with fail
    refine CC.out.mono ?_
    rintro e w1 ⟨v5, cs, rfl, hcode, ho5, hb1⟩
    obtain ⟨A5, c5, rfl, _, _, hr5⟩ := OC.shp ho5
    have h16 := codeB_len hcode
    have HR1 := hid hr5
    have HB1 := hid hb1
    have HC := hid hcode
    have CC2 := hid (s_B10Bits w1 A1 c1 xs1 hs1 (HU1.out.below hb1))
    clear CC ho5 hr5 hb1 hcode
    go_wp2_with fail
    refine CC2.out.mono ?_
    rintro e w2 ⟨bi, rfl, hbi, hb2⟩
    have HR2 := hid (HR1.out.below hb2)
    have HB2 := hid (bthen HB1.out hb2)
    have HBI := hid hbi
    have CC3 := hid (s_B10Order w2 A1 A5 c1 c5 xs1 cs h16 hs1 (HU1.out.below HB2.out) HR2.out)
    clear CC2 HR1 HB1 hb2 hbi
    go_wp2_with fail
    refine CC3.out.mono ?_
    rintro e w3 ⟨v7, ys, rfl, ⟨hyl, hord⟩, ho7, hb3⟩
    obtain ⟨A7, c7, rfl, _, _, hr7⟩ := OI.shp ho7
    rw [hyl]
    have HYL := hid hyl
    have HORD := hid hord
    have HY3 := hid hr7
    have HR3 := hid (HR2.out.below hb3)
    have HB3 := hid (bthen HB2.out hb3)
    have CC4 := hid (s_B10CellsB bi HBI.out w3 A1 c1 xs1 hs1 (HU1.out.below HB3.out))
    clear CC3 HR2 HB2 ho7 hr7 hb3 hyl hord HU0 HU1
    go_wp2_with fail
    refine CC4.out.mono ?_
    rintro e w4 ⟨A8, c8, cells, rfl, hcel, hr8, hb4⟩
    have HCEL := hid hcel
    have HX4 := hid hr8
    have HY4 := hid (HY3.out.below hb4)
    have HR4 := hid (HR3.out.below hb4)
    have HB4 := hid (bthen HB3.out hb4)
    have CC5 := hid (i_ReorderCode w4 A5 A7 c5 c7 cs ys HC.out HYL.out HORD.out HR4.out HY4.out)
    clear CC4 HR3 HB3 HY3 hr8 hcel hb4
    go_wp2_with fail
    refine CC5.out.mono ?_
    rintro e w5 ⟨v9, rfl, ho9, hb5⟩
    obtain ⟨A9, c9, rfl, _, _, hr9⟩ := OC.shp ho9
    have HZ5 := hid hr9
    have HX5 := hid (HX4.out.below hb5)
    have HY5 := hid (HY4.out.below hb5)
    have HR5 := hid (HR4.out.below hb5)
    have HB5 := hid (bthen HB4.out hb5)
    have hcl : cells.length = 32 := celB_len HCEL.out
    have CC6 : Hid (∀ W A' c' (xs : List SmV), codeB xs = true → RdC W A' xs → RdI W A8 cells → Calls Tryz.prog 11 #[.int .i64 bi, .slice A' xs.length c', .slice A8 32 c8] W fun e w' => ∃ A2 c2, e = .returned (.tuple #[.slice A2 32 c2, .bool true]) ∧ RdI w' A2 (runR bi cells xs) ∧ Below W.heap.size W w') := hid (fun W A' c' xs hxc hxr hxi => by
      have := i_RunCode W bi A' A8 c' c8 xs cells hxc HCEL.out hxr hxi
      rw [hcl] at this
      refine this.mono ?_
      rintro e w' ⟨v, rfl, ho, hb⟩
      obtain ⟨A2, c2, rfl, _, _, hr⟩ := OI.shp ho
      rw [runR_len, hcl]
      exact ⟨A2, c2, rfl, hr, hb⟩)
    have HRUN := hid (ord_run (bi := bi) HC.out HYL.out HORD.out cells)
    have HMC := hid (ordM_code HC.out HYL.out HORD.out)
    have HRL : Hid ((runR bi cells cs).length = 32) := hid (by rw [runR_len, hcl])
    clear CC5 HR4 HB4 HY4 HX4 ho9 hr9 hb5 hcl
    go_wp2_with fail
    refine (CC6.out w5 A5 c5 cs HC.out HR5.out HX5.out).mono ?_
    rintro e w6 ⟨A11, c11, rfl, hr11, hb6⟩
    have HP6 := hid hr11
    have HZ6 := hid (HZ5.out.below hb6)
    have HX6 := hid (HX5.out.below hb6)
    have HY6 := hid (HY5.out.below hb6)
    have HR6 := hid (HR5.out.below hb6)
    have HB6 := hid (bthen HB5.out hb6)
    clear HR5 HB5 HY5 HX5 HZ5 hr11 hb6
    go_wp2_with fail
    refine (CC6.out w6 A9 c9 (ordM cs ys) HMC.out HZ6.out HX6.out).mono ?_
    rintro e w7 ⟨A13, c13, rfl, hr13, hb7⟩
    rw [HRUN.out] at hr13
    have HQ7 := hid hr13
    have HP7 := hid (HP6.out.below hb7)
    have HY7 := hid (HY6.out.below hb7)
    have HR7 := hid (HR6.out.below hb7)
    have HB7 := hid (bthen HB6.out hb7)
    have CC8 := hid (i_LevelsOf w7 A5 c5 cs HC.out HR7.out)
    have HLL := hid (levL_len cs cs.length)
    clear CC6 HR6 HB6 HY6 HX6 HZ6 HP6 hr13 hb7 HRUN HMC HCEL
    generalize runR bi cells cs = RC at *
    go_wp2_with fail
    refine CC8.out.mono ?_
    rintro e w8 ⟨v15, rfl, ho15, hb8⟩
    obtain ⟨A15, c15, rfl, _, _, hr15⟩ := OI.shp ho15
    rw [HLL.out]
    have HL8 := hid hr15
    have HQ8 := hid (HQ7.out.below hb8)
    have HP8 := hid (HP7.out.below hb8)
    have HY8 := hid (HY7.out.below hb8)
    have HR8 := hid (HR7.out.below hb8)
    have HB8 := hid (bthen HB7.out hb8)
    have CC9 := hid (i_DependencesOf w8 A5 c5 cs HC.out HR8.out)
    clear CC8 HR7 HB7 HY7 HP7 HQ7 ho15 hr15 hb8
    go_wp2_with fail
    refine CC9.out.mono ?_
    rintro e w9 ⟨v17, rfl, ho17, hb9⟩
    obtain ⟨A17, c17, rfl, _, _, hr17⟩ := OR.shp ho17
    have HD9 := hid hr17
    have HL9 := hid (HL8.out.below hb9)
    have HQ9 := hid (HQ8.out.below hb9)
    have HP9 := hid (HP8.out.below hb9)
    have HY9 := hid (HY8.out.below hb9)
    have HR9 := hid (HR8.out.below hb9)
    have HB9 := hid (bthen HB8.out hb9)
    have CC10 : Hid (Calls Tryz.prog 14 #[.slice A5 cs.length c5] w9 fun e w' => e = .returned (.tuple #[.string (bstr (codeT cs)), .bool true]) ∧ Below w9.heap.size w9 w') := hid (by
      have := i_CodeText w9 A5 c5 cs (by omega) (HF.out.below HB9.out).p (HF.out.below HB9.out).a HR9.out
      unfold codeR at this
      rw [HC.out] at this
      exact this)
    clear CC9 HR8 HB8 HY8 HP8 HQ8 HL8 ho17 hr17 hb9
    go_wp2_with fail
    refine CC10.out.mono ?_
    rintro e w10 ⟨rfl, hb10⟩
    have HD10 := hid (HD9.out.below hb10)
    have HL10 := hid (HL9.out.below hb10)
    have HQ10 := hid (HQ9.out.below hb10)
    have HP10 := hid (HP9.out.below hb10)
    have HY10 := hid (HY9.out.below hb10)
    have HR10 := hid (HR9.out.below hb10)
    have HB10 := hid (bthen HB9.out hb10)
    have CC11 : Hid (Calls Tryz.prog 15 #[.string (bstr (codeT cs))] w10 (RetC w10 cs true)) := hid (by
      have := i_ReadCode w10 (bstr (codeT cs)) (by rw [bstr_size]; exact codeT_len' HC.out) (HF.out.below HB10.out)
      rw [bstr_toList, (rd_codeT HC.out).1, (rd_codeT HC.out).2] at this
      exact this)
    clear CC10 HR9 HB9 HY9 HP9 HQ9 HL9 HD9 hb10
    go_wp2_with fail
    refine CC11.out.mono ?_
    rintro e w11 ⟨v21, rfl, ho21, hb11⟩
    obtain ⟨A21, c21, rfl, _, _, hr21⟩ := OC.shp ho21
    have HK11 := hid hr21
    have HD11 := hid (HD10.out.below hb11)
    have HL11 := hid (HL10.out.below hb11)
    have HR11 := hid (HR10.out.below hb11)
    have HB11 := hid (bthen HB10.out hb11)
    have CC12 := hid (i_IsOrder w11 A5 A7 c5 c7 cs ys HC.out HYL.out HORD.out HR11.out (HY10.out.below hb11))
    have CC13 : Hid (∀ W, Below w11.heap.size w11 W → Calls Tryz.prog 17 #[.slice A11 32 c11, .slice A13 32 c13] W fun e w' => e = .returned (.bool true) ∧ Below W.heap.size W w') := hid (fun W hW => l_b10Nums W A11 A13 c11 c13 32 RC HRL.out (by omega) ((HP10.out.below hb11).below hW) ((HQ10.out.below hb11).below hW))
    clear CC11 HR10 HB10 HY10 HP10 HQ10 HL10 HD10 ho21 hr21 hb11 HYL HORD HRL HF
    have hnn : ((cs.length : Int) != (cs.length : Int)) = false := by simp
    go_wp2_with (first
      | (go_at_call 16; refine CC12.out.mono ?_; rintro e w12 ⟨rfl, hb12⟩; have HB12 := hid hb12; clear hb12)
      | (go_at_call 17; refine (CC13.out _ HB12.out).mono ?_; rintro e w13 ⟨rfl, hb13⟩; have HB13 := hid (bthen HB12.out hb13); clear hb13))
    have HD := hid (HD11.out.below HB13.out)
    have HL := hid (HL11.out.below HB13.out)
    have HR := hid (HR11.out.below HB13.out)
    have HK := hid (HK11.out.below HB13.out)
    have HB := hid (bthen HB11.out HB13.out)
    clear CC12 CC13 HD11 HL11 HR11 HK11 HB11 HB12 HB13
    have hT : (depL cs cs.length).length ≤ 256 := by
      have h1 := depL_few cs cs.length
      have h3 : cs.length * cs.length ≤ 16 * 16 := Nat.mul_le_mul (by omega) (by omega)
      omega
    have HCA := hid (cnt_all cs)
    have HCL := hid (fun j i => @cnt_le cs j i)
    have HCS := hid (fun j i => @cnt_step cs j i)
    have HCN := hid (fun j => cnt_next cs j)
    have HLA := hid (fun j => @levL_at cs cs.length j)
    have HLB := hid (fun j => levL_bnd cs cs.length j)
    have HMM := hid (fun k (hk : k < (depL cs cs.length).length) => depL_mem (rwd_mem hk))
    have HC0 : Hid (cntN cs 0 0 = 0) := hid rfl
    have HM0 : Hid (∀ j, levM cs (levL cs cs.length) j 0 = 0) := hid (fun j => rfl)
    have HMS : Hid (∀ j i, levM cs (levL cs cs.length) j (i + 1) = if folB (sel cs i) (sel cs j) then max (levM cs (levL cs cs.length) j i) (el (levL cs cs.length) i + 1) else levM cs (levL cs cs.length) j i) := hid (fun _ _ => rfl)
    have HMB : Hid (∀ j i, i ≤ j → j < cs.length → 0 ≤ levM cs (levL cs cs.length) j i ∧ levM cs (levL cs cs.length) j i ≤ 17) := hid (fun j i h1 h2 => levM_bnd (m := 16) (fun k hk => by have := levL_bnd cs cs.length k (by omega); omega))
    generalize levL cs cs.length = LV at *
    generalize depL cs cs.length = DP at *
    go_wp2
    go_loopg [23, 24] cs.length (fun gg s23 s24 wr => ∃ j : Nat, j ≤ cs.length ∧ cs.length - j ≤ gg ∧ s24 = .int .i64 j ∧ ∃ p : Nat, s23 = .int .i64 p ∧ Aside (p = cntN cs j 0) ∧ Aside (Below w13.heap.size w13 wr))
    case atStart => exact ⟨0, Nat.zero_le _, by omega, rfl, 0, rfl, HC0.out.symm, Below.refl _ _⟩
    case round =>
      obtain ⟨j, hj, hg, rfl, p, rfl, HP, BJ⟩ := hrel
      obtain ⟨wj, rfl⟩ : ∃ wj : World, wj = wr := ⟨_, rfl⟩
      by_cases hltj : j < cs.length
      · have hjz : (j : Int) < (cs.length : Int) := by omega
        have HJ := hid hltj
        have HJG := hid hg
        have HBJ := hid BJ.out
        have HPJ := hid HP.out
        clear HP BJ hg hltj
        go_wp2
        go_loopg [23, 25, 26] j (fun gg s23 s25 s26 wr => ∃ i : Nat, i ≤ j ∧ j - i ≤ gg ∧ s26 = .int .i64 i ∧ ∃ (q : Nat) (lm : Int), s23 = .int .i64 q ∧ s25 = .int .i64 lm ∧ Aside (q = cntN cs j i) ∧ Aside (lm = levM cs LV j i) ∧ Aside (Below w13.heap.size w13 wr))
        case atStart => exact ⟨0, Nat.zero_le _, by omega, rfl, p, 0, rfl, rfl, HPJ.out, (HM0.out j).symm, HBJ.out⟩
        case round =>
          obtain ⟨i, hi, hgi, rfl, q, lm, rfl, rfl, HQ, HM, BI⟩ := hrel
          obtain ⟨wi, rfl⟩ : ∃ wi : World, wi = wr := ⟨_, rfl⟩
          have hmb := HMB.out j i hi HJ.out
          rw [← HM.out] at hmb
          obtain ⟨hlm0, hlm1⟩ := hmb
          by_cases hlti : i < j
          · have hiz : (i : Int) < (j : Int) := by omega
            have hjn := HJ.out
            have hi16 : (i : Int) < 16 := by omega
            have hicz : (i : Int) < (cs.length : Int) := by omega
            have CM := hid (i_MustFollow wi A5 c5 cs i j HC.out hlti hjn (HR.out.below BI.out))
            have hlb := HLB.out i (by omega)
            obtain ⟨hlb0, hlb1⟩ := hlb
            obtain ⟨bl, ol, rfl, hcl⟩ := (HL.out.below BI.out).get (k := i) (by have := HLL.out; omega)
            have HS1 := HCS.out j i hlti
            rw [← HQ.out] at HS1
            have HS2 := HMS.out j i
            rw [← HM.out] at HS2
            have HCLE : Hid (cntN cs j (i + 1) ≤ DP.length) := hid (HCL.out j (i + 1) (by omega) hjn)
            have HBI := hid BI.out
            have HIL := hid hlti
            have HIG := hid hgi
            clear HQ HM BI hi hgi hlti hjn
            generalize folB (sel cs i) (sel cs j) = r at *
            generalize el LV i = li at *
            cases r with
            | false =>
              have HS1 := hid HS1
              have HS2 := hid HS2
              clear hcl
              go_wp2_with (go_at_call 18; refine CM.out.mono ?_; rintro e w14 ⟨rfl, hb14⟩; have HB14 := hid (bthen HBI.out hb14); clear hb14)
              go_roundg (j - (i + 1))
              case measure => have := HIL.out; have := HIG.out; go_light; omega
              case rel => exact ⟨i + 1, HIL.out, Nat.le_refl _, by have := HIL.out; have := HJ.out; go_num, q, lm, rfl, rfl, by have := HS1.out; simp at this; exact this.symm, by have := HS2.out; simp at this; exact this.symm, HB14.out⟩
            | true =>
              rw [if_pos rfl] at HS1 HS2
              have hqT : q + 1 ≤ DP.length := by have := HCLE.out; omega
              have hqz : ¬ (DP.length : Int) ≤ (q : Int) := by omega
              have hq16 : (q : Int) < 256 := by omega
              have HS1 := hid HS1
              have HIL2 := hid hcl
              clear hqT
              by_cases hge : lm ≤ li
              · have HS3 : Hid (li + 1 = levM cs LV j (i + 1)) := hid (by rw [HS2]; omega)
                clear HS2 hcl
                go_wp2_with (go_at_call 18; refine CM.out.mono ?_; rintro e w14 ⟨rfl, hb14⟩; have HB14 := hid (bthen HBI.out hb14); have hcl := bcell hb14 HIL2.out; clear hb14)
                go_roundg (j - (i + 1))
                case measure => have := HIL.out; have := HIG.out; go_light; omega
                case rel => exact ⟨i + 1, HIL.out, Nat.le_refl _, by have := HIL.out; have := HJ.out; go_num, q + 1, li + 1, by go_num, by go_num, HS1.out.symm, HS3.out, HB14.out⟩
              · have HS3 : Hid (lm = levM cs LV j (i + 1)) := hid (by rw [HS2]; omega)
                clear HS2 hcl
                go_wp2_with (go_at_call 18; refine CM.out.mono ?_; rintro e w14 ⟨rfl, hb14⟩; have HB14 := hid (bthen HBI.out hb14); have hcl := bcell hb14 HIL2.out; clear hb14)
                go_roundg (j - (i + 1))
                case measure => have := HIL.out; have := HIG.out; go_light; omega
                case rel => exact ⟨i + 1, HIL.out, Nat.le_refl _, by have := HIL.out; have := HJ.out; go_num, q + 1, lm, by go_num, rfl, HS1.out.symm, HS3.out, HB14.out⟩
          · obtain rfl : i = j := by omega
            have hiz : ¬ (i : Int) < (i : Int) := by omega
            have hjn := HJ.out
            have hi16 : (i : Int) < 16 := by omega
            have hla := HLA.out i hjn
            rw [← HM.out] at hla
            obtain ⟨bl, ol, rfl, hcl⟩ := (HL.out.below BI.out).get (k := i) (by have := HLL.out; omega)
            rw [hla] at hcl
            obtain ⟨b, off, rfl, hat⟩ := (HR.out.below BI.out).get hjn
            obtain ⟨b', off', rfl, hat'⟩ := (HK.out.below BI.out).get hjn
            have l0 := lcell hcl
            have qi := fun z => lat_stm hat z
            have qj := fun z => lat_stm hat' z
            have HQN : Hid (q = cntN cs (i + 1) 0) := hid (by rw [← HCN.out i]; exact HQ.out)
            have HBI := hid BI.out
            clear hla hat hat' hcl hi hgi HQ HM BI hjn
            generalize sel cs i = x at *
            have a0 := fun z => (qi z).1
            have a1 := fun z => (qi z).2.1
            have a2 := fun z => (qi z).2.2.1
            have a3 := fun z => (qi z).2.2.2
            have b0 := fun z => (qj z).1
            have b1 := fun z => (qj z).2.1
            have b2 := fun z => (qj z).2.2.1
            have b3 := fun z => (qj z).2.2.2
            clear qi qj
            obtain ⟨o, d, a, s⟩ := x
            simp only at a0 a1 a2 a3 b0 b1 b2 b3
            go_wp2
            refine wp_region_calm (by kernel_rfl) (by kernel_rfl) ?_
            repeat (go_big_quiet_step (fail))
            refine wpQuiet_nil ?_
            intro _ hw'
            obtain ⟨xq, hw''⟩ := hw'
            subst hw''
            have HB15 := hid (bthen HBI.out xq.below)
            clear a0 a1 a2 a3 b0 b1 b2 b3 l0
            go_wp2
            go_roundg (cs.length - (i + 1))
            case measure => have := HJ.out; have := HJG.out; go_light; omega
            case rel => exact ⟨i + 1, HJ.out, Nat.le_refl _, by have := HJ.out; go_num, q, rfl, HQN.out, HB15.out⟩
      · obtain rfl : j = cs.length := by omega
        have hjz : ¬ ((cs.length : Nat) : Int) < ((cs.length : Nat) : Int) := by omega
        obtain rfl : p = DP.length := by rw [HP.out]; exact HCA.out
        have HBJ := hid BJ.out
        clear HP BJ
        go_wp2
        go_loopg [27] DP.length (fun gg s27 wr => ∃ k : Nat, k ≤ DP.length ∧ DP.length - k ≤ gg ∧ s27 = .int .i64 k ∧ Aside (Below w13.heap.size w13 wr))
        case atStart => exact ⟨0, Nat.zero_le _, by omega, rfl, HBJ.out⟩
        case round =>
          obtain ⟨k, hk, hgk, rfl, BK⟩ := hrel
          obtain ⟨wk, rfl⟩ : ∃ wk : World, wk = wr := ⟨_, rfl⟩
          by_cases hltk : k < DP.length
          · have hkz : (k : Int) < (DP.length : Int) := by omega
            obtain ⟨i, j, hi, hj', hij, hfl, hpe⟩ := HMM.out k hltk
            obtain ⟨b, off, A', c', rfl, hrc, _, hri⟩ := (HD.out.below BK.out).get hltk
            rw [hpe] at hrc hri
            obtain ⟨b2, off2, rfl, h0⟩ := hri.get (k := 0) (by simp)
            obtain ⟨b3, off3, e, h1⟩ := hri.get (k := 1) (by simp)
            cases e
            have l0 : ∀ x : Lat wk, x.val.cell? ⟨b, off + k, none⟩ = some (.slice (some ⟨b2, off2, none⟩) 2 c') := lcell hrc
            have l1 : ∀ x : Lat wk, x.val.cell? ⟨b2, off2, none⟩ = some (.int .i64 (i : Nat)) := lcell h0
            have l2 : ∀ x : Lat wk, x.val.cell? ⟨b2, off2 + 1, none⟩ = some (.int .i64 (j : Nat)) := lcell h1
            have CM : Hid (∀ z : Lat wk, Calls Tryz.prog 18 #[.slice A5 cs.length c5, .int .i64 (i : Nat), .int .i64 (j : Nat)] z.val fun e w' => e = .returned (.bool true) ∧ Below z.val.heap.size z.val w') := hid (fun z => by
              have := i_MustFollow z.val A5 c5 cs i j HC.out hij hj' (HR.out.below (bthen BK.out z.below))
              rw [hfl] at this
              exact this)
            have HBK := hid BK.out
            clear hi hj' hij hfl hpe hrc hri h0 h1 BK
            go_wp2
            refine wp_region_calm (by kernel_rfl) (by kernel_rfl) ?_
            repeat (go_big_quiet_step ((go_at_call 18; exact calm_of (CM.out _))))
            refine wpQuiet_nil ?_
            intro _ hw'
            obtain ⟨xq, hw''⟩ := hw'
            subst hw''
            have HB16 := hid (bthen HBK.out xq.below)
            clear l0 l1 l2 CM
            go_wp2
            go_roundg (DP.length - (k + 1))
            case measure => omega
            case rel => exact ⟨k + 1, by omega, by omega, by go_num, HB16.out⟩
          · obtain rfl : k = DP.length := by omega
            have hkz : ¬ ((DP.length : Nat) : Int) < ((DP.length : Nat) : Int) := by omega
            have HBK := hid BK.out
            clear BK
            go_wp2
            go_ret
            exact ⟨ret_b (by simp), bthen HB.out HBK.out⟩
end Go.Proofs.YtnnioicjmlfllaaGreatDoor
set_option linter.unusedVariables false
set_option linter.unusedSimpArgs false
namespace Go.Proofs.YtnnioicjmlfllaaGreatDoor
open Go.ChangeShapes Go.WideShapes Go.ChangeAt Go.RowKit
theorem own : ownKnob Tryz.prog.godebug = none := by kernel_rfl
theorem laidOut : laidOutB Tryz.prog = true := by kernel_rfl
theorem cellsInt : Tryz.prog.cellsOf 2 = 1 := by kernel_rfl
set_option maxRecDepth 100000 in
theorem open_I {H : Type} {enc : TypeId × Value → H} {W : World} {base : Nat} {v : Value} {d : DataW H} {p : List MemPlace}
    (hv : Value.okWide Tryz.prog W .any base 27 v) (h : DataW.Trod enc Tryz.prog W 0 (fun _ => true) true 27 v d p) :
    ∃ (A : Option Addr) (c : Nat) (xs : List Int), v = .slice A xs.length c ∧ xs.length ≤ 9223372036854775807 ∧ RdI W A xs := by
  obtain ⟨a, len, cap, rfl⟩ := okWide_slice Tryz.underlying27 hv
  obtain ⟨fuel, hf⟩ := h
  rcases open_ints Tryz.underlying27 Tryz.underlying2 cellsInt hf with ⟨hcs, _⟩ | ⟨x, l, c, zs, hcs, _, hl, hm, hz, _, hcell, _⟩
  · simp [Value.cells] at hcs
    obtain ⟨rfl, rfl, rfl⟩ := hcs
    exact ⟨none, 0, [], rfl, by simp, fun k hk => absurd hk (Nat.not_lt_zero _)⟩
  · simp [Value.cells] at hcs
    obtain ⟨rfl, rfl, rfl⟩ := hcs
    simp only [if_true] at hz
    have hlen : (zs.take len).length = len := by rw [List.length_take]; omega
    refine ⟨some x, cap, zs.take len, by rw [hlen], by rw [hlen]; simp only [maxLen] at hm; omega, ?_⟩
    intro k hk
    rw [hlen] at hk
    have hc := hcell k (by omega)
    have he : el (zs.take len) k = zs.getD k 0 := by
      unfold el; rw [List.getD_eq_getElem?_getD, List.getD_eq_getElem?_getD, List.getElem?_take_of_lt hk]
    have hs : x.spot = none := by
      have hc0 := hcell 0 (by omega)
      cases hx : x.spot with
      | none => rfl
      | some s =>
        rw [show x.add 0 = x from rfl] at hc0
        simp only [World.cell?] at hc0
        split at hc0
        · rw [if_pos (by rw [hx]; rfl)] at hc0; cases hc0
        · cases hc0
    obtain ⟨b, off, s⟩ := x
    obtain rfl : s = none := hs
    refine ⟨b, off, rfl, ?_⟩
    show W.cell? _ = some (.int .i64 (el (List.take len zs) k))
    rw [he, ← hc]
    congr 1
    unfold Addr.add
    split
    · rename_i h; subst h; rfl
    · rfl
end Go.Proofs.YtnnioicjmlfllaaGreatDoor
set_option linter.unusedVariables false
set_option linter.unusedSimpArgs false
namespace Go.Proofs.YtnnioicjmlfllaaGreatDoor
open Go.ChangeShapes Go.WideShapes Go.ChangeAt Go.RowKit
theorem cellsU8 : Tryz.prog.cellsOf 5 = 1 := by kernel_rfl
set_option maxRecDepth 100000 in
theorem open_U {H : Type} {enc : TypeId × Value → H} {W : World} {base : Nat} {v : Value} {d : DataW H} {p : List MemPlace}
    (hv : Value.okWide Tryz.prog W .any base 22 v) (h : DataW.Trod enc Tryz.prog W 0 (fun _ => true) true 22 v d p) :
    ∃ (A : Option Addr) (c : Nat) (xs : List Int), v = .slice A xs.length c ∧ xs.length ≤ 9223372036854775807 ∧ RdU W A xs := by
  obtain ⟨a, len, cap, rfl⟩ := okWide_slice Tryz.underlying22 hv
  obtain ⟨fuel, hf⟩ := h
  rcases open_ints Tryz.underlying22 Tryz.underlying5 cellsU8 hf with ⟨hcs, _⟩ | ⟨x, l, c, zs, hcs, _, hl, hm, hz, _, hcell, hwf⟩
  · simp [Value.cells] at hcs
    obtain ⟨rfl, rfl, rfl⟩ := hcs
    exact ⟨none, 0, [], rfl, by simp, fun k hk => absurd hk (Nat.not_lt_zero _), fun k hk => absurd hk (Nat.not_lt_zero _)⟩
  · simp [Value.cells] at hcs
    obtain ⟨rfl, rfl, rfl⟩ := hcs
    simp only [if_true] at hz
    have hlen : (zs.take len).length = len := by rw [List.length_take]; omega
    have he : ∀ k, k < len → el (zs.take len) k = zs.getD k 0 := fun k hk => by
      unfold el; rw [List.getD_eq_getElem?_getD, List.getD_eq_getElem?_getD, List.getElem?_take_of_lt hk]
    refine ⟨some x, cap, zs.take len, by rw [hlen], by rw [hlen]; simp only [maxLen] at hm; omega, ?_, ?_⟩
    · intro k hk
      rw [hlen] at hk
      have hc := hcell k (by omega)
      have hs : x.spot = none := by
        have hc0 := hcell 0 (by omega)
        cases hx : x.spot with
        | none => rfl
        | some s =>
          rw [show x.add 0 = x from rfl] at hc0
          simp only [World.cell?] at hc0
          split at hc0
          · rw [if_pos (by rw [hx]; rfl)] at hc0; cases hc0
          · cases hc0
      obtain ⟨b, off, s⟩ := x
      obtain rfl : s = none := hs
      refine ⟨b, off, rfl, ?_⟩
      show W.cell? _ = some (.int .u8 (el (List.take len zs) k))
      rw [he k hk, ← hc]
      congr 1
      unfold Addr.add
      split
      · rename_i h; subst h; rfl
      · rfl
    · intro k hk
      rw [hlen] at hk
      rw [he k hk]
      have hm' : zs.getD k 0 ∈ zs := by
        rw [List.getD_eq_getElem?_getD, List.getElem?_eq_getElem (by omega)]; exact List.getElem_mem _
      have hw := hwf _ hm'
      simp only [Lit.wf, Bool.and_eq_true, decide_eq_true_eq] at hw
      exact hw
end Go.Proofs.YtnnioicjmlfllaaGreatDoor
/- For every input the law FnReordered holds: the call returns true; no condition. -/
set_option linter.unusedVariables false
set_option linter.unusedSimpArgs false
namespace Go.Proofs.YtnnioicjmlfllaaGreatDoor.fnReordered
open Go.ChangeShapes Go.WideShapes Go.ChangeAt Go.RowKit
open Go.ChangeMaps (open_string shut_string)
theorem own : ownKnob Tryz.prog.godebug = none := by kernel_rfl
theorem laidOut : laidOutB Tryz.prog = true := by kernel_rfl
def LD : List (String × DataW Unit) := [("math/bits.deBruijn32tab", Rows.laid_math_bits_deBruijn32tab), ("math/bits.deBruijn64tab", Rows.laid_math_bits_deBruijn64tab), ("internal/strconv.uint64pow10", Rows.laid_internal_strconv_uint64pow10), ("unicode/utf8.acceptRanges", Rows.laid_unicode_utf8_acceptRanges), ("strconv.ErrRange", Rows.laid_strconv_ErrRange), ("strconv.ErrSyntax", Rows.laid_strconv_ErrSyntax), ("unicode.White_Space", Rows.laid_unicode_White_Space), ("strings.asciiSpace", Rows.laid_strings_asciiSpace), ("unicode/utf8.first", Rows.laid_unicode_utf8_first)]
theorem wrap {H : Type} {enc : TypeId × Value → H} {a : Assume} {C : Checked} {os : Os} {f : FuncId} {fn : Func} {s : ChangeSpec} {conds : List PathCond} {apart fresh handsOn again : Bool} {X : World → Array Value → Prop}
    (hX : ∀ (w w' : World) (args : Array Value), w.heap = w'.heap → X w args → X w' args)
    (own : ownKnob C.prog.godebug = none) (started : os.Started) (noInit : C.prog.inits.idxOf? f = none) (hfn : C.prog.funcs[f]? = some fn)
    (witness : ∃ (w : World) (tape : Tape) (i : Input), w.os = os ∧ (w.forCall tape i).Shaped C.prog ∧ i.vars = [] ∧ Input.okWide C.prog (w.forCall tape i) .any w.heap.size f i ∧
      ((s.pre enc C.prog fn conds apart (w.forCall tape i).memory i.args ∧ X (w.forCall tape i).memory i.args) ∧ sizedMet enc C.prog fn (OpenSpec.ofChange s) apart (w.forCall tape i).memory i.args) ∧ a.holds C.prog (lone (Frame.enter C.prog f i.args .normal) [] (w.forCall tape i)))
    (contract : ∀ (W : World) (base : Nat) (args : Array Value) (ds gs : List (DataW H)) (before : List MemPlace),
      (∀ (j : Nat) t v, fn.params[j]? = some t → args[j]? = some v → Value.okWide C.prog W .any base t v) →
      DataW.Whole enc C.prog fn.params.toList s.vars apart W args.toList ds gs before →
      X W args → W.ShapedOpen C.prog →
      Calls C.prog f args W fun e W' => ∃ v, e = .returned v ∧ s.post enc C.prog fn apart fresh handsOn again W args v W') :
    ReturnsInHanded a C os f .any (fun w args => (s.pre enc C.prog fn conds apart w args ∧ X w args) ∧ sizedMet enc C.prog fn (OpenSpec.ofChange s) apart w args) (s.post enc C.prog fn apart fresh handsOn again) := by
  refine returnsInHanded_of_calls own started noInit witness ?_
  intro w tape i _ hsh _ hok hpre hholds
  obtain ⟨_, _, _, fn', hfn', _, _, _, _, hval⟩ := hok
  obtain rfl : fn' = fn := Option.some.inj (hfn'.symm.trans hfn)
  obtain ⟨⟨⟨ds, gs, before, hw, hc⟩, hx⟩, hz⟩ := hpre
  have hw' := DataW.Whole.of_heap (w' := w.forCall tape i) (by rfl) hw
  refine (contract (w.forCall tape i) w.heap.size i.args ds gs before hval hw' (hX _ _ _ (by rfl) hx) hsh).mono fun e W' ⟨v, he, hp⟩ => ?_
  subst he
  exact ChangeSpec.post_blind hp
set_option maxRecDepth 100000 in
theorem lifted (os : Os) (started : os.Started) (H : Type) (enc : TypeId × Value → H) :
    ReturnsInHanded {} Tryz.checked os 3 .any (fun w args => (Rows.fnReorderedSpec.pre enc Tryz.prog Tryz.f3 [] false w args ∧ laidMetH Tryz.prog LD w) ∧ sizedMet enc Tryz.prog Tryz.f3 (OpenSpec.ofChange Rows.fnReorderedSpec) false w args) (Rows.fnReorderedSpec.post enc Tryz.prog Tryz.f3 false true false false) := by
  refine wrap (C := Tryz.checked) (X := fun w _ => laidMetH Tryz.prog LD w) (fun _ _ _ hh h => h.of_heap hh) own started (by kernel_rfl) Tryz.func3
    (ChangeSpec.witness_shaped (enc := enc) (C := Tryz.checked) (os := os) (X := fun w _ => laidMetH Tryz.prog LD w) false (World.laidAll Tryz.prog os LD) #[.slice none 0 0, .slice none 0 0] 8 (World.laidAll_os _ _ _)
      (World.shaped_of_ZipB (by kernel_rfl) (by kernel_rfl)) (by kernel_rfl) (by kernel_rfl) (by kernel_rfl)
      (by rw [MakeChecks.laidMetH_plain _ _ _ (by kernel_rfl)]; exact laidMet_laidAll _ (by kernel_rfl) (by kernel_rfl))) ?_
  intro W base args ds gs before hval0 hW hL hsh
  have hval : ∀ (j : Nat) t v, Tryz.f3.params[j]? = some t → args[j]? = some v → Value.okWide Tryz.prog W .any base t v := hval0
  have hW' := hW
  obtain ⟨p, q, hA0, hV, rfl, hfz, hnd⟩ := hW
  have hA : DataW.TrodAll enc Tryz.prog W 0 (fun _ => true) true Tryz.f3.params.toList args.toList ds p := hA0
  rw [Tryz.params3] at hA hval
  obtain ⟨v0, vs0, d0, ds0, p0, q0, hargs, rfl, rfl, h0, r0⟩ := trodAll_cons hA
  obtain ⟨v1, vs1, d1, ds1, p1, q1, rfl, rfl, rfl, h1, r1⟩ := trodAll_cons r0
  obtain ⟨rfl, rfl, rfl⟩ := trodAll_nil r1
  obtain rfl : args = #[v0, v1] := by cases args; simp_all
  obtain ⟨rfl, rfl⟩ := trodVars_none hV
  have k0 := h0
  have lt0 : ∀ x ∈ p0, x.block < W.heap.size := by obtain ⟨m, hm⟩ := k0; exact DataW.trod_lt m _ _ _ hm
  obtain ⟨A0, c0, xs0, rfl, hl0, hR0⟩ := open_U (hval 0 22 v0 rfl rfl) h0
  have k1 := h1
  have lt1 : ∀ x ∈ p1, x.block < W.heap.size := by obtain ⟨m, hm⟩ := k1; exact DataW.trod_lt m _ _ _ hm
  obtain ⟨A1, c1, xs1, rfl, hl1, hR1⟩ := open_U (hval 1 22 v1 rfl rfl) h1
  rw [MakeChecks.laidMetH_plain _ _ _ (by kernel_rfl)] at hL
  have hp : Pow W := Lib.tabIs_of_head (g := 5) (t := 231) (e := 121) (n := 20) (by kernel_rfl) (by kernel_rfl) Tryz.underlying231 Tryz.underlying121 (by kernel_rfl) (by kernel_rfl) (show laidMet Tryz.prog (("internal/strconv.uint64pow10", Lib.tabData .u64 Lib.pow10Tab) :: _) W from laidMet.tail (laidMet.tail (hL)))
  have ha : Asc W := Lib.tabIs_of_head (g := 0) (t := 190) (e := 5) (n := 256) (by kernel_rfl) (by kernel_rfl) Tryz.underlying190 Tryz.underlying5 (by kernel_rfl) (by kernel_rfl) (show laidMet Tryz.prog (("strings.asciiSpace", Lib.tabData .u8 Lib.asciiSpaceTab) :: _) W from laidMet.tail (laidMet.tail (laidMet.tail (laidMet.tail (laidMet.tail (laidMet.tail (laidMet.tail (hL))))))))
  have row_es : ∀ u, Tryz.prog.typeName? 3 u = some "*errors.errorString" → u = 251 := fun u h => typeName_ptr_named (nm := "errors.errorString") (by rw [show "*" ++ "errors.errorString" = "*errors.errorString" by decide]; kernel_rfl) (by kernel_rfl) (by decide) u (by rw [show "*" ++ "errors.errorString" = "*errors.errorString" by decide]; exact h)
  obtain ⟨a_hes, _, hes, _, _, _⟩ := laid_sentinel (show laidMet Tryz.prog (("strconv.ErrSyntax", .iface "*errors.errorString" (.ptr (.agg [.lit (.string [105, 110, 118, 97, 108, 105, 100, 32, 115, 121, 110, 116, 97, 120])]))) :: _) W from laidMet.tail (laidMet.tail (laidMet.tail (laidMet.tail (laidMet.tail (hL)))))) (g := 3) (ti := 153) (tp := 251) (te := 253) (ts := 9) (by kernel_rfl) (by kernel_rfl) Tryz.underlying153 row_es Tryz.underlying251 Tryz.underlying253 rfl rfl Tryz.underlying9 (by kernel_rfl) (by kernel_rfl)
  obtain ⟨a_her, _, her, _, _, _⟩ := laid_sentinel (show laidMet Tryz.prog (("strconv.ErrRange", .iface "*errors.errorString" (.ptr (.agg [.lit (.string [118, 97, 108, 117, 101, 32, 111, 117, 116, 32, 111, 102, 32, 114, 97, 110, 103, 101])]))) :: _) W from laidMet.tail (laidMet.tail (laidMet.tail (laidMet.tail (hL))))) (g := 4) (ti := 153) (tp := 251) (te := 253) (ts := 9) (by kernel_rfl) (by kernel_rfl) Tryz.underlying153 row_es Tryz.underlying251 Tryz.underlying253 rfl rfl Tryz.underlying9 (by kernel_rfl) (by kernel_rfl)
  clear hA0 hval0
  refine (law_Reordered W A0 c0 xs0 A1 c1 xs1 hl0 hR0 hl1 hR1 ⟨hp, ha, ⟨⟨_, _, hes⟩, _, _, her⟩, hsh⟩).mono fun e W' ⟨he, bel⟩ => ?_
  subst he
  exact ⟨_, rfl, _, _, _, [], _, [], hW', trodAll_mk1 (shut_bool Tryz.underlying4 _), (trodAll_cons_mk (Below.trod laidOut (by kernel_rfl) (of_decide_eq_true (by kernel_rfl)) k0 bel lt0) (trodAll_cons_mk (Below.trod laidOut (by kernel_rfl) (of_decide_eq_true (by kernel_rfl)) k1 bel lt1) trodAll_mk0)), rfl, bel.frame _, fun h => by cases h⟩
theorem over : Rows.fnReorderedRow.holds Tryz.pinned (OpenSpec.ofChange Rows.fnReorderedSpec) :=
  OpenClaim.holds_of_wide 3 Tryz.f3 rfl rfl rfl rfl rfl rfl rfl ⟨rfl, rfl, rfl, rfl, rfl⟩ rfl rfl rfl rfl rfl (by kernel_rfl) Tryz.func3 (by kernel_rfl)
    (of_decide_eq_true (by kernel_rfl)) (by unfold Func.isWrapper; first | (rw [if_pos (by decide +kernel)]; kernel_rfl) | (rw [if_neg (by decide +kernel)]; exact ⟨rfl, rfl⟩))
    (fun os started H enc _ => lifted os started H enc)
theorem proved : Rows.FnReorderedCardSaid :=
  Claim7.holds_tied_plain_at .later [] [.data, .data, .data, .data, .sentinel, .sentinel, .listed, .data, .pinned] true (true, "73f5e54a6279d3c64a1720a50074547d7cfa1d129b0d1a0a2c98850f0ffefa47") true over (fun _ h => by cases h) (by kernel_rfl) (fun _ h => by cases h) fnReordered_row_tie rfl ⟨rfl, rfl⟩ (by kernel_rfl) rfl
    (fun f fn hf hfn => by
      obtain rfl : f = 3 := Option.some.inj ((show Tryz.prog.funcNamed Rows.fnReorderedRow.func = some 3 by kernel_rfl).symm.trans hf) |>.symm
      obtain rfl : fn = Tryz.f3 := (Option.some.inj (Tryz.func3.symm.trans hfn)).symm
      exact ⟨by kernel_rfl, fun j t ht => by
        rw [Tryz.params3] at ht
        have hm : t ∈ [22, 22] := by simpa using Array.mem_of_getElem? ht
        have hall : ([22, 22].all fun u => !Tryz.prog.wantsStandIn u) = true := by kernel_rfl
        exact (show Tryz.prog.wantsStandIn t = false by simpa using List.all_eq_true.1 hall t hm)⟩)
    (by kernel_rfl)
#print axioms proved
end Go.Proofs.YtnnioicjmlfllaaGreatDoor.fnReordered
