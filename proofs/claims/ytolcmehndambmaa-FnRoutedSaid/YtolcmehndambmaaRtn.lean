import Derived.Test.YtolcmehndambmaaPerm
set_option linter.unusedVariables false
set_option linter.unusedSimpArgs false
namespace Go.Proofs.Ytolcmehndambmaa

/-! ### Networks that are routed: plain lists alone -/
structure Prm (g : List Int) (n : Nat) : Prop where
  len : g.length = n
  mem : ∀ k : Nat, k < n → (k : Int) ∈ g
def gN (g : List Int) (i : Nat) : Nat := (el g i).toNat
def iN (g : List Int) (k : Nat) : Nat := (el (inv g) k).toNat
theorem Prm.bel {g : List Int} {n i : Nat} (h : Prm g n) (hi : i < n) : 0 ≤ el g i ∧ el g i < n := all_below h.len h.mem hi
theorem Prm.lt {g : List Int} {n i : Nat} (h : Prm g n) (hi : i < n) : gN g i < n ∧ el g i = (gN g i : Nat) := by
  have := h.bel hi; unfold gN; omega
theorem Prm.inv_ {g : List Int} {n k : Nat} (h : Prm g n) (hk : k < n) : iN g k < n ∧ el (inv g) k = (iN g k : Nat) ∧ gN g (iN g k) = k := by
  have e : el (inv g) k = fst g k := by unfold inv; exact el_range _ (by rw [h.len]; exact hk)
  rcases fst_cases g k with ⟨_, hn⟩ | ⟨i, hi, hf, he, _⟩
  · exact absurd (h.mem k hk) hn
  · unfold iN gN
    rw [e, hf]
    have := h.len
    refine ⟨by omega, by omega, ?_⟩
    rw [Int.toNat_natCast, he, Int.toNat_natCast]
theorem Prm.inj {g : List Int} {n i j : Nat} (h : Prm g n) (hi : i < n) (hj : j < n) (e : gN g i = gN g j) : i = j :=
  el_inj h.len h.mem hi hj (h.bel hi) (by rw [(h.lt hi).2, (h.lt hj).2, e])
theorem Prm.back {g : List Int} {n i : Nat} (h : Prm g n) (hi : i < n) : iN g (gN g i) = i :=
  h.inj (h.inv_ (h.lt hi).1).1 hi (h.inv_ (h.lt hi).1).2.2

/-- The other one of a pair. -/
def ot (h x : Nat) : Nat := (x + h) % (2 * h)
theorem ot_lt {h x : Nat} (hh : 0 < h) : ot h x < 2 * h := Nat.mod_lt _ (by omega)
theorem ot_cases {h x : Nat} (hx : x < 2 * h) : ot h x = if x < h then x + h else x - h := by
  unfold ot
  split
  · exact Nat.mod_eq_of_lt (by omega)
  · rw [show x + h = x - h + 2 * h from by omega, Nat.add_mod_right, Nat.mod_eq_of_lt (by omega)]
theorem ot_ot {h x : Nat} (hx : x < 2 * h) : ot h (ot h x) = x := by
  have h1 := ot_cases hx
  have h2 := ot_cases (h := h) (x := ot h x) (ot_lt (by omega))
  rw [h2, h1]; split <;> split <;> omega
theorem ot_int {h n : Nat} (hn : n = 2 * h) (x : Nat) : ((x : Int) + (n : Int) / 2) % (n : Int) = (ot h x : Nat) := by
  subst hn
  unfold ot
  rw [Int.natCast_emod, show ((2 * h : Nat) : Int) / 2 = (h : Int) from by omega, Int.natCast_add]
theorem ot_ne {h x : Nat} (hx : x < 2 * h) : ot h x ≠ x := by rw [ot_cases hx]; split <;> omega
/-- The end whose lane begins beside that of x. -/
def bq (g : List Int) (h x : Nat) : Nat := iN g (ot h (gN g x))
theorem bq_lt {g : List Int} {h x : Nat} (hp : Prm g (2 * h)) (hx : x < 2 * h) : bq g h x < 2 * h := (hp.inv_ (ot_lt (by omega))).1
theorem bq_bq {g : List Int} {h x : Nat} (hp : Prm g (2 * h)) (hx : x < 2 * h) : bq g h (bq g h x) = x := by
  unfold bq
  rw [(hp.inv_ (ot_lt (by omega))).2.2, ot_ot (hp.lt hx).1, hp.back hx]
theorem bq_ne {g : List Int} {h x : Nat} (hp : Prm g (2 * h)) (hx : x < 2 * h) : bq g h x ≠ x := by
  intro e
  have h1 := (hp.inv_ (k := ot h (gN g x)) (ot_lt (by omega))).2.2
  have h2 : gN g (bq g h x) = ot h (gN g x) := h1
  rw [e] at h2
  exact ot_ne (hp.lt hx).1 h2.symm

/-- The loop. -/
def sdS (g : List Int) (h : Nat) : Nat → Nat → List Int → List Int
  | 0, _, o => o
  | f + 1, a, o => if el o a < 0 then sdS g h f (bq g h (ot h a)) ((o.set a 0).set (ot h a) 1) else o
def sdA (g : List Int) (h : Nat) : Nat → List Int
  | 0 => List.replicate (2 * h) (-1)
  | k + 1 => sdS g h (2 * h) k (sdA g h k)
theorem sdS_length (g : List Int) (h : Nat) : ∀ f a o, (sdS g h f a o).length = o.length := by
  intro f
  induction f with
  | zero => intro a o; rfl
  | succ f ih => intro a o; unfold sdS; split
                 · rw [ih]; simp
                 · rfl
theorem sdA_length (g : List Int) (h k : Nat) : (sdA g h k).length = 2 * h := by
  induction k with
  | zero => simp [sdA]
  | succ k ih => simp only [sdA]; rw [sdS_length, ih]
def ngs (o : List Int) : Nat := sumTo (fun k => if el o k < 0 then 1 else 0) o.length
theorem sumTo_le {f g : Nat → Nat} {n : Nat} (h : ∀ k, k < n → g k ≤ f k) : sumTo g n ≤ sumTo f n := by
  induction n with
  | zero => exact Nat.le_refl _
  | succ n ih => simp only [sumTo]; have := ih fun k hk => h k (by omega); have := h n (by omega); omega
theorem sumTo_lt {f g : Nat → Nat} {n a : Nat} (h : ∀ k, k < n → g k ≤ f k) (ha : a < n) (hl : g a < f a) : sumTo g n < sumTo f n := by
  induction n with
  | zero => omega
  | succ n ih =>
    simp only [sumTo]
    have h1 := sumTo_le (f := f) (g := g) (n := n) fun k hk => h k (by omega)
    have h2 := h n (by omega)
    by_cases e : a = n
    · subst e; omega
    · have := ih (fun k hk => h k (by omega)) (by omega); omega
theorem ngs_le (o : List Int) : ngs o ≤ o.length := by
  have : sumTo (fun _ => 1) o.length = o.length := by
    generalize o.length = n
    induction n with
    | zero => rfl
    | succ n ih => simp only [sumTo, ih]
  unfold ngs
  exact Nat.le_trans (sumTo_le (f := fun _ => 1) fun k _ => by split <;> omega) (Nat.le_of_eq this)
theorem ngs_pos {o : List Int} {a : Nat} (ha : a < o.length) (h : el o a < 0) : 0 < ngs o := by
  have := sumTo_lt (f := fun k => if el o k < 0 then 1 else 0) (g := fun _ => 0) (n := o.length) (a := a) (fun _ _ => Nat.zero_le _) ha (by simp [h])
  unfold ngs; omega
theorem el_set (o : List Int) {a : Nat} (ha : a < o.length) (x : Int) (k : Nat) : el (o.set a x) k = if k = a then x else el o k := by
  split
  · next e => subst e; exact el_set_same ha x
  · next e => exact el_set_other (Ne.symm e) x
theorem el_set2 {o : List Int} {a b : Nat} (ha : a < o.length) (hb : b < o.length) (x y : Int) (k : Nat) : el ((o.set a x).set b y) k = if k = b then y else if k = a then x else el o k := by
  rw [el_set _ (by simpa using hb), el_set _ ha]
theorem ngs_step {o : List Int} {a b : Nat} (ha : a < o.length) (hb : b < o.length) (h : el o a < 0) : ngs ((o.set a 0).set b 1) < ngs o := by
  unfold ngs
  simp only [List.length_set]
  refine sumTo_lt (a := a) (fun k hk => ?_) ha ?_
  · rw [el_set2 ha hb]
    by_cases e1 : k = b
    · simp [e1]
    · rw [if_neg e1]
      by_cases e2 : k = a
      · simp [e2]
      · rw [if_neg e2]; exact Nat.le_refl _
  · rw [el_set2 ha hb, if_pos h]
    by_cases e1 : a = b
    · simp [e1]
    · simp [e1]

/-- Both of a pair at the end are set, or none is. -/
def Pai (h : Nat) (o : List Int) : Prop := ∀ x, x < 2 * h → el o x = -1 ∧ el o (ot h x) = -1 ∨ el o x = 0 ∧ el o (ot h x) = 1 ∨ el o x = 1 ∧ el o (ot h x) = 0
def Cls (g : List Int) (h : Nat) (o : List Int) : Prop := ∀ x, x < 2 * h → 0 ≤ el o x → el o (bq g h x) = 1 - el o x
theorem Pai.step {h a : Nat} {o : List Int} (hl : o.length = 2 * h) (hp : Pai h o) (ha : a < 2 * h) : Pai h ((o.set a 0).set (ot h a) 1) := by
  have hb : ot h a < 2 * h := ot_lt (by omega)
  intro x hx
  rw [el_set2 (by omega) (by omega), el_set2 (by omega) (by omega)]
  have hne := ot_ne ha
  have hoo := ot_ot ha
  by_cases e1 : x = ot h a
  · right; right
    rw [if_pos e1, e1, hoo, if_neg (Ne.symm hne), if_pos rfl]
    exact ⟨rfl, rfl⟩
  · by_cases e2 : x = a
    · right; left
      rw [if_neg e1, if_pos e2, e2, if_pos rfl]
      exact ⟨rfl, rfl⟩
    · have e3 : ot h x ≠ ot h a := fun e => e2 (by rw [← ot_ot hx, e, hoo])
      have e4 : ot h x ≠ a := fun e => e1 (by rw [← ot_ot hx, e])
      rw [if_neg e1, if_neg e2, if_neg e3, if_neg e4]
      exact hp x hx
structure Jn (g : List Int) (h s a : Nat) (o : List Int) : Prop where
  len : o.length = 2 * h
  lt : a < 2 * h
  pai : Pai h o
  cls : ∀ x, x < 2 * h → 0 ≤ el o x → x ≠ s → x ≠ bq g h a → el o (bq g h x) = 1 - el o x
  alt : (a = s ∧ Cls g h o ∧ el o a < 0) ∨ (el o s = 0 ∧ el o (bq g h a) = 1 ∧ (a = s ∨ el o a < 0))
theorem Jn.step {g : List Int} {h s a : Nat} {o : List Int} (hp : Prm g (2 * h)) (hs : s < 2 * h) (j : Jn g h s a o) (hn : el o a < 0) : Jn g h s (bq g h (ot h a)) ((o.set a 0).set (ot h a) 1) := by
  have ha := j.lt
  have hb : ot h a < 2 * h := ot_lt (by omega)
  have hne := ot_ne ha
  have hl := j.len
  have hun : el o a = -1 ∧ el o (ot h a) = -1 := by
    rcases j.pai a ha with q | q | q <;> omega
  have S : ∀ k, el ((o.set a 0).set (ot h a) 1) k = if k = ot h a then 1 else if k = a then 0 else el o k := fun k => el_set2 (by omega) (by omega) 0 1 k
  have hbb := bq_bq hp hb
  have hbn := bq_ne hp hb
  have hba := bq_bq hp ha
  have hban := bq_ne hp ha
  have keep : ∀ x, 0 ≤ el o x → el ((o.set a 0).set (ot h a) 1) x = el o x := fun x hx => by
    rw [S, if_neg (by intro e; rw [e] at hx; omega), if_neg (by intro e; rw [e] at hx; omega)]
  refine ⟨by simp [hl], bq_lt hp hb, j.pai.step hl ha, ?_, ?_⟩
  · intro x hx h0 hxs hxb
    rw [hbb] at hxb
    rw [S x, if_neg hxb] at h0 ⊢
    by_cases e : x = a
    · rw [if_pos e, e]
      rcases j.alt with ⟨e1, _⟩ | ⟨_, e2, _⟩
      · exact absurd (e.trans e1) hxs
      · rw [keep _ (by omega), e2]; rfl
    · rw [if_neg e] at h0 ⊢
      by_cases e3 : x = bq g h a
      · rcases j.alt with ⟨_, c, _⟩ | ⟨_, e2, _⟩
        · have := c x hx h0
          rw [e3, hba, ← e3] at this
          rcases j.pai x hx with q | q | q <;> omega
        · rw [e3, hba, S a, if_neg (Ne.symm hne), if_pos rfl, e2]; rfl
      · have hc := j.cls x hx h0 hxs e3
        have : 0 ≤ el o (bq g h x) := by rcases j.pai x hx with q | q | q <;> omega
        rw [keep _ this, hc]
  · right
    refine ⟨?_, ?_, ?_⟩
    · rw [S s]
      rcases j.alt with ⟨e1, _⟩ | ⟨e1, _, _⟩
      · rw [← e1, if_neg (Ne.symm hne), if_pos rfl]
      · rw [if_neg (by intro e; rw [e] at e1; omega), if_neg (by intro e; rw [e] at e1; omega)]; exact e1
    · rw [hbb, S, if_pos rfl]
    · rw [S, if_neg hbn]
      by_cases e : bq g h (ot h a) = a
      · rcases j.alt with ⟨e1, _⟩ | ⟨_, e2, _⟩
        · left; rw [e, e1]
        · have := hbb; rw [e] at this; rw [this] at e2; omega
      · rw [if_neg e]
        by_cases h0 : el o (bq g h (ot h a)) < 0
        · exact .inr h0
        · left
          apply Classical.byContradiction
          intro hs'
          have hc := j.cls (bq g h (ot h a)) (bq_lt hp hb) (by omega) hs' (fun q => hne (by have := congrArg (bq g h) q; rwa [hbb, hba] at this))
          rw [hbb] at hc
          rcases j.pai (bq g h (ot h a)) (bq_lt hp hb) with q | q | q <;> omega
theorem Jn.done {g : List Int} {h s a : Nat} {o : List Int} (hp : Prm g (2 * h)) (hs : s < 2 * h) (j : Jn g h s a o) (hn : ¬ el o a < 0) : Cls g h o ∧ 0 ≤ el o s := by
  rcases j.alt with ⟨_, _, e⟩ | ⟨e1, e2, e3⟩
  · exact absurd e hn
  · have ea : a = s := by rcases e3 with q | q
                          · exact q
                          · exact absurd q hn
    refine ⟨fun x hx h0 => ?_, by omega⟩
    by_cases q1 : x = s
    · rw [q1, e1, ← ea, e2]; rfl
    · by_cases q2 : x = bq g h a
      · rw [q2, bq_bq hp j.lt, e2, ea, e1]; rfl
      · exact j.cls x hx h0 q1 q2
theorem sdS_spec {g : List Int} {h s : Nat} (hp : Prm g (2 * h)) (hs : s < 2 * h) : ∀ f a o, Jn g h s a o → ngs o ≤ f → Pai h (sdS g h f a o) ∧ Cls g h (sdS g h f a o) ∧ 0 ≤ el (sdS g h f a o) s ∧ ∀ x, 0 ≤ el o x → 0 ≤ el (sdS g h f a o) x := by
  intro f
  induction f with
  | zero =>
    intro a o j hf
    have hn : ¬ el o a < 0 := fun q => by have := ngs_pos (o := o) (a := a) (by rw [j.len]; exact j.lt) q; omega
    have := j.done hp hs hn
    exact ⟨j.pai, this.1, this.2, fun x hx => hx⟩
  | succ f ih =>
    intro a o j hf
    unfold sdS
    split
    · next hn =>
      have hst := ngs_step (o := o) (a := a) (b := ot h a) (by rw [j.len]; exact j.lt) (by rw [j.len]; exact ot_lt (by omega)) hn
      obtain ⟨r1, r2, r3, r4⟩ := ih _ _ (j.step hp hs hn) (by omega)
      refine ⟨r1, r2, r3, fun x hx => r4 x ?_⟩
      rw [el_set2 (by rw [j.len]; exact j.lt) (by rw [j.len]; exact ot_lt (by omega))]
      split
      · omega
      · split
        · omega
        · exact hx
    · next hn =>
      have := j.done hp hs hn
      exact ⟨j.pai, this.1, this.2, fun x hx => hx⟩
theorem sdA_spec {g : List Int} {h : Nat} (hp : Prm g (2 * h)) : ∀ k, k ≤ 2 * h → Pai h (sdA g h k) ∧ Cls g h (sdA g h k) ∧ ∀ x, x < k → 0 ≤ el (sdA g h k) x := by
  intro k
  induction k with
  | zero =>
    intro _
    have e : ∀ x, x < 2 * h → el (sdA g h 0) x = -1 := fun x hx => by
      unfold sdA el; rw [List.getD_eq_getElem?_getD]; simp [hx]
    refine ⟨fun x hx => .inl ⟨e x hx, e _ (ot_lt (by omega))⟩, fun x hx h0 => ?_, fun x hx => by omega⟩
    rw [e x hx] at h0; omega
  | succ k ih =>
    intro hk
    obtain ⟨i1, i2, i3⟩ := ih (by omega)
    have hl := sdA_length g h k
    simp only [sdA]
    by_cases hn : el (sdA g h k) k < 0
    · have j : Jn g h k k (sdA g h k) := ⟨hl, by omega, i1, fun x hx h0 _ _ => i2 x hx h0, .inl ⟨rfl, i2, hn⟩⟩
      obtain ⟨r1, r2, r3, r4⟩ := sdS_spec hp (by omega) (2 * h) k _ j (by have := ngs_le (sdA g h k); omega)
      refine ⟨r1, r2, fun x hx => ?_⟩
      by_cases e : x = k
      · rw [e]; exact r3
      · exact r4 x (i3 x (by omega))
    · have e : sdS g h (2 * h) k (sdA g h k) = sdA g h k := by
        cases hh : 2 * h with
        | zero => rfl
        | succ m => unfold sdS; rw [if_neg hn]
      rw [e]
      refine ⟨i1, i2, fun x hx => ?_⟩
      by_cases q : x = k
      · rw [q]; omega
      · exact i3 x (by omega)
/-- The halves over which the lanes come. -/
def sdN (g : List Int) : List Int := sdA g (g.length / 2) g.length
structure Sds (g : List Int) (h : Nat) (c : List Int) : Prop where
  len : c.length = 2 * h
  bit : ∀ x, x < 2 * h → el c x = 0 ∨ el c x = 1
  pai : ∀ x, x < 2 * h → el c (ot h x) = 1 - el c x
  cls : ∀ x, x < 2 * h → el c (bq g h x) = 1 - el c x
theorem sdN_spec {g : List Int} {h : Nat} (hp : Prm g (2 * h)) : Sds g h (sdN g) := by
  unfold sdN
  rw [hp.len, show 2 * h / 2 = h from by omega]
  obtain ⟨r1, r2, r3⟩ := sdA_spec hp (2 * h) (Nat.le_refl _)
  refine ⟨sdA_length _ _ _, fun x hx => ?_, fun x hx => ?_, fun x hx => r2 x hx (r3 x hx)⟩
  · have := r3 x hx
    rcases r1 x hx with q | q | q <;> omega
  · have := r3 x hx
    rcases r1 x hx with q | q | q <;> omega
/-- What one half has to do. -/
def sbEl (g c : List Int) (h : Nat) (s : Int) (k : Nat) : Int := el g (if el c k = s then k else k + h) % (h : Int)
def sbN (g c : List Int) (h : Nat) (s : Int) : List Int := (List.range h).map (sbEl g c h s)
theorem sbN_length (g c : List Int) (h : Nat) (s : Int) : (sbN g c h s).length = h := by simp [sbN]
theorem sbN_el (g c : List Int) (h : Nat) (s : Int) {k : Nat} (hk : k < h) : el (sbN g c h s) k = sbEl g c h s k := el_range _ hk
theorem sbN_prm {g c : List Int} {h : Nat} (hp : Prm g (2 * h)) (hc : Sds g h c) (s : Int) (hs : s = 0 ∨ s = 1) : Prm (sbN g c h s) h := by
  refine ⟨sbN_length _ _ _ _, fun k hk => ?_⟩
  obtain ⟨l1, _, g1⟩ := hp.inv_ (k := k) (by omega)
  obtain ⟨l2, _, g2⟩ := hp.inv_ (k := k + h) (by omega)
  have hb : bq g h (iN g k) = iN g (k + h) := by
    unfold bq; rw [g1, ot_cases (by omega), if_pos hk]
  have hsum := hc.cls _ l1
  rw [hb] at hsum
  have ex : ∃ e, e < 2 * h ∧ el c e = s ∧ (gN g e = k ∨ gN g e = k + h) := by
    rcases hc.bit _ l1 with q | q <;> rcases hs with rfl | rfl
    · exact ⟨_, l1, q, .inl g1⟩
    · exact ⟨_, l2, by omega, .inr g2⟩
    · exact ⟨_, l2, by omega, .inr g2⟩
    · exact ⟨_, l1, q, .inl g1⟩
  obtain ⟨e, he, hce, hge⟩ := ex
  have hmod : el g e % (h : Int) = k := by
    rw [(hp.lt he).2]
    rcases hge with q | q
    · rw [q]; exact Int.emod_eq_of_lt (by omega) (by omega)
    · rw [q, show (((k + h : Nat)) : Int) = (k : Int) + h from by omega, Int.add_emod_right]; exact Int.emod_eq_of_lt (by omega) (by omega)
  have at_ : ∃ j, j < h ∧ sbEl g c h s j = k := by
    by_cases q : e < h
    · exact ⟨e, q, by unfold sbEl; rw [if_pos hce]; exact hmod⟩
    · refine ⟨e - h, by omega, ?_⟩
      have hpj := hc.pai e he
      rw [ot_cases he, if_neg q] at hpj
      unfold sbEl
      rw [if_neg (by rcases hs with rfl | rfl <;> omega), show e - h + h = e from by omega]
      exact hmod
  obtain ⟨j, hj, hjk⟩ := at_
  rw [← hjk]
  exact List.mem_map.2 ⟨j, List.mem_range.2 hj, rfl⟩
/-- Over which half each lane goes. -/
def goN (g c : List Int) : List Int := (List.range g.length).map fun i => el c (iN g i)
def cat2 (a b : List (List Int)) : List (List Int) := (List.range a.length).map fun s => a.getD s [] ++ b.getD s []
theorem cat2_length (a b : List (List Int)) : (cat2 a b).length = a.length := by simp [cat2]
/-- The network for a goal of 2 to the power of d + 1 lanes. -/
def rtN : Nat → List Int → List (List Int)
  | 0, g => [[el g 0]]
  | d + 1, g => [(goN g (sdN g)).take (g.length / 2)] ++ cat2 (rtN d (sbN g (sdN g) (g.length / 2) 0)) (rtN d (sbN g (sdN g) (g.length / 2) 1)) ++ [(sdN g).take (g.length / 2)]
theorem rtN_length : ∀ d g, (rtN d g).length = 2 * d + 1 := by
  intro d
  induction d with
  | zero => intro g; rfl
  | succ d ih => intro g; simp only [rtN, List.length_append, cat2_length, ih, List.length_singleton]; omega
end Go.Proofs.Ytolcmehndambmaa
