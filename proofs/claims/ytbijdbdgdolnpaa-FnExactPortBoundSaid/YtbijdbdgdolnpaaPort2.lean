import Derived.Test.YtbijdbdgdolnpaaPort
set_option linter.unusedVariables false
set_option linter.unusedSimpArgs false
namespace Go.Proofs.Ytbijdbdgdolnpaa
open Go.RowKit

theorem pbN_in {ts : List TaskV} {p : Nat} (h : 0 < pcnt ts p ts.length) : pbN ts (p + 1) = max (pbN ts p) (pcnt ts p ts.length + plst ts p ts.length - 1) := if_pos h
theorem pbN_out {ts : List TaskV} {p : Nat} (h : ¬ 0 < pcnt ts p ts.length) : pbN ts (p + 1) = pbN ts p := if_neg h
theorem i_PortBound (w : World) (A : Option Addr) (c : Nat) (ts : List TaskV) (hl : tsz ts ≤ 1048576) (hT : RdT w A ts) :
    Calls Try.prog 54 #[.slice A ts.length c] w (RetZB w (m_PortBound ts)) := by
  have c0 := i_ValidTasks w A c ts hl hT
  have C1 : Hid (tasksB ts = true → ∀ W, Below w.heap.size w W → _) := hid (fun h W (hW : Below w.heap.size w W) => i_portBound W A c ts (TOk.of h) (hT.below hW))
  have HE : Hid (m_PortBound ts = if tasksB ts then (pbN ts 3, true) else (0, false)) := hid rfl
  clear hT hl
  generalize m_PortBound ts = r at HE ⊢
  generalize pbN ts 3 = H at *
  cases h0 : tasksB ts with
  | false =>
    rw [h0] at c0 HE
    have C0 := hid c0
    clear c0 h0 C1
    go_enter Try.func54, Try.ntmps54
    go_wp2_with fail
    refine C0.out.mono ?_
    rintro e w1 ⟨rfl, hb1⟩
    go_wp2_with fail
    go_ret2
    exact ⟨by rw [HE.out]; rfl, hb1⟩
  | true =>
    rw [h0] at c0 HE
    have C0 := hid c0
    have C3 := hid (C1.out h0)
    clear c0 h0 C1
    go_enter Try.func54, Try.ntmps54
    go_wp2_with fail
    refine C0.out.mono ?_
    rintro e w1 ⟨rfl, hb1⟩
    go_wp2_with fail
    refine (C3.out _ hb1).mono ?_
    rintro e w2 ⟨rfl, hb2⟩
    go_wp2_with fail
    go_ret2
    exact ⟨by rw [HE.out]; rfl, bthen hb1 hb2⟩
set_option maxRecDepth 100000 in
theorem s_PortBound (w : World) (A : Option Addr) (c : Nat) (ts : List TaskV) (hl : tsz ts ≤ 1048576) (hT : RdT w A ts) :
    Calls Try.prog 53 #[.slice A ts.length c] w (RetZB w (m_PortBound ts)) := by
  have c0 := s_l06Is w A c ts hl hT
  have HE : Hid (m_PortBound ts = if tasksB ts then (pbN ts 3, true) else (0, false)) := hid rfl
  have HT := hid hT
  have CM := hid (fun a b W => s_l00Max a b W)
  have CN := hid (fun a b W => s_l00Min a b W)
  clear hT hl
  generalize m_PortBound ts = r at HE ⊢
  cases h0 : tasksB ts with
  | false =>
    rw [h0] at c0 HE
    have C0 := hid c0
    clear c0 h0 CM CN HT
    go_enter Try.func53, Try.ntmps53
    go_wp2_with fail
    refine C0.out.mono ?_
    rintro e w1 ⟨rfl, hb1⟩
    go_wp2_with fail
    go_ret2
    exact ⟨by rw [HE.out]; rfl, hb1⟩
  | true =>
    rw [h0] at c0 HE
    have C0 := hid c0
    have hO := TOk.of h0
    have hfew := hO.few
    have HO := hid hO
    clear c0 h0 hO
    go_enter Try.func53, Try.ntmps53
    go_wp2_with fail
    refine C0.out.mono ?_
    rintro e w1 ⟨rfl, hb1⟩
    have HB1 := hid hb1
    clear hb1 C0
    go_wp2_with fail
    go_loopg [4, 5] 3 (fun gg m s wq => ∃ p : Nat, p ≤ 3 ∧ 3 - p ≤ gg ∧ s = .int .i64 p ∧ m = .int .i64 (pbN ts p) ∧ Aside (w1 = wq))
    case atStart => exact ⟨0, by omega, by omega, rfl, rfl, rfl⟩
    case round =>
      obtain ⟨p, hp3, hgp, rfl, rfl, WQ⟩ := hrel
      obtain rfl := WQ.out
      by_cases hlp : p < 3
      · have hlp' : (p : Int) < 3 := by omega
        have HM := hid (pbN_in (ts := ts) (p := p))
        have HM' := hid (pbN_out (ts := ts) (p := p))
        generalize hm : pbN ts p = m at *
        clear hm
        go_wp2_with fail
        go_loopg [6, 7, 8] ts.length (fun gg n l s wi => ∃ k : Nat, k ≤ ts.length ∧ ts.length - k ≤ gg ∧ s = .int .i64 k ∧ n = .int .i64 (pcnt ts p k) ∧ l = .int .i64 (plst ts p k) ∧ Aside (w1 = wi))
        case atStart => exact ⟨0, by omega, by omega, rfl, rfl, rfl, rfl⟩
        case round =>
          obtain ⟨k, hk, hgk, rfl, rfl, rfl, WI⟩ := hrel
          obtain rfl := WI.out
          have hcb := pcnt_bnd ts p k
          obtain ⟨hcb0, hcb1⟩ := hcb
          by_cases hlk : k < ts.length
          · have hlk' : (k : Int) < (ts.length : Int) := by omega
            obtain ⟨bt, offt, A1, c1, rfl, p0, p1, p2, _, _⟩ := (HT.out.below HB1.out).get hlk
            have hcm := CN.out (plst ts p k) (tel ts k).lat w1
            by_cases hq : (tel ts k).port = p
            · have hq' : ((tel ts k).port == (p : Int)) = true := by simpa using hq
              have H1 := hid (pcnt_in hq)
              have H2 := hid (plst_in hq)
              clear hq CM CN HT HO HM HM' HE HB1 p2
              generalize min (plst ts p k) (tel ts k).lat = y at *
              generalize (tel ts k).lat = l at *
              generalize (tel ts k).port = q at *
              generalize pcnt ts p k = cn at *
              generalize plst ts p k = ln at *
              go_wp2_with fail
              refine hcm.mono ?_
              rintro e w' ⟨rfl, rfl⟩
              clear hcm p0 p1
              go_wp2_with fail
              go_roundg (ts.length - (k + 1))
              case measure => omega
              case rel => exact ⟨k + 1, by omega, by omega, by go_num, by rw [H1.out], by rw [H2.out], rfl⟩
            · have hq' : ((tel ts k).port == (p : Int)) = false := by simpa using hq
              have H1 := hid (pcnt_out hq)
              have H2 := hid (plst_out hq)
              clear hq CM CN HT HO HM HM' HE HB1 p2 p1 hcm
              generalize (tel ts k).port = q at *
              generalize pcnt ts p k = cn at *
              generalize plst ts p k = ln at *
              go_wp2_with fail
              go_roundg (ts.length - (k + 1))
              case measure => omega
              case rel => exact ⟨k + 1, by omega, by omega, by go_num, by rw [H1.out], by rw [H2.out], rfl⟩
          · have : k = ts.length := by omega
            subst this
            have hlk' : ¬ ((ts.length : Nat) : Int) < ((ts.length : Nat) : Int) := by omega
            have hlb := plst_bnd HO.out p ts.length (Nat.le_refl _)
            obtain ⟨hlb0, hlb1⟩ := hlb
            by_cases hn : 0 < pcnt ts p ts.length
            · have HS := hid (HM.out hn)
              have hcm := CM.out m (pcnt ts p ts.length + plst ts p ts.length - 1) w1
              clear CM CN HT HO HM HM' HE HB1
              generalize max m (pcnt ts p ts.length + plst ts p ts.length - 1) = y at *
              generalize pcnt ts p ts.length = cn at *
              generalize plst ts p ts.length = ln at *
              go_wp2_with fail
              refine hcm.mono ?_
              rintro e w' ⟨rfl, rfl⟩
              clear hcm
              go_wp2_with fail
              go_roundg (3 - (p + 1))
              case measure => omega
              case rel => exact ⟨p + 1, by omega, by omega, by go_num, by rw [HS.out], rfl⟩
            · have HS := hid (HM'.out (by omega))
              clear CM CN HT HO HM HM' HE HB1
              generalize pcnt ts p ts.length = cn at *
              generalize plst ts p ts.length = ln at *
              go_wp2_with fail
              go_roundg (3 - (p + 1))
              case measure => omega
              case rel => exact ⟨p + 1, by omega, by omega, by go_num, by rw [HS.out], rfl⟩
      · obtain rfl : p = 3 := by omega
        clear CM CN HT HO
        generalize pbN ts 3 = y at *
        go_wp2_with fail
        go_ret2
        exact ⟨by rw [HE.out]; rfl, HB1.out⟩
end Go.Proofs.Ytbijdbdgdolnpaa
