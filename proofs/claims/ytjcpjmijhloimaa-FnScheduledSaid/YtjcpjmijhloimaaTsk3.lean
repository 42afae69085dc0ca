import Derived.Test.YtjcpjmijhloimaaTsk2
import Derived.Test.YtjcpjmijhloimaaLst3
import Derived.Test.YtjcpjmijhloimaaOrd3
import Derived.Test.YtjcpjmijhloimaaSrc3
set_option linter.unusedVariables false
set_option linter.unusedSimpArgs false
namespace Go.Proofs.Ytjcpjmijhloimaa
open Go.RowKit

theorem Grw.below {w0 w wr w1 : World} {B N c : Nat} {A : Option Addr} {bs : List Int} {v : Value} {xs : List Int} (h : Grw w0 w wr B N A c bs v xs) (hb : Below wr.heap.size wr w1) : Grw w0 w w1 B N A c bs v xs :=
  ⟨h.src.below hb, h.chg.trans (Chg.of hb (Nat.le_refl _)), Own.wide (Own.eqv h.own (Eqv.of hb (Nat.le_refl _))) (Nat.le_refl _) hb.size⟩
/-- A cell of a row that grows. -/
theorem Grw.at {w0 w wr : World} {B N c n c1 : Nat} {A A5 : Option Addr} {bs : List Int} {xs : List Int} (h : Grw w0 w wr B N A c bs (.slice A5 n c1) xs) (hB : B < w.heap.size) {k : Nat} (hk : k < xs.length) :
    ∃ g, A5 = some ⟨g, 0, none⟩ ∧ wr.cell? ⟨g, k, none⟩ = some (.int .i64 (el xs k)) ∧ wr.frozen? ⟨g, k, none⟩ = false ∧ ∀ x, Grw w0 w (wr.setCell ⟨g, k, none⟩ (.int .i64 x)) B N A c bs (.slice A5 n c1) (xs.set k x) := by
  obtain ⟨g, rfl, h1, h2, h3, h4, h5⟩ := OwnI.at h.own hk
  refine ⟨g, rfl, h3, h4, fun x => ⟨h.src.set (by omega) k _, h.chg.far h1 k _, ?_⟩⟩
  have := h5 x
  exact Own.wide this (Nat.le_refl _) (by simp [World.setCell])
end Go.Proofs.Ytjcpjmijhloimaa
