import Derived.Test.YtnnioicjmlfllaaGreatDoorSrc2
import Derived.Test.YtnnioicjmlfllaaGreatDoorLawO
set_option linter.unusedVariables false
set_option linter.unusedSimpArgs false
namespace Go.Proofs.YtnnioicjmlfllaaGreatDoor
open Go.RowKit

theorem chg_alloc {w W : World} (B : Nat) (h : Chg B (B + 1) w W) (o : Obj) : Chg B (B + 1) w (W.alloc o) := h.trans (Chg.of (ballocw W o) (Nat.le_refl _))


/-- A row of the call's own that grows while a source in block B is drawn from. -/
structure Grw (w0 w wr : World) (B N : Nat) (A : Option Addr) (c : Nat) (bs : List Int) (v : Value) (xs : List Int) : Prop where
  src : SrcE w0 wr B N A c bs
  chg : Chg B (B + 1) w wr
  own : OwnI wr w.heap.size wr.heap.size 2 v xs
theorem Grw.drew {w0 w wr w1 : World} {B N M c : Nat} {A : Option Addr} {bs : List Int} {v : Value} {xs : List Int} (h : Grw w0 w wr B N A c bs v xs) (hB : B < w.heap.size) (hs : SrcE w0 w1 B M A c bs) (hc : Chg B (B + 1) wr w1) :
    Grw w0 w w1 B M A c bs v xs := ⟨hs, h.chg.trans hc, Own.wide (Own.eqv h.own (hc.eqv (by omega) (Nat.le_refl _))) (Nat.le_refl _) hc.size⟩
theorem Grw.app {w0 w wr w1 : World} {B N c : Nat} {A : Option Addr} {bs : List Int} {v v1 : Value} {xs : List Int} {x : Int} (h : Grw w0 w wr B N A c bs v xs) (hB : B < w.heap.size) (hb : Below w.heap.size wr w1) (ho : Own w1 w.heap.size w1.heap.size 2 1 v1 (xs.length + 1) (ints xs ++ [.int .i64 x])) :
    Grw w0 w w1 B N A c bs v1 (xs ++ [x]) := by
  have hz := h.chg.size
  refine ⟨?_, ⟨hb.os.trans h.chg.os, hb.tape.trans h.chg.tape, hb.output.trans h.chg.output, Nat.le_trans h.chg.size hb.size, fun j hj hn => (hb.block j hj).trans (h.chg.block j hj hn)⟩, ?_⟩
  · obtain ⟨k, sd, s⟩ := h.src
    have hw0 : w0.heap.size ≤ w.heap.size := Nat.le_trans s.ge (Nat.le_of_lt hB)
    exact ⟨k, sd, s.ge, s.bel.trans (hb.mono hw0), (hb.block B hB).trans s.hp, s.at_le, s.sd0, s.sd1⟩
  · unfold OwnI; rw [ints_append, List.length_append]; exact ho

end Go.Proofs.YtnnioicjmlfllaaGreatDoor
