import Derived.Test.YtolcmehndambmaaShuf4
set_option linter.unusedVariables false
set_option linter.unusedSimpArgs false
namespace Go.Proofs.Ytolcmehndambmaa
open Go.RowKit

abbrev WN (w : World) (lanes by_ : Int) : World := (w.alloc (.cells #[.int .i64 lanes] 2)).alloc (.cells #[.int .i64 by_] 2)
set_option maxRecDepth 100000 in
theorem i_NK0 (w : World) (lanes by_ : Int) (hlo : 2 ≤ lanes) (hhi : lanes ≤ 16) 
    (c0 : Calls Try.prog 79 #[.int .i64 lanes] (WN w lanes by_) fun e w' => e = .returned (.bool true) ∧ WN w lanes by_ = w') (c1 : Calls Try.prog 94 #[.int .i64 by_, .int .i64 0, .int .i64 (lanes - 1)] (WN w lanes by_) fun e w' => e = .returned (.bool true) ∧ WN w lanes by_ = w')
    (Q : Value → World → Prop) (hcall : Calls Try.prog 109 #[.func (.func 111) #[] #[.pointer (some ⟨w.heap.size + 1, 0, none⟩), .pointer (some ⟨w.heap.size, 0, none⟩)], .pointer (some ⟨w.heap.size, 0, none⟩)] (WN w lanes by_) (fun e w' => ∃ v, e = .returned (.tuple #[v, .bool true]) ∧ Q v w')) :
    Calls Try.prog 50 #[.int .i64 0, .int .i64 lanes, .int .i64 by_] w (fun e w' => ∃ v, e = .returned (.tuple #[v, .bool true]) ∧ Q v w') := by
  go_enter Try.func50, Try.ntmps50
  go_wp2_with fail
  refine c0.mono ?_
  rintro e w1 ⟨rfl, rfl⟩
  go_wp2_with fail
  refine c1.mono ?_
  rintro e w1 ⟨rfl, rfl⟩
  go_wp2_with fail
  refine hcall.mono ?_
  rintro e w2 ⟨v2, rfl, hq⟩
  go_wp2_with fail
  go_ret2
  exact ⟨_, rfl, hq⟩
set_option maxRecDepth 100000 in
theorem i_NK2 (w : World) (lanes by_ : Int) (hlo : 2 ≤ lanes) (hhi : lanes ≤ 16) 
    (c0 : Calls Try.prog 79 #[.int .i64 lanes] (WN w lanes by_) fun e w' => e = .returned (.bool true) ∧ WN w lanes by_ = w') (c1 : Calls Try.prog 94 #[.int .i64 by_, .int .i64 0, .int .i64 (lanes - 1)] (WN w lanes by_) fun e w' => e = .returned (.bool true) ∧ WN w lanes by_ = w')
    (Q : Value → World → Prop) (hcall : Calls Try.prog 109 #[.func (.func 112) #[] #[.pointer (some ⟨w.heap.size + 1, 0, none⟩)], .pointer (some ⟨w.heap.size, 0, none⟩)] (WN w lanes by_) (fun e w' => ∃ v, e = .returned (.tuple #[v, .bool true]) ∧ Q v w')) :
    Calls Try.prog 50 #[.int .i64 2, .int .i64 lanes, .int .i64 by_] w (fun e w' => ∃ v, e = .returned (.tuple #[v, .bool true]) ∧ Q v w') := by
  go_enter Try.func50, Try.ntmps50
  go_wp2_with fail
  refine c0.mono ?_
  rintro e w1 ⟨rfl, rfl⟩
  go_wp2_with fail
  refine c1.mono ?_
  rintro e w1 ⟨rfl, rfl⟩
  go_wp2_with fail
  refine hcall.mono ?_
  rintro e w2 ⟨v2, rfl, hq⟩
  go_wp2_with fail
  go_ret2
  exact ⟨_, rfl, hq⟩
set_option maxRecDepth 100000 in
theorem i_NK5 (w : World) (lanes by_ : Int) (hlo : 2 ≤ lanes) (hhi : lanes ≤ 16) 
    (c0 : Calls Try.prog 79 #[.int .i64 lanes] (WN w lanes by_) fun e w' => e = .returned (.bool true) ∧ WN w lanes by_ = w') (c1 : Calls Try.prog 94 #[.int .i64 by_, .int .i64 0, .int .i64 (lanes - 1)] (WN w lanes by_) fun e w' => e = .returned (.bool true) ∧ WN w lanes by_ = w')
    (Q : Value → World → Prop) (hcall : Calls Try.prog 109 #[.func (.func 113) #[] #[.pointer (some ⟨w.heap.size + 1, 0, none⟩)], .pointer (some ⟨w.heap.size, 0, none⟩)] (WN w lanes by_) (fun e w' => ∃ v, e = .returned (.tuple #[v, .bool true]) ∧ Q v w')) :
    Calls Try.prog 50 #[.int .i64 5, .int .i64 lanes, .int .i64 by_] w (fun e w' => ∃ v, e = .returned (.tuple #[v, .bool true]) ∧ Q v w') := by
  go_enter Try.func50, Try.ntmps50
  go_wp2_with fail
  refine c0.mono ?_
  rintro e w1 ⟨rfl, rfl⟩
  go_wp2_with fail
  refine c1.mono ?_
  rintro e w1 ⟨rfl, rfl⟩
  go_wp2_with fail
  refine hcall.mono ?_
  rintro e w2 ⟨v2, rfl, hq⟩
  go_wp2_with fail
  go_ret2
  exact ⟨_, rfl, hq⟩
set_option maxRecDepth 100000 in
theorem i_NK1 (w : World) (lanes by_ : Int) (hlo : 2 ≤ lanes) (hhi : lanes ≤ 16) 
    (c0 : Calls Try.prog 79 #[.int .i64 lanes] (WN w lanes by_) fun e w' => e = .returned (.bool true) ∧ WN w lanes by_ = w') (c1 : Calls Try.prog 94 #[.int .i64 by_, .int .i64 0, .int .i64 (lanes - 1)] (WN w lanes by_) fun e w' => e = .returned (.bool true) ∧ WN w lanes by_ = w')
    (Q : Value → World → Prop) (hcall : Calls Try.prog 109 #[.func (.func 114) #[] #[.pointer (some ⟨w.heap.size, 0, none⟩)], .pointer (some ⟨w.heap.size, 0, none⟩)] (WN w lanes by_) (fun e w' => ∃ v, e = .returned (.tuple #[v, .bool true]) ∧ Q v w')) (bz : (by_ != 0) = false) :
    Calls Try.prog 50 #[.int .i64 1, .int .i64 lanes, .int .i64 by_] w (fun e w' => ∃ v, e = .returned (.tuple #[v, .bool true]) ∧ Q v w') := by
  go_enter Try.func50, Try.ntmps50
  go_wp2_with fail
  refine c0.mono ?_
  rintro e w1 ⟨rfl, rfl⟩
  go_wp2_with fail
  refine c1.mono ?_
  rintro e w1 ⟨rfl, rfl⟩
  go_wp2_with fail
  refine hcall.mono ?_
  rintro e w2 ⟨v2, rfl, hq⟩
  go_wp2_with fail
  go_ret2
  exact ⟨_, rfl, hq⟩
set_option maxRecDepth 100000 in
theorem i_NK3 (w : World) (lanes by_ : Int) (hlo : 2 ≤ lanes) (hhi : lanes ≤ 16) 
    (c0 : Calls Try.prog 79 #[.int .i64 lanes] (WN w lanes by_) fun e w' => e = .returned (.bool true) ∧ WN w lanes by_ = w') (c1 : Calls Try.prog 94 #[.int .i64 by_, .int .i64 0, .int .i64 (lanes - 1)] (WN w lanes by_) fun e w' => e = .returned (.bool true) ∧ WN w lanes by_ = w')
    (Q : Value → World → Prop) (bz : (by_ != 0) = false) (hz : Calls Try.prog 115 #[.int .i64 lanes] (WN w lanes by_) fun e w' => ∃ v, e = .returned v ∧ Q v w') :
    Calls Try.prog 50 #[.int .i64 3, .int .i64 lanes, .int .i64 by_] w (fun e w' => ∃ v, e = .returned (.tuple #[v, .bool true]) ∧ Q v w') := by
  go_enter Try.func50, Try.ntmps50
  go_wp2_with fail
  refine c0.mono ?_
  rintro e w1 ⟨rfl, rfl⟩
  go_wp2_with fail
  refine c1.mono ?_
  rintro e w1 ⟨rfl, rfl⟩
  go_wp2_with fail
  refine hz.mono ?_
  rintro e w2 ⟨v2, rfl, hq⟩
  go_wp2_with fail
  go_ret2
  exact ⟨_, rfl, hq⟩
set_option maxRecDepth 100000 in
theorem i_NK4 (w : World) (lanes by_ : Int) (hlo : 2 ≤ lanes) (hhi : lanes ≤ 16) 
    (c0 : Calls Try.prog 79 #[.int .i64 lanes] (WN w lanes by_) fun e w' => e = .returned (.bool true) ∧ WN w lanes by_ = w') (c1 : Calls Try.prog 94 #[.int .i64 by_, .int .i64 0, .int .i64 (lanes - 1)] (WN w lanes by_) fun e w' => e = .returned (.bool true) ∧ WN w lanes by_ = w')
    (Q : Value → World → Prop) (Q1 : Value → World → Prop) (bz : (by_ != 0) = false) (hz : Calls Try.prog 115 #[.int .i64 lanes] (WN w lanes by_) fun e w' => ∃ v, e = .returned v ∧ Q1 v w') (hi : ∀ W v, Q1 v W → Calls Try.prog 88 #[v] W (fun e w' => ∃ v, e = .returned (.tuple #[v, .bool true]) ∧ Q v w')) :
    Calls Try.prog 50 #[.int .i64 4, .int .i64 lanes, .int .i64 by_] w (fun e w' => ∃ v, e = .returned (.tuple #[v, .bool true]) ∧ Q v w') := by
  go_enter Try.func50, Try.ntmps50
  go_wp2_with fail
  refine c0.mono ?_
  rintro e w1 ⟨rfl, rfl⟩
  go_wp2_with fail
  refine c1.mono ?_
  rintro e w1 ⟨rfl, rfl⟩
  go_wp2_with fail
  refine hz.mono ?_
  rintro e w2 ⟨v2, rfl, hq⟩
  go_wp2_with fail
  refine (hi _ _ hq).mono ?_
  rintro e w3 ⟨v3, rfl, hq3⟩
  go_wp2_with fail
  go_ret2
  exact ⟨_, rfl, hq3⟩
set_option maxRecDepth 100000 in
theorem i_NKz (w : World) (lanes by_ : Int) (hlo : 2 ≤ lanes) (hhi : lanes ≤ 16) (kind : Int)
    (c0 : Calls Try.prog 79 #[.int .i64 lanes] (WN w lanes by_) fun e w' => e = .returned (.bool true) ∧ WN w lanes by_ = w') (c1 : Calls Try.prog 94 #[.int .i64 by_, .int .i64 0, .int .i64 (lanes - 1)] (WN w lanes by_) fun e w' => e = .returned (.bool true) ∧ WN w lanes by_ = w')
    (b0 : (kind == 0) = false) (b2 : (kind == 2) = false) (b5 : (kind == 5) = false) (bz : (by_ != 0) = true) :
    Calls Try.prog 50 #[.int .i64 kind, .int .i64 lanes, .int .i64 by_] w (fun e w' => e = .returned (.tuple #[.slice none 0 0, .bool false]) ∧ WN w lanes by_ = w') := by
  go_enter Try.func50, Try.ntmps50
  go_wp2_with fail
  refine c0.mono ?_
  rintro e w1 ⟨rfl, rfl⟩
  go_wp2_with fail
  refine c1.mono ?_
  rintro e w1 ⟨rfl, rfl⟩
  go_wp2_with fail
  go_ret2
  exact ⟨rfl, rfl⟩
set_option maxRecDepth 100000 in
theorem i_NKe (w : World) (lanes by_ : Int) (hlo : 2 ≤ lanes) (hhi : lanes ≤ 16) (kind : Int)
    (c0 : Calls Try.prog 79 #[.int .i64 lanes] (WN w lanes by_) fun e w' => e = .returned (.bool true) ∧ WN w lanes by_ = w') (c1 : Calls Try.prog 94 #[.int .i64 by_, .int .i64 0, .int .i64 (lanes - 1)] (WN w lanes by_) fun e w' => e = .returned (.bool true) ∧ WN w lanes by_ = w')
    (b0 : (kind == 0) = false) (b2 : (kind == 2) = false) (b5 : (kind == 5) = false) (bz : (by_ != 0) = false) (b1 : (kind == 1) = false) (b3 : (kind == 3) = false) (b4 : (kind == 4) = false) :
    Calls Try.prog 50 #[.int .i64 kind, .int .i64 lanes, .int .i64 by_] w (fun e w' => e = .returned (.tuple #[.slice none 0 0, .bool false]) ∧ WN w lanes by_ = w') := by
  go_enter Try.func50, Try.ntmps50
  go_wp2_with fail
  refine c0.mono ?_
  rintro e w1 ⟨rfl, rfl⟩
  go_wp2_with fail
  refine c1.mono ?_
  rintro e w1 ⟨rfl, rfl⟩
  go_wp2_with fail
  go_ret2
  exact ⟨rfl, rfl⟩
set_option maxRecDepth 100000 in
theorem i_NKa (w : World) (kind lanes by_ : Int) (c0 : Calls Try.prog 79 #[.int .i64 lanes] (WN w lanes by_) fun e w' => e = .returned (.bool false) ∧ WN w lanes by_ = w') :
    Calls Try.prog 50 #[.int .i64 kind, .int .i64 lanes, .int .i64 by_] w (fun e w' => e = .returned (.tuple #[.slice none 0 0, .bool false]) ∧ WN w lanes by_ = w') := by
  go_enter Try.func50, Try.ntmps50
  go_wp2_with fail
  refine c0.mono ?_
  rintro e w1 ⟨rfl, rfl⟩
  go_wp2_with fail
  go_ret2
  exact ⟨rfl, rfl⟩
set_option maxRecDepth 100000 in
theorem i_NKb (w : World) (kind lanes by_ : Int) (hlo : 2 ≤ lanes) (hhi : lanes ≤ 16) (c0 : Calls Try.prog 79 #[.int .i64 lanes] (WN w lanes by_) fun e w' => e = .returned (.bool true) ∧ WN w lanes by_ = w') (c1 : Calls Try.prog 94 #[.int .i64 by_, .int .i64 0, .int .i64 (lanes - 1)] (WN w lanes by_) fun e w' => e = .returned (.bool false) ∧ WN w lanes by_ = w') :
    Calls Try.prog 50 #[.int .i64 kind, .int .i64 lanes, .int .i64 by_] w (fun e w' => e = .returned (.tuple #[.slice none 0 0, .bool false]) ∧ WN w lanes by_ = w') := by
  go_enter Try.func50, Try.ntmps50
  go_wp2_with fail
  refine c0.mono ?_
  rintro e w1 ⟨rfl, rfl⟩
  go_wp2_with fail
  refine c1.mono ?_
  rintro e w1 ⟨rfl, rfl⟩
  go_wp2_with fail
  go_ret2
  exact ⟨rfl, rfl⟩
end Go.Proofs.Ytolcmehndambmaa
