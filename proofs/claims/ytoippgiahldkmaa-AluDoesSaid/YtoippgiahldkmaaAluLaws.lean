/- The examples of chapter 13 (awake), and the walks of layer 13's statements: each returns true, and the world keeps all that was there. -/
import Derived.Test.YtoippgiahldkmaaAluRefDo
import Derived.Test.YtoippgiahldkmaaAluDiv
import Derived.Laws.StructEq
namespace Go.Proofs.Ytoippgiahldkmaa
open Go.RowKit Mem
set_option linter.unusedVariables false
theorem xa1 : addW 4294967295 1 false = 0 := by decide +kernel
theorem xa2 : addC 4294967295 1 false = true := by decide +kernel
theorem xa3 : addV 4294967295 1 false = false := by decide +kernel
theorem xs : shV (Num.shiftW 17 1 1) (Num.shiftC 17 1 1 false) = .tuple #[.int .u32 0, .bool true] := by
  rw [show Num.shiftW 17 1 1 = 0 by decide +kernel, show Num.shiftC 17 1 1 false = true by decide +kernel]; rfl
theorem xd1 : (doR 7 3 5 false false false false).r = 4294967294 ∧ (doR 7 3 5 false false false false).n = true ∧ (doR 7 3 5 false false false false).z = false ∧ (doR 7 3 5 false false false false).c = false ∧ (doR 7 3 5 false false false false).v = false ∧ (doR 7 3 5 false false false false).t = true := by decide +kernel
theorem xd : resV (doR 7 3 5 false false false false) = .tuple #[.int .u32 4294967294, .agg #[.bool true, .bool false, .bool false, .bool false], .bool true] := by
  obtain ⟨h1, h2, h3, h4, h5, h6⟩ := xd1
  unfold resV; rw [h1, h2, h3, h4, h5, h6]
theorem xv1 : divW 7 2 false = 3 := by decide +kernel
theorem xv2 : divW 4294967289 2 true = 4294967293 := by decide +kernel
set_option maxRecDepth 100000 in
set_option maxHeartbeats 1000000 in
theorem awake13 (w : World) :
    Calls Try.prog 15 #[] w fun e w' => e = .returned (.bool true) ∧ Below w.heap.size w w' := by
  have e1 := xa1
  have e2 := xa2
  have e3 := xa3
  have e4 := xs
  have e5 := xd
  have e6 := xv1
  have e7 := xv2
  go_enter Try.func15, Try.ntmps15
  go_wp2_with fail
  refine (alu_Add _ _ _ _ (by omega) (by omega) (by omega) (by omega)).mono ?_
  rintro e w' ⟨rfl, rfl⟩
  go_wp2_with fail
  refine (alu_Shift _ _ _ _ _ (by omega) (by omega) (by omega) (by omega)).mono ?_
  rintro e w' ⟨rfl, rfl⟩
  rw [e4]
  go_wp2_with fail
  refine (alu_Do _ _ _ _ _ _ _ _ (by omega) (by omega) (by omega) (by omega)).mono ?_
  rintro e w1 ⟨rfl, hb⟩
  rw [e5]
  go_wp2_with (go_at_call 20; refine (alu_Divide _ _ _ _ (by omega) (by omega) (by omega) (by omega)).mono ?_; rintro e w' ⟨rfl, rfl⟩)
  go_ret
  exact ⟨rfl, hb.alloc hb.size _⟩
set_option maxRecDepth 100000 in
set_option maxHeartbeats 1000000 in
theorem law_AluAdds (a b : Int) (c : Bool) (w : World) (h0 : 0 ≤ a) (h1 : a < 4294967296) (h2 : 0 ≤ b) (h3 : b < 4294967296) :
    Calls Try.prog 3 #[.int .u32 a, .int .u32 b, .bool c] w fun e w' => e = .returned (.bool true) ∧ Below w.heap.size w w' := by
  go_enter Try.func3, Try.ntmps3
  go_wp2_with (first | (go_at_call 13; refine (alu_Add _ _ _ _ (by omega) (by omega) (by omega) (by omega)).mono ?_; rintro e w' ⟨rfl, rfl⟩) | (go_at_call 14; refine (ref_Add _ _ _ _ (by omega) (by omega) (by omega) (by omega)).mono ?_; rintro e w' ⟨rfl, rfl⟩) | (go_at_call 15; refine (awake13 _).mono ?_; rintro e w' ⟨rfl, hb⟩))
  go_ret
  exact ⟨rfl, hb⟩
set_option maxRecDepth 100000 in
set_option maxHeartbeats 1000000 in
theorem law_AluDivides (a b : Int) (c : Bool) (w : World) (h0 : 0 ≤ a) (h1 : a < 4294967296) (h2 : 0 ≤ b) (h3 : b < 4294967296) :
    Calls Try.prog 6 #[.int .u32 a, .int .u32 b, .bool c] w fun e w' => e = .returned (.bool true) ∧ Below w.heap.size w w' := by
  go_enter Try.func6, Try.ntmps6
  go_wp2_with (first | (go_at_call 20; refine (alu_Divide _ _ _ _ (by omega) (by omega) (by omega) (by omega)).mono ?_; rintro e w' ⟨rfl, rfl⟩) | (go_at_call 21; refine (ref_Divide _ _ _ _ (by omega) (by omega) (by omega) (by omega)).mono ?_; rintro e w' ⟨rfl, rfl⟩) | (go_at_call 15; refine (awake13 _).mono ?_; rintro e w' ⟨rfl, hb⟩))
  go_ret
  exact ⟨rfl, hb⟩
set_option maxRecDepth 100000 in
set_option maxHeartbeats 1000000 in
theorem law_AluShifts (op x n : Int) (w : World) (h0 : 0 ≤ x) (h1 : x < 4294967296) (hn : -9223372036854775808 ≤ n) (hn' : n ≤ 9223372036854775807) :
    Calls Try.prog 4 #[.int .i64 op, .int .u32 x, .int .i64 n] w fun e w' => e = .returned (.bool true) ∧ Below w.heap.size w w' := by
  have hform : ∀ c : Bool, ∃ (X : Int) (C : Bool), shV (Num.shiftW op x n) (Num.shiftC op x n c) = .tuple #[.int .u32 X, .bool C] := fun c => ⟨_, _, rfl⟩
  obtain ⟨X0, C0, e0⟩ := hform false
  obtain ⟨X1, C1, e1⟩ := hform true
  clear hform
  go_enter Try.func4, Try.ntmps4
  go_wp2_with fail
  refine wp_loop_rounds 3 ?_
  rw [rounds_succ]
  go_wp2_with (first | (go_at_call 16; refine (alu_Shift _ _ _ _ _ (by omega) (by omega) (by omega) (by omega)).mono ?_; rintro e w' ⟨rfl, rfl⟩; simp only [e0]) | (go_at_call 17; refine (ref_Shift _ _ _ _ _ (by omega) (by omega) (by omega) (by omega)).mono ?_; rintro e w' ⟨rfl, rfl⟩; simp only [e0]) | (go_at_call 15; refine (awake13 _).mono ?_; rintro e w' ⟨rfl, hb⟩))
  rw [rounds_succ]
  go_wp2_with (first | (go_at_call 16; refine (alu_Shift _ _ _ _ _ (by omega) (by omega) (by omega) (by omega)).mono ?_; rintro e w' ⟨rfl, rfl⟩; simp only [e1]) | (go_at_call 17; refine (ref_Shift _ _ _ _ _ (by omega) (by omega) (by omega) (by omega)).mono ?_; rintro e w' ⟨rfl, rfl⟩; simp only [e1]) | (go_at_call 15; refine (awake13 _).mono ?_; rintro e w' ⟨rfl, hb⟩))
  rw [rounds_succ]
  go_wp2_with (go_at_call 15; refine (awake13 _).mono ?_; rintro e w' ⟨rfl, hb⟩)
  go_ret
  exact ⟨rfl, hb⟩
end Go.Proofs.Ytoippgiahldkmaa
