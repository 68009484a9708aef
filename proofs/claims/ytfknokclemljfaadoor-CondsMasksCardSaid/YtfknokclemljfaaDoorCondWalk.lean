/- Contracts of conds.Holds, Turn, Next, Cond and of their references. -/
import Derived.Test.YtfknokclemljfaaDoorProg
import Derived.Test.YtfknokclemljfaaDoorCondPlain
import Derived.Test.YtfknokclemljfaaDoorBits64
import Derived.Test.YtfknokclemljfaaDoorMem
import Derived.WalkLawsBesides
import Derived.Deep.QuietTactic
import Derived.BigQuiet
import Derived.Deep.LoopGhost
import Derived.Outline
namespace Go.Proofs.YtfknokclemljfaaDoor
open Go.RowKit Mem
set_option linter.unusedVariables false
theorem conds_Turn (k : Int) (w : World) (hk : -9223372036854775808 ≤ k) (hk' : k ≤ 9223372036854775807) :
    Calls Tryd.prog 12 #[.int .i64 k] w fun e w' => e = .returned (.int .i64 (other k)) ∧ w = w' := by
  by_cases h1 : k < 0
  · go_enter Tryd.func12, Tryd.ntmps12
    go_wp2
    go_ret
    exact ⟨ret_int (other_none (.inl h1)).symm, rfl⟩
  by_cases h2 : 13 < k
  · go_enter Tryd.func12, Tryd.ntmps12
    go_wp2
    go_ret
    exact ⟨ret_int (other_none (.inr h2)).symm, rfl⟩
  have HE := Lib.hid (show bits .xor .i64 k 1 = other k by
    rcases all_conds (k := k) (by omega) (by omega) with rfl | rfl | rfl | rfl | rfl | rfl | rfl | rfl | rfl | rfl | rfl | rfl | rfl | rfl <;> decide)
  go_enter Tryd.func12, Tryd.ntmps12
  go_wp2
  go_ret
  exact ⟨ret_int (by rw [← HE.out]), rfl⟩
theorem ref_Turn (k : Int) (w : World) (hk : -9223372036854775808 ≤ k) (hk' : k ≤ 9223372036854775807) :
    Calls Tryd.prog 13 #[.int .i64 k] w fun e w' => e = .returned (.int .i64 (other k)) ∧ w = w' := by
  by_cases h1 : k < 0
  · go_enter Tryd.func13, Tryd.ntmps13
    go_wp2
    go_ret
    exact ⟨ret_int (other_none (.inl h1)).symm, rfl⟩
  by_cases h2 : 13 < k
  · go_enter Tryd.func13, Tryd.ntmps13
    go_wp2
    go_ret
    exact ⟨ret_int (other_none (.inr h2)).symm, rfl⟩
  by_cases h3 : k % 2 = 0
  · go_enter Tryd.func13, Tryd.ntmps13
    go_wp2
    go_ret
    exact ⟨ret_int (by unfold other; rw [if_neg (by omega), if_pos h3]), rfl⟩
  · go_enter Tryd.func13, Tryd.ntmps13
    go_wp2
    go_ret
    exact ⟨ret_int (by unfold other; rw [if_neg (by omega), if_neg h3]), rfl⟩
set_option maxRecDepth 100000 in
set_option maxHeartbeats 1000000 in
theorem conds_Holds (k : Int) (n z c v : Bool) (w : World) (hk : -9223372036854775808 ≤ k) (hk' : k ≤ 9223372036854775807) :
    Calls Tryd.prog 10 #[.int .i64 k, .agg #[.bool n, .bool z, .bool c, .bool v]] w fun e w' => e = .returned (.bool (hold k n z c v)) ∧ w' = w.alloc (.cells #[.bool n, .bool z, .bool c, .bool v] 23) := by
  by_cases h1 : k < 0
  · go_enter Tryd.func10, Tryd.ntmps10
    go_wp2
    go_ret
    exact ⟨ret_bool (hold_none (.inl h1) _ _ _ _).symm, rfl⟩
  by_cases h2 : 13 < k
  · go_enter Tryd.func10, Tryd.ntmps10
    go_wp2
    go_ret
    exact ⟨ret_bool (hold_none (.inr h2) _ _ _ _).symm, rfl⟩
  rcases all_conds (k := k) (by omega) (by omega) with rfl | rfl | rfl | rfl | rfl | rfl | rfl | rfl | rfl | rfl | rfl | rfl | rfl | rfl
  all_goals
    clear h1 h2 hk hk'
    go_enter Tryd.func10, Tryd.ntmps10
    go_wp2
    all_goals go_ret
    all_goals exact ⟨ret_bool (by cases n <;> cases z <;> cases c <;> cases v <;> simp_all [hold]), by first | rfl | simp [*]⟩
set_option maxRecDepth 100000 in
set_option maxHeartbeats 1000000 in
theorem ref_Holds (k : Int) (n z c v : Bool) (w : World) (hk : -9223372036854775808 ≤ k) (hk' : k ≤ 9223372036854775807) :
    Calls Tryd.prog 11 #[.int .i64 k, .agg #[.bool n, .bool z, .bool c, .bool v]] w fun e w' => e = .returned (.bool (hold k n z c v)) ∧ w' = w.alloc (.cells #[.bool n, .bool z, .bool c, .bool v] 23) := by
  by_cases h1 : k < 0
  · go_enter Tryd.func11, Tryd.ntmps11
    go_wp2
    go_ret
    exact ⟨ret_bool (hold_none (.inl h1) _ _ _ _).symm, rfl⟩
  by_cases h2 : 13 < k
  · go_enter Tryd.func11, Tryd.ntmps11
    go_wp2
    go_ret
    exact ⟨ret_bool (hold_none (.inr h2) _ _ _ _).symm, rfl⟩
  rcases all_conds (k := k) (by omega) (by omega) with rfl | rfl | rfl | rfl | rfl | rfl | rfl | rfl | rfl | rfl | rfl | rfl | rfl | rfl
  all_goals
    clear h1 h2 hk hk'
    go_enter Tryd.func11, Tryd.ntmps11
    go_wp2
    all_goals go_ret
    all_goals exact ⟨ret_bool (by cases n <;> cases z <;> cases c <;> cases v <;> simp_all [hold]), by first | rfl | simp [*]⟩
theorem and224 (x : Int) : bits .and .i64 x 224 = x / 32 % 8 * 32 := by
  show IntKind.i64.wrap ((BitVec.ofInt IntKind.i64.bits x &&& BitVec.ofInt IntKind.i64.bits 224).toNat : Int) = _
  have h := (by decide +kernel : ∀ m : Fin 256, m.val &&& 224 = m.val / 32 % 8 * 32) ⟨(x % 2 ^ 64).toNat % 256, by omega⟩
  rw [BitVec.toNat_and, Num.ofInt_toNat]
  have e1 : (BitVec.ofInt IntKind.i64.bits 224).toNat = 255 &&& 224 := by decide
  rw [e1, ← Nat.and_assoc, nat_mask8]
  have hx : ((x % 2 ^ IntKind.i64.bits).toNat : Int) = x % 18446744073709551616 := by
    simp only [IntKind.bits]; omega
  have hh : ((x % 2 ^ IntKind.i64.bits).toNat % 256 &&& 224) = (x % 2 ^ IntKind.i64.bits).toNat % 256 / 32 % 8 * 32 := h
  rw [hh]
  rw [Num.wrap_small .i64 8 (by decide) _ (by omega) (by omega)]
  omega
theorem conds_Next (it : Int) (w : World) (hk : -9223372036854775808 ≤ it) (hk' : it ≤ 9223372036854775807) :
    Calls Tryd.prog 24 #[.int .i64 it] w fun e w' => e = .returned (.int .i64 (nextIt it)) ∧ w = w' := by
  have e7 : bits .and .i64 it 7 = it % 8 := Num.and_low .i64 3 (by decide) it
  have e224 := and224 it
  by_cases h1 : it % 8 = 0
  · go_enter Tryd.func24, Tryd.ntmps24
    go_wp2
    go_ret
    exact ⟨ret_int (by unfold nextIt; rw [if_pos h1]), rfl⟩
  · have e2 : bits .and .i64 (wrap64 (it * 2)) 31 = it % 16 * 2 := by
      have := Num.wrap64_mod (it * 2) 5 (by omega)
      rw [Num.i64_and31]; simp only [Int.reducePow] at this; omega
    have HJ := Lib.hid (Num.i64_join 5 (it / 32 % 8 * 32) (it % 16 * 2) (by omega) (by simp only [Int.reducePow]; omega) (by omega) (by omega) (by simp only [Int.reducePow]; omega) (by omega))
    go_enter Tryd.func24, Tryd.ntmps24
    go_wp2
    go_ret
    exact ⟨ret_int (by rw [HJ.out]; unfold nextIt; rw [if_neg h1]), rfl⟩
theorem ref_Next (it : Int) (w : World) (hk : -9223372036854775808 ≤ it) (hk' : it ≤ 9223372036854775807) :
    Calls Tryd.prog 25 #[.int .i64 it] w fun e w' => e = .returned (.int .i64 (nextIt it)) ∧ w = w' := by
  have e7 : bits .and .i64 it 255 = it % 256 := Num.i64_and255 it
  by_cases h1 : it % 8 = 0
  · have h2 : it % 256 % 8 = 0 := by omega
    go_enter Tryd.func25, Tryd.ntmps25
    go_wp2
    go_ret
    exact ⟨ret_int (by unfold nextIt; rw [if_pos h1]), rfl⟩
  · have h2 : ¬ it % 256 % 8 = 0 := by omega
    go_enter Tryd.func25, Tryd.ntmps25
    go_wp2
    go_ret
    exact ⟨ret_int (by unfold nextIt; rw [if_neg h1]; omega), rfl⟩
theorem conds_Cond (it : Int) (w : World) (hk : -9223372036854775808 ≤ it) (hk' : it ≤ 9223372036854775807) :
    Calls Tryd.prog 26 #[.int .i64 it] w fun e w' => e = .returned (.int .i64 (condIt it)) ∧ w = w' := by
  have e7 : bits .and .i64 it 15 = it % 16 := Num.i64_and15 it
  have e8 := Num.i64_and15 (it / 16)
  by_cases h1 : it % 16 = 0
  · go_enter Tryd.func26, Tryd.ntmps26
    go_wp2
    go_ret
    exact ⟨ret_int (by unfold condIt; rw [if_pos h1]), rfl⟩
  · go_enter Tryd.func26, Tryd.ntmps26
    go_wp2
    go_ret
    exact ⟨ret_int (by unfold condIt; rw [if_neg h1]), rfl⟩
theorem ref_Cond (it : Int) (w : World) (hk : -9223372036854775808 ≤ it) (hk' : it ≤ 9223372036854775807) :
    Calls Tryd.prog 27 #[.int .i64 it] w fun e w' => e = .returned (.int .i64 (condIt it)) ∧ w = w' := by
  have e7 : bits .and .i64 it 255 = it % 256 := Num.i64_and255 it
  by_cases h1 : it % 16 = 0
  · have h2 : it % 256 % 16 = 0 := by omega
    go_enter Tryd.func27, Tryd.ntmps27
    go_wp2
    go_ret
    exact ⟨ret_int (by unfold condIt; rw [if_pos h1]), rfl⟩
  · have h2 : ¬ it % 256 % 16 = 0 := by omega
    go_enter Tryd.func27, Tryd.ntmps27
    go_wp2
    go_ret
    exact ⟨ret_int (by unfold condIt; rw [if_neg h1]; omega), rfl⟩
end Go.Proofs.YtfknokclemljfaaDoor
