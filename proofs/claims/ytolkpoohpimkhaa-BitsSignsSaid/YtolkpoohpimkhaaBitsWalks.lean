/- Contracts of package bits and of its reference's functions on words: what each call returns; the world stays as it was. Conditions: the arguments fit their kinds. -/
import Derived.Test.YtolkpoohpimkhaaProg
import Derived.Test.YtolkpoohpimkhaaNum
import Derived.WalkKit
import Derived.ProofKit
import Derived.WalkLawsBesides
import Derived.Lib.Hide
namespace Go.Proofs.Ytolkpoohpimkhaa
open Go.RowKit
set_option linter.unusedVariables false
theorem ret_int {k : IntKind} {a b : Int} (h : a = b) : Ending.returned (.int k a) = .returned (.int k b) := by rw [h]
theorem val_int {k : IntKind} {a b : Int} (h : a = b) : Value.int k a = .int k b := by rw [h]

theorem bits_Ror (x n : Int) (w : World) (h0 : 0 ≤ x) (h1 : x < 4294967296) :
    Calls Try.prog 28 #[.int .u32 x, .int .i64 n] w fun e w' => e = .returned (.int .u32 (Num.ror x n)) ∧ w = w' := by
  have hk := Num.u64_ror n
  go_enter Try.func28, Try.ntmps28
  go_wp2
  go_ret
  refine ⟨ret_int ?_, rfl⟩
  have e : (32 - n % 32).toNat = 32 - (n % 32).toNat := by omega
  rw [e]
  exact Num.whole_turn x (n % 32).toNat (by omega) h0 h1

theorem tmod32 (n : Int) : -32 < n.tmod 32 ∧ n.tmod 32 < 32 ∧ (n.tmod 32 < 0 → n.tmod 32 + 32 = n % 32) ∧ (0 ≤ n.tmod 32 → n.tmod 32 = n % 32) := by
  by_cases h : 0 ≤ n
  · rw [Int.tmod_eq_emod_of_nonneg h]; omega
  · have e : n.tmod 32 = -((-n) % 32) := by
      rw [show n = -(-n) by omega, Int.neg_tmod, Int.tmod_eq_emod_of_nonneg (by omega)]; simp
    rw [e]; omega
set_option maxHeartbeats 400000 in
theorem ref_Ror (x n : Int) (w : World) (h0 : 0 ≤ x) (h1 : x < 4294967296) (hn : -9223372036854775808 ≤ n) (hn' : n ≤ 9223372036854775807) :
    Calls Try.prog 29 #[.int .u32 x, .int .i64 n] w fun e w' => e = .returned (.int .u32 (Num.ror x n)) ∧ w = w' := by
  obtain ⟨ha, hb, hc, hd⟩ := tmod32 n
  have HC := Lib.hid hc; have HD := Lib.hid hd; clear hc hd
  obtain ⟨m, hm⟩ : ∃ m : Nat, m = (n % 32).toNat := ⟨_, rfl⟩
  have hmb : m < 32 := by omega
  have HM := Lib.hid (show (m : Int) = n % 32 by omega)
  have HR := Lib.hid (show Num.ror x n = Num.turn x m by rw [hm]; rfl)
  clear hm
  go_enter Try.func29, Try.ntmps29
  go_wp2
  all_goals
    go_loop [0, 1] (fun y i => ∃ j : Nat, j ≤ m ∧ i = .int .i64 ((m : Int) - j) ∧ y = .int .u32 (Num.turn x j)) (fun _ i => (intOf i).toNat)
    case atStart => exact ⟨0, Nat.zero_le _, val_int (by first | (have := HC.out (by assumption); have := HM.out; omega) | (have := HD.out (by assumption); have := HM.out; omega)), val_int (Num.turn_0 x).symm⟩
    case round =>
      obtain ⟨j, hj, rfl, rfl⟩ := hrel
      have hb2 := Num.turn_bd x j (by omega) h0 h1
      by_cases hlt : j < m
      · have HS := Lib.hid (Num.turn_succ x j (by omega) h0 h1)
        go_wp2
        go_round
        case rel => exact ⟨j + 1, by omega, val_int (by omega), val_int (by rw [HS.out]; exact Num.one_turn _ hb2.1 hb2.2)⟩
        case measure => simp [intOf]; omega
      · obtain rfl : j = m := by omega
        go_wp2
        go_ret
        exact ⟨ret_int HR.out.symm, rfl⟩
end Go.Proofs.Ytolkpoohpimkhaa
