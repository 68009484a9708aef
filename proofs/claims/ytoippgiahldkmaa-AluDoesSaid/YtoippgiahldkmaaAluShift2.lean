/- The contract of alu.Shift: the shifted word and its carry; the world stays as it was. -/
import Derived.Test.YtoippgiahldkmaaAluShift
namespace Go.Proofs.Ytoippgiahldkmaa
open Go.RowKit
set_option linter.unusedVariables false
theorem wrap_s32 (a : Int) (h0 : 0 ≤ a) (h1 : a < 4294967296) : wrap32 a = Num.s32 a := by unfold Num.s32 wrap32; split <;> omega
theorem u64w (n : Int) : IntKind.u64.wrap n = n % 18446744073709551616 := by simp [IntKind.wrap, IntKind.bits, IntKind.signed]
theorem u64_and1 (x : Int) : bits .and .u64 x 1 = x % 2 := Num.and_low .u64 1 (by decide) x
theorem i64_and1 (x : Int) : bits .and .i64 x 1 = x % 2 := Num.and_low .i64 1 (by decide) x
theorem lsl_fin (x q : Int) (c : Bool) (k : Nat) (hk : 0 < k) (h0 : 0 ≤ x) (h1 : x < 4294967296) (hq : q = x * 2 ^ k) : IntKind.u64.wrap q % 4294967296 = Num.shW 16 x k ∧ (bits .and .u64 (IntKind.u64.wrap q / 4294967296) 1 == 1) = Num.shC 16 x c k := by
  rw [u64_and1, u64w, hq]; exact lsl_form x c k hk h0 h1
theorem lsr_fin (x q : Int) (c : Bool) (k : Nat) (hk : 0 < k) (h0 : 0 ≤ x) (h1 : x < 4294967296) (hq : q = x * 2 / 2 ^ k) : q / 2 % 4294967296 = Num.shW 17 x k ∧ (bits .and .u64 q 1 == 1) = Num.shC 17 x c k := by
  rw [u64_and1, hq]; exact lsr_form x c k hk h0 h1
theorem asr_fin (x q : Int) (c : Bool) (k : Nat) (hk : 0 < k) (h0 : 0 ≤ x) (h1 : x < 4294967296) (hq : q = Num.s32 x * 2 / 2 ^ k) : q / 2 % 4294967296 = Num.shW 18 x k ∧ (bits .and .i64 q 1 == 1) = Num.shC 18 x c k := by
  rw [i64_and1, hq]; exact asr_form x c k hk h0 h1
set_option maxRecDepth 100000 in
set_option maxHeartbeats 1000000 in
theorem alu_Shift (op x n : Int) (c : Bool) (w : World) (h0 : 0 ≤ x) (h1 : x < 4294967296) (hn : -9223372036854775808 ≤ n) (hn' : n ≤ 9223372036854775807) :
    Calls Try.prog 16 #[.int .i64 op, .int .u32 x, .int .i64 n, .bool c] w fun e w' => e = .returned (shV (Num.shiftW op x n) (Num.shiftC op x n c)) ∧ w = w' := by
  by_cases hz : n ≤ 0
  · have HE := Lib.hid (shift_none (op := op) (c := c) h0 h1 (.inl hz))
    go_enter Try.func16, Try.ntmps16
    go_wp2
    go_ret2
    exact ⟨ret_sh HE.out.1.symm HE.out.2.symm, rfl⟩
  have hpos : 0 < n := by omega
  by_cases hin : 16 ≤ op ∧ op ≤ 19
  · have hs := Num.s32_bd x h0 h1
    have hw := wrap_s32 x h0 h1
    have hand := Num.i64_and31 n
    have hneg : -(-(n % 32)) = n % 32 := by omega
    rcases op_cases hin.1 hin.2 with rfl | rfl | rfl | rfl
    · have F := shift_prog (op := 16) (c := c) h0 h1 (by omega) (by omega) hpos
      have HF := Lib.hid F
      clear hin F hw hand hneg
      by_cases h33 : n ≤ 33
      · obtain ⟨k, rfl⟩ := Int.eq_ofNat_of_zero_le (show 0 ≤ n by omega)
        go_enter Try.func16, Try.ntmps16
        go_wp2
        go_ret2
        have E := lsl_fin x (x * 2 ^ k) c k (by omega) h0 h1 rfl
        exact ⟨ret_sh (E.1.trans (by rw [HF.out.1, show (min (k : Int) 33).toNat = k by omega])) (E.2.trans (by rw [HF.out.2, show (min (k : Int) 33).toNat = k by omega])), rfl⟩
      · go_enter Try.func16, Try.ntmps16
        go_wp2
        go_ret2
        have E := lsl_fin x (x * 8589934592) c 33 (by omega) h0 h1 rfl
        exact ⟨ret_sh (E.1.trans (by rw [HF.out.1, show (min n 33).toNat = 33 by omega])) (E.2.trans (by rw [HF.out.2, show (min n 33).toNat = 33 by omega])), rfl⟩
    · have F := shift_prog (op := 17) (c := c) h0 h1 (by omega) (by omega) hpos
      have HF := Lib.hid F
      clear hin F hw hand hneg
      by_cases h33 : n ≤ 33
      · obtain ⟨k, rfl⟩ := Int.eq_ofNat_of_zero_le (show 0 ≤ n by omega)
        go_enter Try.func16, Try.ntmps16
        go_wp2
        go_ret2
        have E := lsr_fin x (x * 2 / 2 ^ k) c k (by omega) h0 h1 rfl
        exact ⟨ret_sh (E.1.trans (by rw [HF.out.1, show (min (k : Int) 33).toNat = k by omega])) (E.2.trans (by rw [HF.out.2, show (min (k : Int) 33).toNat = k by omega])), rfl⟩
      · go_enter Try.func16, Try.ntmps16
        go_wp2
        go_ret2
        have E := lsr_fin x (x * 2 / 8589934592) c 33 (by omega) h0 h1 rfl
        rw [show x * 2 / 8589934592 / 2 % 4294967296 = x * 2 / 8589934592 / 2 by omega] at E
        exact ⟨ret_sh (E.1.trans (by rw [HF.out.1, show (min n 33).toNat = 33 by omega])) (E.2.trans (by rw [HF.out.2, show (min n 33).toNat = 33 by omega])), rfl⟩
    · have F := shift_prog (op := 18) (c := c) h0 h1 (by omega) (by omega) hpos
      have HF := Lib.hid F
      clear hin F hand hneg
      by_cases h33 : n ≤ 33
      · obtain ⟨k, rfl⟩ := Int.eq_ofNat_of_zero_le (show 0 ≤ n by omega)
        go_enter Try.func16, Try.ntmps16
        go_wp2
        go_ret2
        have E := asr_fin x (Num.s32 x * 2 / 2 ^ k) c k (by omega) h0 h1 rfl
        exact ⟨ret_sh (E.1.trans (by rw [HF.out.1, show (min (k : Int) 33).toNat = k by omega])) (E.2.trans (by rw [HF.out.2, show (min (k : Int) 33).toNat = k by omega])), rfl⟩
      · go_enter Try.func16, Try.ntmps16
        go_wp2
        go_ret2
        have E := asr_fin x (Num.s32 x * 2 / 8589934592) c 33 (by omega) h0 h1 rfl
        exact ⟨ret_sh (E.1.trans (by rw [HF.out.1, show (min n 33).toNat = 33 by omega])) (E.2.trans (by rw [HF.out.2, show (min n 33).toNat = 33 by omega])), rfl⟩
    · have F := ror_form x n c h0 h1 hpos
      have HF := Lib.hid F
      have HR := Lib.hid (show Num.ror x (n % 32) = Num.ror x n by unfold Num.ror; rw [show n % 32 % 32 = n % 32 by omega])
      clear hin F hw
      by_cases h33 : n ≤ 33
      all_goals
        go_enter Try.func16, Try.ntmps16
        go_wp2_with (go_at_call 34; refine (rotl _ _ _ (by omega) (by omega)).mono ?_; rintro e w' ⟨rfl, rfl⟩)
        go_ret2
        exact ⟨ret_sh (by rw [HF.out.1, HR.out]) (by rw [HF.out.2, HR.out, beq_decide]), rfl⟩
  · have HE := Lib.hid (shift_none (op := op) (n := n) (c := c) h0 h1 (.inr (show op < 16 ∨ 19 < op by omega)))
    have q1 : (op == 16) = false := beq_of_ne (by omega)
    have q2 : (op == 17) = false := beq_of_ne (by omega)
    have q3 : (op == 18) = false := beq_of_ne (by omega)
    have q4 : (op == 19) = false := beq_of_ne (by omega)
    clear hin
    by_cases h33 : n ≤ 33
    all_goals
      go_enter Try.func16, Try.ntmps16
      go_wp2
      go_ret2
      exact ⟨ret_sh HE.out.1.symm HE.out.2.symm, rfl⟩
end Go.Proofs.Ytoippgiahldkmaa
