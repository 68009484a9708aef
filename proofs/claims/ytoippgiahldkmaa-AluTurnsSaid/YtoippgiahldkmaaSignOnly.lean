/- The contract of the reference's Sign: the lowest bits as a number; the world stays as it was. Conditions: the arguments fit their kinds. -/
import Derived.Test.YtoippgiahldkmaaProg
import Derived.Test.YtoippgiahldkmaaFieldPlain
import Derived.Test.YtoippgiahldkmaaBase
namespace Go.Proofs.Ytoippgiahldkmaa
open Go.RowKit
set_option linter.unusedVariables false
def SignRel (x n : Int) (u iv : Value) : Prop := ∃ (k : Nat) (y : Int), (k : Int) ≤ n ∧ iv = .int .i64 (k : Int) ∧ u = .int .i64 y ∧ ((k : Int) < n → y = x % 2 ^ k) ∧ ((k : Int) = n → y = Num.sign x n)
set_option maxRecDepth 100000 in
set_option maxHeartbeats 400000 in
theorem ref_Sign (x n : Int) (w : World) (h0 : 0 ≤ x) (h1 : x < 4294967296) (hn : -9223372036854775808 ≤ n) (hn' : n ≤ 9223372036854775807) :
    Calls Try.prog 22 #[.int .u32 x, .int .i64 n] w fun e w' => e = .returned (.int .i64 (Num.sign x n)) ∧ w = w' := by
  by_cases hin : 1 ≤ n ∧ n ≤ 32
  · obtain ⟨h2, h3⟩ := hin
    have d1 : decide (n < 1) = false := by simp; omega
    have d2 : decide (32 < n) = false := by simp; omega
    go_enter Try.func22, Try.ntmps22
    go_wp2
    go_loop [5, 6] (fun u iv => SignRel x n u iv) (fun _ iv => (n - intOf iv).toNat)
    case atStart => exact ⟨0, 0, by omega, rfl, rfl, fun _ => by simp [Int.emod_one], fun e => by simp at e; omega⟩
    case round =>
      obtain ⟨k, y, hk, rfl, rfl, hy1, hy2⟩ := hrel
      have HY1 := Lib.hid hy1; have HY2 := Lib.hid hy2
      clear hy1 hy2
      by_cases hlt : (k : Int) < n
      · have hk32 : k < 32 := by omega
        obtain ⟨hb1, hb2, hb3, hb4⟩ := Num.low_bd x k hk32
        obtain ⟨P, hP⟩ : ∃ P : Int, P = 2 ^ k := ⟨_, rfl⟩
        have hbit := Num.u32_and1 (x / 2 ^ k)
        have HL := Lib.hid (Num.low_succ x k hk32 h0 h1)
        have HT := Lib.hid (Num.sign_top x k hk32 h0 h1)
        have hy := HY1.out hlt
        obtain ⟨b, hb⟩ : ∃ b : Int, b = x / 2 ^ k % 2 := ⟨_, rfl⟩
        have hbb : 0 ≤ b ∧ b ≤ 1 := by omega
        rw [← hy] at hb1 hb2 HL HT
        rw [← hb] at HL HT hbit
        rw [← hP] at hb3 hb4 HL HT hbit
        have hPw : (2 : Int) ^ k = P := hP.symm
        clear hb hP hy
        cases hq : (b == 1) with
        | true =>
          have hb1' : b = 1 := by simpa using hq
          cases hl : ((k : Int) == n - 1) with
          | true =>
            have hlk : (k : Int) = n - 1 := by simpa using hl
            have HR := Lib.hid (show y + -P = Num.sign x n by
              have := HT.out; rw [show (k : Int) + 1 = n by omega, hb1'] at this; omega)
            have HK := Lib.hid hlk
            clear hb1' hlk
            go_wp2
            go_round
            case rel => exact ⟨k + 1, y + -P, by have := HK.out; omega, by go_num, by first | rfl | exact val_int (by omega), fun h => by have := HK.out; omega, fun _ => HR.out⟩
            case measure => simp [intOf]; omega
          | false =>
            have hlk : (k : Int) ≠ n - 1 := by simpa using hl
            have HR := Lib.hid (show y + P = x % 2 ^ (k + 1) by
              have := HL.out; rw [hb1'] at this; omega)
            have HK := Lib.hid hlk
            clear hb1' hlk
            go_wp2
            go_round
            case rel => exact ⟨k + 1, y + P, by have := HK.out; omega, by go_num, by first | rfl | exact val_int (by omega), fun h => HR.out, fun h => by have := HK.out; omega⟩
            case measure => simp [intOf]; omega
        | false =>
          have hb0 : b = 0 := by have : b ≠ 1 := by simpa using hq
                                 omega
          have HR := Lib.hid (show y = x % 2 ^ (k + 1) by
            have := HL.out; rw [hb0] at this; omega)
          have HR2 := Lib.hid (show y = Num.sign x ((k : Int) + 1) by
            have := HT.out; rw [hb0] at this; omega)
          clear hb0
          go_wp2
          go_round
          case rel => exact ⟨k + 1, y, by omega, by go_num, rfl, fun h => HR.out, fun h => by rw [← h]; exact HR2.out⟩
          case measure => simp [intOf]; omega
      · have hkn : (k : Int) = n := by omega
        have HR := Lib.hid (HY2.out hkn)
        clear hkn
        go_wp2
        go_ret
        exact ⟨ret_int HR.out, rfl⟩
  · have HS := Lib.hid (show Num.sign x n = 0 by unfold Num.sign; rw [if_neg hin])
    by_cases h2 : n < 1
    · clear hin
      go_enter Try.func22, Try.ntmps22
      go_wp2
      go_ret
      exact ⟨ret_int HS.out.symm, rfl⟩
    · have h3 : 32 < n := by omega
      clear hin
      go_enter Try.func22, Try.ntmps22
      go_wp2
      go_ret
      exact ⟨ret_int HS.out.symm, rfl⟩
end Go.Proofs.Ytoippgiahldkmaa
