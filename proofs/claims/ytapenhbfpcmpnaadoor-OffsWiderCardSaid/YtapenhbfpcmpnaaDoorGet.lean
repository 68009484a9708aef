/- Contracts of Get and Sign of package bits and of Get's reference: what each call returns; the world stays as it was. Conditions: the arguments fit their kinds. -/
import Derived.Test.YtapenhbfpcmpnaaDoorProg
import Derived.Test.YtapenhbfpcmpnaaDoorBase
import Derived.Test.YtapenhbfpcmpnaaDoorFieldPlain
import Derived.Outline
namespace Go.Proofs.YtapenhbfpcmpnaaDoor
open Go.RowKit
set_option linter.unusedVariables false
theorem out_cases {hi lo : Int} (h : Num.inW hi lo = false) : lo < 0 ∨ (0 ≤ lo ∧ hi < lo) ∨ (0 ≤ lo ∧ lo ≤ hi ∧ 31 < hi) := by
  have := (Num.inW_not hi lo).1 h; omega
theorem nats {hi lo : Int} (h : Num.inW hi lo = true) : ∃ a b : Nat, hi = a ∧ lo = b ∧ b ≤ a ∧ a ≤ 31 := by
  have := (Num.inW_iff hi lo).1 h
  exact ⟨hi.toNat, lo.toNat, by omega, by omega, by omega, by omega⟩
theorem in_nats {a b : Nat} (h : b ≤ a) (h1 : a ≤ 31) : Num.inW (a : Int) (b : Int) = true := (Num.inW_iff _ _).2 ⟨by omega, by omega, by omega⟩
theorem field_in (hi lo : Nat) (w : World) (h : lo ≤ hi) (h1 : hi ≤ 31) :
    Calls Tryd.prog 22 #[.int .i64 hi, .int .i64 lo] w fun e w' => e = .returned (.int .u32 (Num.maskN hi lo : Int)) ∧ w = w' := by
  go_enter Tryd.func22, Tryd.ntmps22
  go_wp2
  go_ret
  refine ⟨ret_int ?_, rfl⟩
  rw [← Num.mask_walk hi lo h h1]
theorem field_out (hi lo : Int) (w : World) (h : Num.inW hi lo = false) (hl : -9223372036854775808 ≤ lo) (hl' : lo ≤ 9223372036854775807) (hh : -9223372036854775808 ≤ hi) (hh' : hi ≤ 9223372036854775807) :
    Calls Tryd.prog 22 #[.int .i64 hi, .int .i64 lo] w fun e w' => e = .returned (.int .u32 0) ∧ w = w' := by
  rcases out_cases h with h | ⟨h, h1⟩ | ⟨h, h1, h2⟩
  all_goals
    go_enter Tryd.func22, Tryd.ntmps22
    go_wp2
    go_ret
    exact ⟨rfl, rfl⟩
theorem getW_in (x a b : Nat) (h : b ≤ a) (h1 : a ≤ 31) : Num.getW x a b = (Num.getN x a b : Int) := by
  unfold Num.getW; rw [if_pos (in_nats h h1)]; rfl
theorem putW_in (x a b v : Nat) (h : b ≤ a) (h1 : a ≤ 31) : Num.putW x a b v = (Num.putN x a b v : Int) := by
  unfold Num.putW; rw [if_pos (in_nats h h1)]; rfl
theorem getW_out {x hi lo : Int} (h : Num.inW hi lo = false) : Num.getW x hi lo = 0 := by unfold Num.getW; simp [h]
theorem putW_out {x hi lo v : Int} (h : Num.inW hi lo = false) : Num.putW x hi lo v = x := by unfold Num.putW; simp [h]
theorem getW_bd (x hi lo : Int) (h0 : 0 ≤ x) (h1 : x < 4294967296) : 0 ≤ Num.getW x hi lo ∧ Num.getW x hi lo < 4294967296 := by
  cases h : Num.inW hi lo with
  | false => rw [getW_out h]; omega
  | true =>
    obtain ⟨a, b, rfl, rfl, h2, h3⟩ := nats h
    obtain ⟨x, rfl⟩ := Int.eq_ofNat_of_zero_le h0
    rw [getW_in x a b h2 h3]; have := Num.get_lt x a b h2 h3; omega
theorem putW_bd (x hi lo v : Int) (h0 : 0 ≤ x) (h1 : x < 4294967296) (h2 : 0 ≤ v) : 0 ≤ Num.putW x hi lo v ∧ Num.putW x hi lo v < 4294967296 := by
  cases h : Num.inW hi lo with
  | false => rw [putW_out h]; omega
  | true =>
    obtain ⟨a, b, rfl, rfl, h3, h4⟩ := nats h
    obtain ⟨x, rfl⟩ := Int.eq_ofNat_of_zero_le h0
    obtain ⟨v, rfl⟩ := Int.eq_ofNat_of_zero_le h2
    rw [putW_in x a b v h3 h4]; have := Num.put_lt x a b v h3 h4 (by omega); omega
set_option maxHeartbeats 400000 in
theorem bits_Get (x hi lo : Int) (w : World) (h0 : 0 ≤ x) (h1 : x < 4294967296) (hl : -9223372036854775808 ≤ lo) (hl' : lo ≤ 9223372036854775807) (hh : -9223372036854775808 ≤ hi) (hh' : hi ≤ 9223372036854775807) :
    Calls Tryd.prog 15 #[.int .u32 x, .int .i64 hi, .int .i64 lo] w fun e w' => e = .returned (.int .u32 (Num.getW x hi lo)) ∧ w = w' := by
  cases h : Num.inW hi lo with
  | false =>
    rw [getW_out h]
    go_enter Tryd.func15, Tryd.ntmps15
    go_wp2_with (go_at_call 22; refine (field_out _ _ _ h hl hl' hh hh').mono ?_; rintro e w' ⟨rfl, rfl⟩)
    go_ret
    exact ⟨rfl, rfl⟩
  | true =>
    obtain ⟨a, b, rfl, rfl, h2, h3⟩ := nats h
    obtain ⟨x, rfl⟩ := Int.eq_ofNat_of_zero_le h0
    clear h hl hl' hh hh'
    have hm0 : ((Num.maskN a b : Int) == 0) = false := by
      have := Num.mask_ne a b h2; simp; omega
    have hm1 := Num.mask_lt a b h2 h3
    have hand := u32_and_nat x (Num.maskN a b) (by omega) (by omega)
    have HG := Lib.hid (getW_in x a b h2 h3)
    have HA := Lib.hid (Num.and_mask_shr x a b h2)
    go_enter Tryd.func15, Tryd.ntmps15
    go_wp2_with (go_at_call 22; refine (field_in _ _ _ h2 h3).mono ?_; rintro e w' ⟨rfl, rfl⟩)
    go_ret
    refine ⟨ret_int ?_, rfl⟩
    rw [HG.out, ← HA.out]
    simp
theorem bits_Sign (x n : Int) (w : World) (h0 : 0 ≤ x) (h1 : x < 4294967296) (hn : -9223372036854775808 ≤ n) (hn' : n ≤ 9223372036854775807) :
    Calls Tryd.prog 19 #[.int .u32 x, .int .i64 n] w fun e w' => e = .returned (.int .i64 (Num.sign x n)) ∧ w = w' := by
  by_cases hin : 1 ≤ n ∧ n ≤ 32
  · obtain ⟨h2, h3⟩ := hin
    go_enter Tryd.func19, Tryd.ntmps19
    go_wp2
    go_ret
    exact ⟨ret_int (Num.sign_walk x n h0 h1 h2 h3), rfl⟩
  · have HS := Lib.hid (show Num.sign x n = 0 by unfold Num.sign; rw [if_neg hin])
    by_cases h2 : n < 1
    · clear hin
      go_enter Tryd.func19, Tryd.ntmps19
      go_wp2
      go_ret
      exact ⟨ret_int HS.out.symm, rfl⟩
    · have h3 : 32 < n := by omega
      clear hin
      go_enter Tryd.func19, Tryd.ntmps19
      go_wp2
      go_ret
      exact ⟨ret_int HS.out.symm, rfl⟩
def GetRel (x a b : Nat) (u iv : Value) : Prop := ∃ (i : Int) (y : Nat), (b : Int) - 1 ≤ i ∧ i ≤ a ∧ iv = .int .i64 i ∧ u = .int .u32 (y : Int) ∧ (y : Int) < 4294967296 ∧ y = x / 2 ^ (i + 1).toNat % 2 ^ ((a : Int) - i).toNat
set_option maxRecDepth 100000 in
set_option maxHeartbeats 400000 in
theorem ref_Get (x hi lo : Int) (w : World) (h0 : 0 ≤ x) (h1 : x < 4294967296) (hl : -9223372036854775808 ≤ lo) (hl' : lo ≤ 9223372036854775807) (hh : -9223372036854775808 ≤ hi) (hh' : hi ≤ 9223372036854775807) :
    Calls Tryd.prog 20 #[.int .u32 x, .int .i64 hi, .int .i64 lo] w fun e w' => e = .returned (.int .u32 (Num.getW x hi lo)) ∧ w = w' := by
  cases h : Num.inW hi lo with
  | false =>
    rw [getW_out h]
    rcases out_cases h with h | ⟨h, h1⟩ | ⟨h, h1, h2⟩
    all_goals
      go_enter Tryd.func20, Tryd.ntmps20
      go_wp2
      go_ret
      exact ⟨rfl, rfl⟩
  | true =>
    obtain ⟨a, b, rfl, rfl, h2, h3⟩ := nats h
    obtain ⟨x, rfl⟩ := Int.eq_ofNat_of_zero_le h0
    clear h hl hl' hh hh'
    have HG := Lib.hid (getW_in x a b h2 h3)
    have d1 : decide ((b : Int) < 0) = false := by simp
    have d2 : decide ((a : Int) < (b : Int)) = false := by simp; omega
    have d3 : decide (31 < (a : Int)) = false := by simp; omega
    have d4 : decide (a < b) = false := by simp; omega
    go_enter Tryd.func20, Tryd.ntmps20
    go_wp2
    go_loop [7, 8] (fun u iv => GetRel x a b u iv) (fun _ iv => (intOf iv + 1 - b).toNat)
    case atStart => exact ⟨a, 0, by omega, by omega, rfl, rfl, by omega, by simp [Nat.mod_one]⟩
    case round =>
      obtain ⟨i, y, hk1, hk2, rfl, rfl, hy, hyv⟩ := hrel
      have HY := Lib.hid hyv
      clear hyv
      by_cases hlt : (b : Int) ≤ i
      · obtain ⟨j, rfl⟩ := Int.eq_ofNat_of_zero_le (show 0 ≤ i by omega)
        have HY2 := HY.out
        rw [show ((j : Int) + 1).toNat = j + 1 by omega, show ((a : Int) - j).toNat = a - j by omega] at HY2
        have hylt : 2 * (y : Int) + 1 < 4294967296 := by
          have hp : y < 2 ^ (a - j) := by rw [HY2]; exact Nat.mod_lt _ (Nat.two_pow_pos _)
          have hp2 : (2 : Nat) ^ (a - j) ≤ 2 ^ 31 := Nat.pow_le_pow_right (by decide) (by omega)
          omega
        have hb1 := Num.u32_and1 ((x : Int) / 2 ^ j)
        have hbit : (x : Int) / 2 ^ j % 2 = ((x / 2 ^ j % 2 : Nat) : Int) := by simp
        have hor : bits .or .u32 ((y : Int) * 2) ((x : Int) / 2 ^ j % 2) = ((2 * y + x / 2 ^ j % 2 : Nat) : Int) := by
          rw [hbit, Num.u32_join 1 _ _ (by omega) (by simp only [Int.reducePow]; omega) (by omega) (by omega) (by simp only [Int.reducePow]; omega) (by omega)]; omega
        have HN := Lib.hid (show 2 * y + x / 2 ^ j % 2 = x / 2 ^ ((j : Int) - 1 + 1).toNat % 2 ^ ((a : Int) - ((j : Int) - 1)).toNat by
          rw [HY2, show ((j : Int) - 1 + 1).toNat = j by omega, show ((a : Int) - ((j : Int) - 1)).toNat = a - j + 1 by omega]
          exact Num.get_step x a j (by omega))
        have HBL := Lib.hid (show x / 2 ^ j % 2 < 2 from Nat.mod_lt _ (by decide))
        clear hbit HY2
        go_wp2
        go_round
        case rel => exact ⟨(j : Int) - 1, 2 * y + x / 2 ^ j % 2, by omega, by omega, rfl, by first | rfl | exact val_int (by omega), by have := HBL.out; omega, HN.out⟩
        case measure => simp [intOf]; omega
      · have HR := Lib.hid (show (y : Int) = Num.getW x a b by
          rw [HG.out, HY.out]; unfold Num.getN; rw [show (i + 1).toNat = b by omega, show ((a : Int) - i).toNat = a - b + 1 by omega])
        go_wp2
        go_ret
        exact ⟨ret_int HR.out, rfl⟩
end Go.Proofs.YtapenhbfpcmpnaaDoor
