/- Plain facts on the bits of ints: joins, masks, shifts. No condition but those typed. -/
import Derived.Test.YtoippgiahldkmaaNum
namespace Go.Proofs.Ytoippgiahldkmaa
namespace Num
open Go.RowKit
set_option linter.unusedVariables false
theorem i64_or_nat (x y : Nat) (hx : x < 2 ^ 62) (hy : y < 2 ^ 62) : bits .or .i64 (x : Int) (y : Int) = ((x ||| y : Nat) : Int) := by
  show IntKind.i64.wrap ((BitVec.ofInt IntKind.i64.bits x ||| BitVec.ofInt IntKind.i64.bits y).toNat : Int) = _
  rw [BitVec.toNat_or, ofInt_toNat, ofInt_toNat]
  have e1 : ((x : Int) % 2 ^ IntKind.i64.bits).toNat = x := by simp only [IntKind.bits]; omega
  have e2 : ((y : Int) % 2 ^ IntKind.i64.bits).toNat = y := by simp only [IntKind.bits]; omega
  rw [e1, e2]
  have := Nat.or_lt_two_pow hx hy
  exact wrap_small .i64 62 (by decide) _ (by omega) (by exact_mod_cast this)
theorem i64_join (i : Nat) (x y : Int) (hx0 : 0 ≤ x) (hx : x % 2 ^ i = 0) (hx1 : x < 4611686018427387904) (hy0 : 0 ≤ y) (hy : y < 2 ^ i) (hy1 : y < 4611686018427387904) : bits .or .i64 x y = x + y := by
  obtain ⟨x, rfl⟩ := Int.eq_ofNat_of_zero_le hx0
  obtain ⟨y, rfl⟩ := Int.eq_ofNat_of_zero_le hy0
  rw [i64_or_nat x y (by omega) (by omega), nat_join i x y (by exact_mod_cast hx) (by exact_mod_cast hy)]
  omega
theorem wrap64_mod (n : Int) (j : Nat) (hj : j ≤ 32) : wrap64 n % 2 ^ j = n % 2 ^ j := by
  have h1 : (2 : Int) ^ j ∣ 18446744073709551616 := by
    have : (2 : Nat) ^ j ∣ 2 ^ 64 := Nat.pow_dvd_pow 2 (by omega)
    have := Int.natCast_dvd_natCast.2 this
    simpa using this
  have h2 : wrap64 n = n ∨ ∃ k, wrap64 n = n + k * 18446744073709551616 := by
    unfold wrap64
    first
      | (right; refine ⟨-((n + 9223372036854775808) / 18446744073709551616), ?_⟩; omega)
      | (simp only []; split <;> first | (left; omega) | (right; exact ⟨-(n / 18446744073709551616), by omega⟩) | (right; exact ⟨-(n / 18446744073709551616) - 1, by omega⟩))
  rcases h2 with h | ⟨k, h⟩
  · rw [h]
  · obtain ⟨q, hq⟩ := h1
    rw [h, hq, show n + k * (2 ^ j * q) = n + 2 ^ j * (k * q) by rw [Int.mul_left_comm], Int.add_mul_emod_self_left]
end Num
end Go.Proofs.Ytoippgiahldkmaa
