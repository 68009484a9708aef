/- Plain facts on numbers and bits that the walks of this seat use: masks, joins, turns. No condition but those typed. -/
import Derived.WalkKit
import Derived.WalkLawsBesides
import Derived.Laws.BitsAllLaws
namespace Go.Proofs.Ytoippgiahldkmaa
namespace Num
open Go.RowKit
set_option linter.unusedVariables false

theorem wrap_small (k : IntKind) (j : Nat) (hj : j < k.bits) (n : Int) (h0 : 0 ≤ n) (h1 : n < 2 ^ j) : k.wrap n = n := by
  have hp : (2 : Int) ^ j ≤ 2 ^ (k.bits - 1) := by
    have : (2 : Nat) ^ j ≤ 2 ^ (k.bits - 1) := Nat.pow_le_pow_right (by decide) (by omega)
    exact_mod_cast this
  have hq : (2 : Int) ^ (k.bits - 1) ≤ 2 ^ k.bits := by
    have : (2 : Nat) ^ (k.bits - 1) ≤ 2 ^ k.bits := Nat.pow_le_pow_right (by decide) (by omega)
    exact_mod_cast this
  unfold IntKind.wrap
  have hm : n % (2 ^ k.bits : Int) = n := Int.emod_eq_of_lt h0 (by omega)
  simp only [hm]
  rw [if_neg]
  simp only [Bool.and_eq_true, decide_eq_true_eq, not_and, ge_iff_le, Int.not_le]
  intro _; omega

theorem ofInt_toNat (b : Nat) (x : Int) : (BitVec.ofInt b x).toNat = (x % 2 ^ b).toNat := by
  rw [BitVec.toNat_ofInt]; simp

/-- The lowest bits of whatever number, by its mask. -/
theorem and_low (k : IntKind) (j : Nat) (hj : j < k.bits) (x : Int) : bits .and k x (2 ^ j - 1) = x % 2 ^ j := by
  have hjj : (2 : Int) ^ j < 2 ^ k.bits := by
    have : (2 : Nat) ^ j < 2 ^ k.bits := Nat.pow_lt_pow_right (by decide) hj
    exact_mod_cast this
  have h1 : (1 : Int) ≤ 2 ^ j := by
    have : (1 : Nat) ≤ 2 ^ j := Nat.one_le_two_pow
    exact_mod_cast this
  have e2 : ((2 : Int) ^ j - 1) % 2 ^ k.bits = 2 ^ j - 1 := Int.emod_eq_of_lt (by omega) (by omega)
  have e3 : ((2 : Int) ^ j - 1).toNat = 2 ^ j - 1 := by
    have : ((2 : Int) ^ j - 1) = ((2 ^ j - 1 : Nat) : Int) := by
      rw [Int.natCast_sub Nat.one_le_two_pow]; simp
    rw [this, Int.toNat_natCast]
  have hx0 : 0 ≤ x % 2 ^ k.bits := Int.emod_nonneg _ (by omega)
  have hdvd : (2 : Int) ^ j ∣ 2 ^ k.bits := by
    have : (2 : Nat) ^ j ∣ 2 ^ k.bits := Nat.pow_dvd_pow 2 (by omega)
    have := Int.natCast_dvd_natCast.2 this
    simpa using this
  have e1 : (((x % 2 ^ k.bits).toNat % 2 ^ j : Nat) : Int) = x % 2 ^ j := by
    rw [Int.natCast_emod, Int.toNat_of_nonneg hx0]
    simp [Int.emod_emod_of_dvd _ hdvd]
  show k.wrap ((BitVec.ofInt k.bits x &&& BitVec.ofInt k.bits (2 ^ j - 1)).toNat : Int) = _
  rw [BitVec.toNat_and, ofInt_toNat, ofInt_toNat, e2, e3, Nat.and_two_pow_sub_one_eq_mod, e1]
  exact wrap_small k j hj _ (Int.emod_nonneg _ (by omega)) (Int.emod_lt_of_pos _ (by omega))

theorem i64_and255 (x : Int) : bits .and .i64 x 255 = x % 256 := and_low .i64 8 (by decide) x
theorem i64_and127 (x : Int) : bits .and .i64 x 127 = x % 128 := and_low .i64 7 (by decide) x
theorem i64_and31 (x : Int) : bits .and .i64 x 31 = x % 32 := and_low .i64 5 (by decide) x
theorem i64_and15 (x : Int) : bits .and .i64 x 15 = x % 16 := and_low .i64 4 (by decide) x
theorem i64_and65535 (x : Int) : bits .and .i64 x 65535 = x % 65536 := and_low .i64 16 (by decide) x
theorem u64_and31 (x : Int) : bits .and .u64 x 31 = x % 32 := and_low .u64 5 (by decide) x
theorem u32_and1 (x : Int) : bits .and .u32 x 1 = x % 2 := and_low .u32 1 (by decide) x
theorem u32_and255 (x : Int) : bits .and .u32 x 255 = x % 256 := and_low .u32 8 (by decide) x
theorem u64_wrap_mod32 (n : Int) : IntKind.u64.wrap n % 32 = n % 32 := by
  simp only [IntKind.wrap, IntKind.bits, IntKind.signed, Bool.false_and, Bool.false_eq_true, if_false]
  omega
theorem u64_ror (n : Int) : bits .and .u64 (IntKind.u64.wrap n) 31 = n % 32 := by rw [u64_and31, u64_wrap_mod32]

/-- Two numbers of which one has its bits above the other's: or is the sum. -/
theorem u32_join (i : Nat) (x y : Int) (hx0 : 0 ≤ x) (hx : x % 2 ^ i = 0) (hx1 : x < 4294967296) (hy0 : 0 ≤ y) (hy : y < 2 ^ i) (hy1 : y < 4294967296) : bits .or .u32 x y = x + y := by
  rw [u32_or x y hx0 hx1 hy0 hy1]
  have h := nat_join i x.toNat y.toNat (by
    have e : ((x.toNat % 2 ^ i : Nat) : Int) = ((0 : Nat) : Int) := by
      rw [Int.natCast_emod, Int.toNat_of_nonneg hx0]; simpa using hx
    exact_mod_cast e) (by
    have e : ((y.toNat : Nat) : Int) < ((2 ^ i : Nat) : Int) := by rw [Int.toNat_of_nonneg hy0]; simpa using hy
    exact_mod_cast e)
  rw [h]; omega
theorem bits_or_comm (k : IntKind) (x y : Int) : bits .or k x y = bits .or k y x := by
  show k.wrap ((BitVec.ofInt k.bits x ||| BitVec.ofInt k.bits y).toNat : Int) = k.wrap ((BitVec.ofInt k.bits y ||| BitVec.ofInt k.bits x).toNat : Int)
  rw [BitVec.or_comm]
theorem bits_and_comm (k : IntKind) (x y : Int) : bits .and k x y = bits .and k y x := by
  show k.wrap ((BitVec.ofInt k.bits x &&& BitVec.ofInt k.bits y).toNat : Int) = k.wrap ((BitVec.ofInt k.bits y &&& BitVec.ofInt k.bits x).toNat : Int)
  rw [BitVec.and_comm]

/-! A word turned right. -/
/-- The word x turned right by k (0 to 31). -/
def turn (x : Int) (k : Nat) : Int := x / 2 ^ k + x % 2 ^ k * 2 ^ (32 - k)
def ror (x n : Int) : Int := turn x (n % 32).toNat
def small : List Nat := [0, 1, 2, 3, 4, 5, 6, 7, 8, 9, 10, 11, 12, 13, 14, 15, 16, 17, 18, 19, 20, 21, 22, 23, 24, 25, 26, 27, 28, 29, 30, 31]
theorem each32 (P : Nat → Prop) (h : ∀ k ∈ small, P k) (k : Nat) (hk : k < 32) : P k := by
  have : k ∈ small := by
    have : ∀ k : Fin 32, k.val ∈ small := by decide
    exact this ⟨k, hk⟩
  exact h k this
theorem turn_bd (x : Int) (k : Nat) (hk : k < 32) (h0 : 0 ≤ x) (h1 : x < 4294967296) : 0 ≤ turn x k ∧ turn x k < 4294967296 := by
  refine each32 (fun k => 0 ≤ turn x k ∧ turn x k < 4294967296) ?_ k hk
  simp only [small, List.forall_mem_cons, turn, Nat.reduceSub, Int.reducePow]
  and_intros
  all_goals first | omega | (intro _ h; cases h)
theorem turn_succ (x : Int) (k : Nat) (hk : k < 31) (h0 : 0 ≤ x) (h1 : x < 4294967296) : turn x (k + 1) = turn x k / 2 + turn x k % 2 * 2147483648 := by
  refine each32 (fun k => k < 31 → turn x (k + 1) = turn x k / 2 + turn x k % 2 * 2147483648) ?_ k (by omega) hk
  simp only [small, List.forall_mem_cons, turn, Nat.reduceSub, Int.reducePow, Nat.reduceAdd]
  and_intros
  all_goals first | (intro _; omega) | (intro h; omega) | (intro _ h; cases h)
theorem turn_31 (x : Int) (h0 : 0 ≤ x) (h1 : x < 4294967296) : turn x 31 / 2 + turn x 31 % 2 * 2147483648 = x := by
  simp only [turn, Nat.reduceSub, Int.reducePow]; omega
theorem turn_0 (x : Int) : turn x 0 = x := by simp only [turn, Nat.reduceSub, Int.reducePow]; omega
/-- One turn, as the reference does it. -/
theorem one_turn (x : Int) (h0 : 0 ≤ x) (h1 : x < 4294967296) : bits .or .u32 (x / 2) (x * 2147483648 % 4294967296) = x / 2 + x % 2 * 2147483648 := by
  rw [bits_or_comm, u32_join 31 _ _ (by omega) (by simp only [Int.reducePow]; omega) (by omega) (by omega) (by simp only [Int.reducePow]; omega) (by omega)]
  omega
/-- The turn in one piece, as the program does it. -/
theorem whole_turn (x : Int) (k : Nat) (hk : k < 32) (h0 : 0 ≤ x) (h1 : x < 4294967296) : bits .or .u32 (x / 2 ^ k) (x * 2 ^ (32 - k) % 4294967296) = turn x k := by
  refine each32 (fun k => bits .or .u32 (x / 2 ^ k) (x * 2 ^ (32 - k) % 4294967296) = turn x k) ?_ k hk
  simp only [small, List.forall_mem_cons, turn, Nat.reduceSub, Int.reducePow]
  and_intros
  · rw [show x * 4294967296 % 4294967296 = 0 by omega, bits_or_comm, u32_join 32 _ _ (by omega) (by simp only [Int.reducePow]; omega) (by omega) (by omega) (by simp only [Int.reducePow]; omega) (by omega)]; omega
  all_goals first
    | (rw [bits_or_comm]; first
        | (rw [u32_join 31 _ _ (by omega) (by simp only [Int.reducePow]; omega) (by omega) (by omega) (by simp only [Int.reducePow]; omega) (by omega)]; omega)
        | (rw [u32_join 30 _ _ (by omega) (by simp only [Int.reducePow]; omega) (by omega) (by omega) (by simp only [Int.reducePow]; omega) (by omega)]; omega)
        | (rw [u32_join 29 _ _ (by omega) (by simp only [Int.reducePow]; omega) (by omega) (by omega) (by simp only [Int.reducePow]; omega) (by omega)]; omega)
        | (rw [u32_join 28 _ _ (by omega) (by simp only [Int.reducePow]; omega) (by omega) (by omega) (by simp only [Int.reducePow]; omega) (by omega)]; omega)
        | (rw [u32_join 27 _ _ (by omega) (by simp only [Int.reducePow]; omega) (by omega) (by omega) (by simp only [Int.reducePow]; omega) (by omega)]; omega)
        | (rw [u32_join 26 _ _ (by omega) (by simp only [Int.reducePow]; omega) (by omega) (by omega) (by simp only [Int.reducePow]; omega) (by omega)]; omega)
        | (rw [u32_join 25 _ _ (by omega) (by simp only [Int.reducePow]; omega) (by omega) (by omega) (by simp only [Int.reducePow]; omega) (by omega)]; omega)
        | (rw [u32_join 24 _ _ (by omega) (by simp only [Int.reducePow]; omega) (by omega) (by omega) (by simp only [Int.reducePow]; omega) (by omega)]; omega)
        | (rw [u32_join 23 _ _ (by omega) (by simp only [Int.reducePow]; omega) (by omega) (by omega) (by simp only [Int.reducePow]; omega) (by omega)]; omega)
        | (rw [u32_join 22 _ _ (by omega) (by simp only [Int.reducePow]; omega) (by omega) (by omega) (by simp only [Int.reducePow]; omega) (by omega)]; omega)
        | (rw [u32_join 21 _ _ (by omega) (by simp only [Int.reducePow]; omega) (by omega) (by omega) (by simp only [Int.reducePow]; omega) (by omega)]; omega)
        | (rw [u32_join 20 _ _ (by omega) (by simp only [Int.reducePow]; omega) (by omega) (by omega) (by simp only [Int.reducePow]; omega) (by omega)]; omega)
        | (rw [u32_join 19 _ _ (by omega) (by simp only [Int.reducePow]; omega) (by omega) (by omega) (by simp only [Int.reducePow]; omega) (by omega)]; omega)
        | (rw [u32_join 18 _ _ (by omega) (by simp only [Int.reducePow]; omega) (by omega) (by omega) (by simp only [Int.reducePow]; omega) (by omega)]; omega)
        | (rw [u32_join 17 _ _ (by omega) (by simp only [Int.reducePow]; omega) (by omega) (by omega) (by simp only [Int.reducePow]; omega) (by omega)]; omega)
        | (rw [u32_join 16 _ _ (by omega) (by simp only [Int.reducePow]; omega) (by omega) (by omega) (by simp only [Int.reducePow]; omega) (by omega)]; omega)
        | (rw [u32_join 15 _ _ (by omega) (by simp only [Int.reducePow]; omega) (by omega) (by omega) (by simp only [Int.reducePow]; omega) (by omega)]; omega)
        | (rw [u32_join 14 _ _ (by omega) (by simp only [Int.reducePow]; omega) (by omega) (by omega) (by simp only [Int.reducePow]; omega) (by omega)]; omega)
        | (rw [u32_join 13 _ _ (by omega) (by simp only [Int.reducePow]; omega) (by omega) (by omega) (by simp only [Int.reducePow]; omega) (by omega)]; omega)
        | (rw [u32_join 12 _ _ (by omega) (by simp only [Int.reducePow]; omega) (by omega) (by omega) (by simp only [Int.reducePow]; omega) (by omega)]; omega)
        | (rw [u32_join 11 _ _ (by omega) (by simp only [Int.reducePow]; omega) (by omega) (by omega) (by simp only [Int.reducePow]; omega) (by omega)]; omega)
        | (rw [u32_join 10 _ _ (by omega) (by simp only [Int.reducePow]; omega) (by omega) (by omega) (by simp only [Int.reducePow]; omega) (by omega)]; omega)
        | (rw [u32_join 9 _ _ (by omega) (by simp only [Int.reducePow]; omega) (by omega) (by omega) (by simp only [Int.reducePow]; omega) (by omega)]; omega)
        | (rw [u32_join 8 _ _ (by omega) (by simp only [Int.reducePow]; omega) (by omega) (by omega) (by simp only [Int.reducePow]; omega) (by omega)]; omega)
        | (rw [u32_join 7 _ _ (by omega) (by simp only [Int.reducePow]; omega) (by omega) (by omega) (by simp only [Int.reducePow]; omega) (by omega)]; omega)
        | (rw [u32_join 6 _ _ (by omega) (by simp only [Int.reducePow]; omega) (by omega) (by omega) (by simp only [Int.reducePow]; omega) (by omega)]; omega)
        | (rw [u32_join 5 _ _ (by omega) (by simp only [Int.reducePow]; omega) (by omega) (by omega) (by simp only [Int.reducePow]; omega) (by omega)]; omega)
        | (rw [u32_join 4 _ _ (by omega) (by simp only [Int.reducePow]; omega) (by omega) (by omega) (by simp only [Int.reducePow]; omega) (by omega)]; omega)
        | (rw [u32_join 3 _ _ (by omega) (by simp only [Int.reducePow]; omega) (by omega) (by omega) (by simp only [Int.reducePow]; omega) (by omega)]; omega)
        | (rw [u32_join 2 _ _ (by omega) (by simp only [Int.reducePow]; omega) (by omega) (by omega) (by simp only [Int.reducePow]; omega) (by omega)]; omega)
        | (rw [u32_join 1 _ _ (by omega) (by simp only [Int.reducePow]; omega) (by omega) (by omega) (by simp only [Int.reducePow]; omega) (by omega)]; omega))
    | (intro _ h; cases h)
end Num
end Go.Proofs.Ytoippgiahldkmaa
