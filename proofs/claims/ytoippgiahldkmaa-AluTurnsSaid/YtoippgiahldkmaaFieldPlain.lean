/- The plain law of fields of words, without a program in sight: bits of a word, other bits there, the lowest bits as a number. -/
import Derived.Test.YtoippgiahldkmaaNum
namespace Go.Proofs.Ytoippgiahldkmaa
namespace Num
open Go.RowKit
set_option linter.unusedVariables false
def inW (hi lo : Int) : Bool := decide (0 ≤ lo) && decide (lo ≤ hi) && decide (hi ≤ 31)
def maskN (hi lo : Nat) : Nat := (2 ^ (hi - lo + 1) - 1) * 2 ^ lo
def getN (x hi lo : Nat) : Nat := x / 2 ^ lo % 2 ^ (hi - lo + 1)
def putN (x hi lo v : Nat) : Nat := (x &&& (4294967295 - maskN hi lo)) ||| (v * 2 ^ lo % 4294967296 &&& maskN hi lo)
def getW (x hi lo : Int) : Int := if inW hi lo then ((getN x.toNat hi.toNat lo.toNat : Nat) : Int) else 0
def putW (x hi lo v : Int) : Int := if inW hi lo then ((putN x.toNat hi.toNat lo.toNat v.toNat : Nat) : Int) else x
theorem inW_iff (hi lo : Int) : inW hi lo = true ↔ 0 ≤ lo ∧ lo ≤ hi ∧ hi ≤ 31 := by unfold inW; simp [and_assoc]
theorem inW_not (hi lo : Int) : inW hi lo = false ↔ lo < 0 ∨ hi < lo ∨ 31 < hi := by
  unfold inW; rw [Bool.eq_false_iff]; simp; omega
theorem mask_bit (hi lo i : Nat) (h : lo ≤ hi) : (maskN hi lo).testBit i = (decide (lo ≤ i) && decide (i ≤ hi)) := by
  unfold maskN
  rw [Nat.testBit_mul_two_pow, Nat.testBit_two_pow_sub_one]
  by_cases h1 : lo ≤ i
  · simp [h1]; omega
  · simp [h1]
theorem mask_lt (hi lo : Nat) (h : lo ≤ hi) (h1 : hi ≤ 31) : maskN hi lo < 2 ^ 32 :=
  Nat.lt_pow_two_of_testBit _ fun i hi' => by rw [mask_bit hi lo i h]; simp; omega
theorem mask_ne (hi lo : Nat) (h : lo ≤ hi) : maskN hi lo ≠ 0 := by
  intro e
  have := mask_bit hi lo lo h
  rw [e] at this; simp at this; omega
/-- The mask as the program reckons it. -/
theorem mask_walk (hi lo : Nat) (h : lo ≤ hi) (h1 : hi ≤ 31) : (((2 : Int) ^ (hi - lo + 1) - 1) % 4294967296 * 2 ^ lo % 4294967296) = (maskN hi lo : Int) := by
  have hp : (2 : Nat) ^ (hi - lo + 1) ≤ 2 ^ 32 := Nat.pow_le_pow_right (by decide) (by omega)
  have h1p : (1 : Nat) ≤ 2 ^ (hi - lo + 1) := Nat.one_le_two_pow
  have e1 : ((2 : Int) ^ (hi - lo + 1) - 1) = ((2 ^ (hi - lo + 1) - 1 : Nat) : Int) := by
    rw [Int.natCast_sub h1p]; simp
  have e2 : ((2 : Int) ^ (hi - lo + 1) - 1) % 4294967296 = ((2 ^ (hi - lo + 1) - 1 : Nat) : Int) := by
    rw [e1]; exact Int.emod_eq_of_lt (by omega) (by omega)
  have hm := mask_lt hi lo h h1
  rw [e2]
  have e3 : (((2 ^ (hi - lo + 1) - 1 : Nat) : Int) * 2 ^ lo) = (maskN hi lo : Int) := by unfold maskN; simp
  rw [e3]
  exact Int.emod_eq_of_lt (by omega) (by omega)
theorem get_bit (x hi lo i : Nat) : (getN x hi lo).testBit i = (decide (i < hi - lo + 1) && x.testBit (i + lo)) := by
  unfold getN
  rw [Nat.testBit_mod_two_pow, Nat.testBit_div_two_pow]
theorem not_bit (m i : Nat) (hm : m < 2 ^ 32) : (4294967295 - m).testBit i = (decide (i < 32) && !m.testBit i) := by
  rw [show 4294967295 - m = 2 ^ 32 - (m + 1) by omega]
  exact Nat.testBit_two_pow_sub_succ hm i
theorem put_bit (x hi lo v i : Nat) (h : lo ≤ hi) (h1 : hi ≤ 31) (hx : x < 4294967296) : (putN x hi lo v).testBit i = if lo ≤ i ∧ i ≤ hi then v.testBit (i - lo) else x.testBit i := by
  have hx32 : 32 ≤ i → x.testBit i = false := fun h => Nat.testBit_lt_two_pow (Nat.lt_of_lt_of_le (show x < 2 ^ 32 by omega) (Nat.pow_le_pow_right (by decide) h))
  unfold putN
  rw [Nat.testBit_or, Nat.testBit_and, Nat.testBit_and, not_bit _ _ (mask_lt hi lo h h1), mask_bit hi lo i h, show (4294967296 : Nat) = 2 ^ 32 from rfl, Nat.testBit_mod_two_pow, Nat.testBit_mul_two_pow]
  by_cases c : lo ≤ i ∧ i ≤ hi
  · rw [if_pos c]
    have h3 : i < 32 := by omega
    simp [c.1, c.2, h3]
  · rw [if_neg c]
    have : (decide (lo ≤ i) && decide (i ≤ hi)) = false := by simp; omega
    rw [this]
    by_cases h3 : i < 32
    · simp [h3]
    · simp [h3, hx32 (by omega)]
theorem put_lt (x hi lo v : Nat) (h : lo ≤ hi) (h1 : hi ≤ 31) (hx : x < 4294967296) : putN x hi lo v < 4294967296 := by
  refine Nat.lt_pow_two_of_testBit (n := 32) _ fun i hi' => ?_
  rw [put_bit x hi lo v i h h1 hx, if_neg (by omega)]
  exact Nat.testBit_lt_two_pow (Nat.lt_of_lt_of_le (show x < 2 ^ 32 by omega) (Nat.pow_le_pow_right (by decide) hi'))
theorem get_lt (x hi lo : Nat) (h : lo ≤ hi) (h1 : hi ≤ 31) : getN x hi lo < 4294967296 := by
  have : getN x hi lo < 2 ^ (hi - lo + 1) := Nat.mod_lt _ (Nat.two_pow_pos _)
  have : (2 : Nat) ^ (hi - lo + 1) ≤ 2 ^ 32 := Nat.pow_le_pow_right (by decide) (by omega)
  omega
/-- The field as the program gets it. -/
theorem and_mask_shr (x hi lo : Nat) (h : lo ≤ hi) : (x &&& maskN hi lo) / 2 ^ lo = getN x hi lo := by
  refine Nat.eq_of_testBit_eq fun i => ?_
  rw [Nat.testBit_div_two_pow, Nat.testBit_and, mask_bit hi lo _ h, get_bit]
  by_cases h1 : i < hi - lo + 1
  · have h2 : i + lo ≤ hi := by omega
    simp [h1, h2]
  · have h2 : ¬ i + lo ≤ hi := by omega
    simp [h1, h2]
/-! ### What is put is got, and nothing else is changed -/
theorem put_put (x hi lo v : Nat) (h : lo ≤ hi) (h1 : hi ≤ 31) (hx : x < 4294967296) : putN (putN x hi lo v) hi lo (getN x hi lo) = x := by
  refine Nat.eq_of_testBit_eq fun i => ?_
  rw [put_bit _ hi lo _ i h h1 (put_lt x hi lo v h h1 hx), put_bit x hi lo v i h h1 hx]
  by_cases c : lo ≤ i ∧ i ≤ hi
  · rw [if_pos c, get_bit, show i - lo + lo = i by omega]
    have : i - lo < hi - lo + 1 := by omega
    simp [this]
  · rw [if_neg c, if_neg c]
theorem get_put (x hi lo v : Nat) (h : lo ≤ hi) (h1 : hi ≤ 31) (hx : x < 4294967296) : getN (putN x hi lo v) hi lo = getN v (hi - lo) 0 := by
  refine Nat.eq_of_testBit_eq fun i => ?_
  rw [get_bit, get_bit, put_bit x hi lo v _ h h1 hx]
  by_cases c : i < hi - lo + 1
  · rw [if_pos (by omega), show i + lo - lo = i by omega]; simp
  · have : ¬ i < hi - lo - 0 + 1 := by omega
    simp [c]
theorem get_put_low (x hi lo v : Nat) (h : lo ≤ hi) (h1 : hi ≤ 31) (hx : x < 4294967296) (h0 : 0 < lo) : getN (putN x hi lo v) (lo - 1) 0 = getN x (lo - 1) 0 := by
  refine Nat.eq_of_testBit_eq fun i => ?_
  rw [get_bit, get_bit, put_bit x hi lo v _ h h1 hx]
  by_cases c : i < lo - 1 - 0 + 1
  · rw [if_neg (by omega)]
  · rw [decide_eq_false c]; rfl
theorem get_put_high (x hi lo v : Nat) (h : lo ≤ hi) (h1 : hi < 31) (hx : x < 4294967296) : getN (putN x hi lo v) 31 (hi + 1) = getN x 31 (hi + 1) := by
  refine Nat.eq_of_testBit_eq fun i => ?_
  rw [get_bit, get_bit, put_bit x hi lo v _ h (by omega) hx, if_neg (by omega)]
/-! ### The lowest bits as a number -/
def sign (x n : Int) : Int := if 1 ≤ n ∧ n ≤ 32 then (x + 2 ^ (n.toNat - 1)) % 2 ^ n.toNat - 2 ^ (n.toNat - 1) else 0
theorem sign_walk (x n : Int) (h0 : 0 ≤ x) (h1 : x < 4294967296) (h2 : 1 ≤ n) (h3 : n ≤ 32) : wrap64 (x * 2 ^ (64 - n).toNat) / 2 ^ (64 - n).toNat = sign x n := by
  obtain ⟨k, rfl, hk⟩ : ∃ k : Nat, n = (k : Int) + 1 ∧ k < 32 := ⟨(n - 1).toNat, by omega, by omega⟩
  unfold sign
  rw [if_pos ⟨h2, h3⟩, show ((k : Int) + 1).toNat = k + 1 by omega, show (64 - ((k : Int) + 1)).toNat = 63 - k by omega]
  clear h2 h3
  refine each32 (fun k => wrap64 (x * 2 ^ (63 - k)) / 2 ^ (63 - k) = (x + 2 ^ (k + 1 - 1)) % 2 ^ (k + 1) - 2 ^ (k + 1 - 1)) ?_ k hk
  simp only [small, List.forall_mem_cons, wrap64, Nat.reduceSub, Int.reducePow, Nat.reduceAdd]
  and_intros
  all_goals first | omega | (intro _ h; cases h)
theorem sign_top (x : Int) (k : Nat) (hk : k < 32) (h0 : 0 ≤ x) (h1 : x < 4294967296) : sign x ((k : Int) + 1) = x % 2 ^ k - x / 2 ^ k % 2 * 2 ^ k := by
  unfold sign
  rw [if_pos (by omega), show ((k : Int) + 1).toNat = k + 1 by omega]
  refine each32 (fun k => (x + 2 ^ (k + 1 - 1)) % 2 ^ (k + 1) - 2 ^ (k + 1 - 1) = x % 2 ^ k - x / 2 ^ k % 2 * 2 ^ k) ?_ k hk
  simp only [small, List.forall_mem_cons, Nat.reduceSub, Int.reducePow, Nat.reduceAdd]
  and_intros
  all_goals first | omega | (intro _ h; cases h)
theorem low_succ (x : Int) (k : Nat) (hk : k < 32) (h0 : 0 ≤ x) (h1 : x < 4294967296) : x % 2 ^ (k + 1) = x % 2 ^ k + x / 2 ^ k % 2 * 2 ^ k := by
  refine each32 (fun k => x % 2 ^ (k + 1) = x % 2 ^ k + x / 2 ^ k % 2 * 2 ^ k) ?_ k hk
  simp only [small, List.forall_mem_cons, Int.reducePow, Nat.reduceAdd]
  and_intros
  all_goals first | omega | (intro _ h; cases h)
theorem low_bd (x : Int) (k : Nat) (hk : k < 32) : 0 ≤ x % 2 ^ k ∧ x % 2 ^ k < 4294967296 ∧ (1 : Int) ≤ 2 ^ k ∧ (2 : Int) ^ k ≤ 2147483648 := by
  have h1 : (2 : Nat) ^ k ≤ 2 ^ 31 := Nat.pow_le_pow_right (by decide) (by omega)
  have h2 : (1 : Nat) ≤ 2 ^ k := Nat.one_le_two_pow
  have e : ((2 ^ k : Nat) : Int) = (2 : Int) ^ k := by simp
  have h3 := Int.emod_nonneg x (b := (2 : Int) ^ k) (by omega)
  have h4 := Int.emod_lt_of_pos x (b := (2 : Int) ^ k) (by omega)
  refine ⟨h3, by omega, by omega, by omega⟩
/-- One bit more of a field, as the reference gets it. -/
theorem get_step (x hi i : Nat) (h : i ≤ hi) : 2 * (x / 2 ^ (i + 1) % 2 ^ (hi - i)) + x / 2 ^ i % 2 = x / 2 ^ i % 2 ^ (hi - i + 1) := by
  rw [Nat.pow_succ 2 i, ← Nat.div_div_eq_div_mul, Nat.pow_succ 2 (hi - i), Nat.mul_comm (2 ^ (hi - i)) 2, Nat.mod_mul]
  omega
end Num
end Go.Proofs.Ytoippgiahldkmaa
