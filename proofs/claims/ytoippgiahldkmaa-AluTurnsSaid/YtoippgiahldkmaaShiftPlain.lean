/- The plain law of shifts (layer 13), without a program in sight. -/
import Derived.Test.YtoippgiahldkmaaNum
namespace Go.Proofs.Ytoippgiahldkmaa
namespace Num
open Go.RowKit
set_option linter.unusedVariables false
def s32 (a : Int) : Int := if a < 2147483648 then a else a - 4294967296
theorem s32_bd (a : Int) (h0 : 0 ≤ a) (h1 : a < 4294967296) : -2147483648 ≤ s32 a ∧ s32 a ≤ 2147483647 := by unfold s32; split <;> omega
/-- A word shifted j times, and the carry of the last time. -/
def shW (op x : Int) (j : Nat) : Int :=
  if op = 16 then x * 2 ^ j % 4294967296 else if op = 17 then x / 2 ^ j else if op = 18 then s32 x / 2 ^ j % 4294967296 else ror x j
def shC (op x : Int) (c : Bool) : Nat → Bool
  | 0 => c
  | j + 1 => if op = 16 then decide (shW 16 x j / 2147483648 = 1) else decide (shW op x j % 2 = 1)
theorem two_pos (j : Nat) : (0 : Int) < 2 ^ j := by have : 0 < 2 ^ j := Nat.two_pow_pos j; exact_mod_cast this
theorem shW_0 (op x : Int) (h0 : 0 ≤ x) (h1 : x < 4294967296) (ho : 16 ≤ op) (ho' : op ≤ 19) : shW op x 0 = x := by
  have h : op = 16 ∨ op = 17 ∨ op = 18 ∨ op = 19 := by omega
  rcases h with rfl | rfl | rfl | rfl <;> simp [shW]
  · omega
  · unfold s32; split <;> omega
  · unfold ror; rw [show ((0 : Int) % 32).toNat = 0 from rfl, turn_0]
theorem shW_bd (op x : Int) (j : Nat) (h0 : 0 ≤ x) (h1 : x < 4294967296) : 0 ≤ shW op x j ∧ shW op x j < 4294967296 := by
  have hp := two_pos j
  unfold shW
  split; · omega
  split
  · have a := Int.ediv_nonneg h0 (Int.le_of_lt hp)
    have b := Int.ediv_le_self (2 ^ j : Int) h0
    omega
  split; · omega
  exact turn_bd x _ (by omega) h0 h1
theorem lsl_succ (x : Int) (j : Nat) : shW 16 x (j + 1) = shW 16 x j * 2 % 4294967296 := by
  simp only [shW, if_pos]
  rw [Int.pow_succ, ← Int.mul_assoc]
  generalize x * 2 ^ j = q
  omega
theorem div_succ (x : Int) (j : Nat) : x / 2 ^ (j + 1) = x / 2 ^ j / 2 := by
  rw [Int.pow_succ, Int.ediv_ediv_of_nonneg (Int.le_of_lt (two_pos j))]
theorem lsr_succ (x : Int) (j : Nat) : shW 17 x (j + 1) = shW 17 x j / 2 := by
  simp only [shW, if_neg (show ¬ (17 : Int) = 16 by decide), if_pos]
  exact div_succ x j
theorem asr_div_bd (x : Int) (j : Nat) (h0 : 0 ≤ x) (h1 : x < 4294967296) : -2147483648 ≤ s32 x / 2 ^ j ∧ s32 x / 2 ^ j ≤ 2147483647 := by
  have hb := s32_bd x h0 h1
  have hp := two_pos j
  constructor
  · refine Int.le_ediv_of_mul_le hp ?_
    have : (1 : Int) ≤ 2 ^ j := hp
    have : -2147483648 * 2 ^ j ≤ -2147483648 * (1 : Int) := by
      have := Int.mul_le_mul_of_nonneg_left this (show (0 : Int) ≤ 2147483648 by decide)
      omega
    omega
  · by_cases h : 0 ≤ s32 x
    · have := Int.ediv_le_self (2 ^ j : Int) h; omega
    · have := Int.ediv_neg_of_neg_of_pos (show s32 x < 0 by omega) hp; omega
theorem asr_succ (x : Int) (j : Nat) (h0 : 0 ≤ x) (h1 : x < 4294967296) : shW 18 x (j + 1) = shW 18 x j / 2 + shW 18 x j / 2147483648 * 2147483648 := by
  have hb := asr_div_bd x j h0 h1
  simp only [shW, if_neg (show ¬ (18 : Int) = 16 by decide), if_neg (show ¬ (18 : Int) = 17 by decide), if_pos]
  rw [div_succ]
  generalize s32 x / 2 ^ j = z at *
  omega
theorem ror_succ (x : Int) (j : Nat) (h0 : 0 ≤ x) (h1 : x < 4294967296) : shW 19 x (j + 1) = shW 19 x j / 2 + shW 19 x j % 2 * 2147483648 := by
  simp only [shW, if_neg (show ¬ (19 : Int) = 16 by decide), if_neg (show ¬ (19 : Int) = 17 by decide), if_neg (show ¬ (19 : Int) = 18 by decide)]
  unfold ror
  by_cases h : (j : Int) % 32 = 31
  · rw [show ((j + 1 : Nat) : Int) % 32 = 0 by omega, h]
    rw [show (31 : Int).toNat = 31 from rfl, turn_31 x h0 h1, show (0 : Int).toNat = 0 from rfl, turn_0]
  · rw [show (((j + 1 : Nat) : Int) % 32).toNat = ((j : Int) % 32).toNat + 1 by omega]
    exact turn_succ x _ (by omega) h0 h1
/-- From 33 times on nothing changes but for turns. -/
theorem sh_far (op x : Int) (c : Bool) (j : Nat) (h0 : 0 ≤ x) (h1 : x < 4294967296) (ho : 16 ≤ op) (ho' : op ≤ 18) (hj : 33 ≤ j) : shW op x j = shW op x 33 ∧ shC op x c j = shC op x c 33 := by
  obtain ⟨i, rfl⟩ : ∃ i, j = i + 33 := ⟨j - 33, by omega⟩
  have hs := s32_bd x h0 h1
  have l32 : ∀ i : Nat, shW 16 x (i + 32) = 0 := by
    intro i
    simp only [shW, if_pos]
    rw [Int.pow_add, show (2 : Int) ^ 32 = 4294967296 from rfl, ← Int.mul_assoc]
    generalize x * 2 ^ i = q
    omega
  have r32 : ∀ i : Nat, shW 17 x (i + 32) = 0 := by
    intro i
    simp only [shW, if_neg (show ¬ (17 : Int) = 16 by decide), if_pos]
    refine Int.ediv_eq_zero_of_lt h0 ?_
    have : (2 : Nat) ^ 32 ≤ 2 ^ (i + 32) := Nat.pow_le_pow_right (by decide) (by omega)
    have e : ((2 ^ (i + 32) : Nat) : Int) = (2 : Int) ^ (i + 32) := by simp
    omega
  have a32 : ∀ i : Nat, shW 18 x (i + 32) = if s32 x < 0 then 4294967295 else 0 := by
    intro i
    simp only [shW, if_neg (show ¬ (18 : Int) = 16 by decide), if_neg (show ¬ (18 : Int) = 17 by decide), if_pos]
    have hbig : (4294967296 : Int) ≤ 2 ^ (i + 32) := by
      have : (2 : Nat) ^ 32 ≤ 2 ^ (i + 32) := Nat.pow_le_pow_right (by decide) (by omega)
      have e : ((2 ^ (i + 32) : Nat) : Int) = (2 : Int) ^ (i + 32) := by simp
      omega
    by_cases hn : s32 x < 0
    · rw [if_pos hn]
      have : s32 x / 2 ^ (i + 32) = -1 := by
        have h1 := Int.ediv_neg_of_neg_of_pos hn (two_pos (i + 32))
        have h2 : -1 ≤ s32 x / 2 ^ (i + 32) := Int.le_ediv_of_mul_le (two_pos _) (by omega)
        omega
      rw [this]; decide
    · rw [if_neg hn, Int.ediv_eq_zero_of_lt (by omega) (by omega)]; decide
  have e1 : i + 33 = (i + 1) + 32 := by omega
  have h : op = 16 ∨ op = 17 ∨ op = 18 := by omega
  rcases h with rfl | rfl | rfl
  · refine ⟨?_, ?_⟩
    · rw [e1, l32, show (33 : Nat) = 1 + 32 from rfl, l32]
    · show shC 16 x c ((i + 32) + 1) = shC 16 x c ((0 + 32) + 1)
      simp only [shC, if_pos]; rw [l32, l32]
  · refine ⟨?_, ?_⟩
    · rw [e1, r32, show (33 : Nat) = 1 + 32 from rfl, r32]
    · show shC 17 x c ((i + 32) + 1) = shC 17 x c ((0 + 32) + 1)
      simp only [shC, if_neg (show ¬ (17 : Int) = 16 by decide)]; rw [r32, r32]
  · refine ⟨?_, ?_⟩
    · rw [e1, a32, show (33 : Nat) = 1 + 32 from rfl, a32]
    · show shC 18 x c ((i + 32) + 1) = shC 18 x c ((0 + 32) + 1)
      simp only [shC, if_neg (show ¬ (18 : Int) = 16 by decide)]; rw [a32, a32]
/-- The carry of a turn is the word's last bit. -/
theorem ror_carry (x : Int) (c : Bool) (j : Nat) (h0 : 0 ≤ x) (h1 : x < 4294967296) : shC 19 x c (j + 1) = decide (shW 19 x (j + 1) / 2147483648 = 1) := by
  have hb := shW_bd 19 x j h0 h1
  rw [ror_succ x j h0 h1]
  simp only [shC, if_neg (show ¬ (19 : Int) = 16 by decide)]
  rw [Bool.eq_iff_iff]; simp; omega
/-- How often a shift by n is done. -/
def times (op n : Int) : Nat := if n ≤ 0 then 0 else if op = 19 then (if n > 64 then (32 + n % 32).toNat else n.toNat) else (min n 64).toNat
def shiftW (op x n : Int) : Int := if 16 ≤ op ∧ op ≤ 19 then shW op x (times op n) else x
def shiftC (op x n : Int) (c : Bool) : Bool := if 16 ≤ op ∧ op ≤ 19 then shC op x c (times op n) else c
end Num
end Go.Proofs.Ytoippgiahldkmaa
