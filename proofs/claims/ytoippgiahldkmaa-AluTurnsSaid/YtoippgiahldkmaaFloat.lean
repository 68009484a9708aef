/- Whole numbers of fewer than 53 bits as floating-point words: written, read, added and compared they are exact. No program in sight. -/
import Derived.WalkKit
import Derived.WalkLawsBesides
namespace Go.Proofs.Ytoippgiahldkmaa
namespace Fl
open Go.RowKit Ieee
set_option linter.unusedVariables false
def rung (m : Nat) : Nat := (m.log2 + 1022) * 4503599627370496 + m * 2 ^ (52 - m.log2)
theorem log2_lt (m : Nat) (h0 : m ≠ 0) (h : m < 9007199254740992) : m.log2 ≤ 52 := by
  have := (Nat.log2_lt h0).2 (show m < 2 ^ 53 from h)
  omega
theorem norm_bd (m : Nat) (h0 : m ≠ 0) (h : m < 9007199254740992) : 4503599627370496 ≤ m * 2 ^ (52 - m.log2) ∧ m * 2 ^ (52 - m.log2) < 9007199254740992 := by
  have hl := log2_lt m h0 h
  have h1 := Nat.log2_self_le h0
  have h2 := Nat.lt_log2_self (n := m)
  have e : 2 ^ m.log2 * 2 ^ (52 - m.log2) = 4503599627370496 := by rw [← Nat.pow_add, show m.log2 + (52 - m.log2) = 52 by omega]
  have e2 : 2 ^ (m.log2 + 1) * 2 ^ (52 - m.log2) = 9007199254740992 := by rw [← Nat.pow_add, show m.log2 + 1 + (52 - m.log2) = 53 by omega]
  constructor
  · rw [← e]; exact Nat.mul_le_mul_right _ h1
  · rw [← e2]; exact Nat.mul_lt_mul_of_pos_right h2 (Nat.two_pow_pos _)
theorem cut_exact (neg : Bool) (q drop : Nat) (hd : drop ≤ (q * 2 ^ drop).log2 + 2) : Toward.even.cut neg (q * 2 ^ drop) drop = q := by
  have hg : 1 <<< min drop ((q * 2 ^ drop).log2 + 2) = 2 ^ drop := by rw [Nat.min_eq_left hd, Nat.one_shiftLeft]
  have hp : 0 < 2 ^ drop := Nat.two_pow_pos _
  unfold Toward.cut
  simp only [hg]
  rw [Nat.mul_div_cancel _ hp, Nat.mul_mod_left]
  have : (2 ^ drop == 0) = false := by simp
  simp [this]
theorem log2_shift (m k : Nat) (h0 : m ≠ 0) : (m * 2 ^ k).log2 = m.log2 + k := by
  have h1 := Nat.log2_self_le h0
  have h2 := Nat.lt_log2_self (n := m)
  have hne : m * 2 ^ k ≠ 0 := by have := Nat.two_pow_pos k; exact Nat.mul_ne_zero h0 (by omega)
  refine (Nat.log2_eq_iff hne).2 ⟨?_, ?_⟩
  · rw [Nat.pow_add]; exact Nat.mul_le_mul_right _ h1
  · rw [show m.log2 + k + 1 = m.log2 + 1 + k by omega, Nat.pow_add]; exact Nat.mul_lt_mul_of_pos_right h2 (Nat.two_pow_pos _)
theorem le_of_parts (L X B : Nat) (hl : L ≤ 52) (hX : X < 2 * B) : (L + 1022) * B + X ≤ 2047 * B := by
  have : (L + 1022) * B ≤ 1074 * B := Nat.mul_le_mul_right _ (by omega)
  omega
theorem rung_le (m : Nat) (hl : m.log2 ≤ 52) (hb : m * 2 ^ (52 - m.log2) < 9007199254740992) : (m.log2 + 1022) * 4503599627370496 + m * 2 ^ (52 - m.log2) ≤ 9218868437227405312 := le_of_parts m.log2 _ 4503599627370496 hl hb
/-- A whole number at whatever place, written. -/
theorem nearest_exact (neg : Bool) (m k : Nat) (h0 : m ≠ 0) (h : m < 9007199254740992) (hk : k ≤ 1074) : double.nearest neg (m * 2 ^ k) (-(k : Int)) = double.word neg (rung m) := by
  have hl := log2_lt m h0 h
  have hb := norm_bd m h0 h
  have hne : m * 2 ^ k ≠ 0 := by have := Nat.two_pow_pos k; exact Nat.mul_ne_zero h0 (by omega)
  have e1 : double.leastPlace = -1074 := rfl
  have e2 : double.binade = 4503599627370496 := rfl
  have e3 : double.infRung = 9218868437227405312 := rfl
  have e4 : (double.fractionBits : Int) = 52 := rfl
  unfold Format.nearest
  rw [if_neg hne, log2_shift m k h0, e1, e2, e3, e4]
  have hlast : max (-(k : Int) + ((m.log2 + k : Nat) : Int) - 52) (-1074) = (m.log2 : Int) - 52 := by omega
  simp only [hlast]
  have hkept : Toward.even.cut neg ((m * 2 ^ k) <<< (-(k : Int) - ((m.log2 : Int) - 52)).toNat) ((m.log2 : Int) - 52 - -(k : Int)).toNat = m * 2 ^ (52 - m.log2) := by
    by_cases hc : m.log2 + k ≤ 52
    · rw [show (-(k : Int) - ((m.log2 : Int) - 52)).toNat = 52 - m.log2 - k by omega, show ((m.log2 : Int) - 52 - -(k : Int)).toNat = 0 by omega, Nat.shiftLeft_eq, Nat.mul_assoc, ← Nat.pow_add, show k + (52 - m.log2 - k) = 52 - m.log2 by omega]
      have := cut_exact neg (m * 2 ^ (52 - m.log2)) 0 (by omega)
      simpa using this
    · rw [show (-(k : Int) - ((m.log2 : Int) - 52)).toNat = 0 by omega, show ((m.log2 : Int) - 52 - -(k : Int)).toNat = m.log2 + k - 52 by omega, Nat.shiftLeft_zero]
      have e : m * 2 ^ k = m * 2 ^ (52 - m.log2) * 2 ^ (m.log2 + k - 52) := by
        rw [Nat.mul_assoc, ← Nat.pow_add, show 52 - m.log2 + (m.log2 + k - 52) = k by omega]
      have hd : m.log2 + k - 52 ≤ (m * 2 ^ k).log2 + 2 := by rw [log2_shift m k h0]; omega
      rw [e] at hd ⊢
      exact cut_exact neg _ _ hd
  rw [hkept, show ((m.log2 : Int) - 52 - -1074).toNat = m.log2 + 1022 by omega]
  rw [Nat.min_eq_left (rung_le m hl hb.2)]
  rfl
def fl (n : Int) : Nat := double.write (.number (decide (n < 0)) n.natAbs 0)
theorem fl_pos (n : Int) (h0 : n ≠ 0) (h : n.natAbs < 9007199254740992) : fl n = double.word (decide (n < 0)) (rung n.natAbs) := by
  have := nearest_exact (decide (n < 0)) n.natAbs 0 (by omega) h (by omega)
  simpa [fl, Format.write] using this
theorem rung_bd (m : Nat) (h0 : m ≠ 0) (h : m < 9007199254740992) : rung m / 4503599627370496 = m.log2 + 1023 ∧ rung m % 4503599627370496 = m * 2 ^ (52 - m.log2) - 4503599627370496 ∧ rung m < 9218868437227405312 := by
  have hl := log2_lt m h0 h
  have hb := norm_bd m h0 h
  unfold rung
  omega
/-- What a word of a whole number reads as. -/
theorem read_fl (n : Int) (h0 : n ≠ 0) (h : n.natAbs < 9007199254740992) : double.read (fl n) = .number (decide (n < 0)) (n.natAbs * 2 ^ (52 - n.natAbs.log2)) ((n.natAbs.log2 : Int) - 52) := by
  rw [fl_pos n h0 h]
  have hm : n.natAbs ≠ 0 := by omega
  generalize n.natAbs = m at *
  obtain ⟨r1, r2, r3⟩ := rung_bd m hm h
  have hb := norm_bd m hm h
  have e1 : double.leastPlace = -1074 := rfl
  have e2 : double.binade = 4503599627370496 := rfl
  have e3 : double.infRung = 9218868437227405312 := rfl
  have e5 : double.signWeight = 9223372036854775808 := rfl
  have hw : double.word (decide (n < 0)) (rung m) / double.signWeight % 2 = (decide (n < 0)).toNat ∧ double.word (decide (n < 0)) (rung m) % double.signWeight = rung m := by
    unfold Format.word
    rw [e5]
    cases decide (n < 0) <;> simp <;> omega
  unfold Format.read
  simp only [hw.1, hw.2]
  rw [e1, e2, e3, if_neg (by omega), if_pos r3, r1, r2]
  have hs : ((decide (n < 0)).toNat == 1) = decide (n < 0) := by cases decide (n < 0) <;> rfl
  rw [hs, show 4503599627370496 + (m * 2 ^ (52 - m.log2) - 4503599627370496) = m * 2 ^ (52 - m.log2) by omega, show (-1074 : Int) + ((m.log2 + 1023 - 1 : Nat) : Int) = (m.log2 : Int) - 52 by omega]
theorem read_zero : double.read (fl 0) = .number false 0 (-1074) := by decide +kernel
/-- A datum that stands for a whole number. -/
structure Is (d : Datum) (n : Int) : Prop where
  form : ∃ (s : Bool) (m k : Nat), d = .number s m (-(k : Int)) ∧ k ≤ 1074 ∧ m = n.natAbs * 2 ^ k ∧ s = decide (n < 0)
theorem zero_form (k : Nat) : 0 = (0 : Int).natAbs * 2 ^ k := by simp
theorem is_fl (n : Int) (h : n.natAbs < 9007199254740992) : Is (double.read (fl n)) n := by
  by_cases h0 : n = 0
  · subst h0
    exact ⟨false, 0, 1074, read_zero, by omega, zero_form 1074, by simp⟩
  · have hl := log2_lt n.natAbs (by omega) h
    exact ⟨_, _, 52 - n.natAbs.log2, by rw [read_fl n h0 h, show (n.natAbs.log2 : Int) - 52 = -((52 - n.natAbs.log2 : Nat) : Int) by omega], by omega, rfl, rfl⟩
theorem signed_eq (n : Int) (k up : Nat) : signed (decide (n < 0)) (n.natAbs * 2 ^ k) up = n * 2 ^ (k + up) := by
  unfold signed
  rw [Nat.shiftLeft_eq, Nat.mul_assoc, ← Nat.pow_add]
  have e : ((n.natAbs * 2 ^ (k + up) : Nat) : Int) = (n.natAbs : Int) * 2 ^ (k + up) := by simp
  by_cases h : n < 0
  · simp only [h, decide_true, if_true]
    rw [e, show (n.natAbs : Int) = -n by omega, Int.neg_mul]; omega
  · simp only [h, decide_false, Bool.false_eq_true, if_false]
    rw [e, show (n.natAbs : Int) = n by omega]
theorem write_exact (n : Int) (k : Nat) (h : n.natAbs < 9007199254740992) (hk : k ≤ 1074) : double.write (.number (decide (n < 0)) (n.natAbs * 2 ^ k) (-(k : Int))) = fl n := by
  by_cases h0 : n = 0
  · subst h0; simp [fl, Format.write, Format.nearest]
  · rw [fl_pos n h0 h]; exact nearest_exact _ _ k (by omega) h hk
/-- The sum of two whole numbers is exact. -/
theorem add_fl (a b : Int) (ha : a.natAbs < 9007199254740992) (hb : b.natAbs < 9007199254740992) (hc : (a + b).natAbs < 9007199254740992) : double.add (fl a) (fl b) = some (fl (a + b)) := by
  obtain ⟨s, m, i, e1, hi, rfl, rfl⟩ := (is_fl a ha).form
  obtain ⟨t, n, j, e2, hj, rfl, rfl⟩ := (is_fl b hb).form
  unfold Format.add
  rw [e1, e2]
  unfold Datum.sum
  simp only [Option.map_some]
  have key : ∀ K : Nat, K = max i j → min (-(i : Int)) (-(j : Int)) = -(K : Int) := by intro K hK; omega
  have hm := key (max i j) rfl
  rw [hm]
  generalize hK : max i j = K at *
  have hu1 : (-(i : Int) - -(K : Int)).toNat = K - i := by omega
  have hu2 : (-(j : Int) - -(K : Int)).toNat = K - j := by omega
  rw [hu1, hu2, signed_eq, signed_eq, show i + (K - i) = K by omega, show j + (K - j) = K by omega, ← Int.add_mul]
  have hp : (0 : Int) < 2 ^ K := by have : 0 < 2 ^ K := Nat.two_pow_pos K; exact_mod_cast this
  have hsg : (if (a + b) * 2 ^ K = 0 then decide (a < 0) && decide (b < 0) else decide ((a + b) * 2 ^ K < 0)) = decide (a + b < 0) := by
    by_cases h0 : a + b = 0
    · rw [if_pos (by rw [h0]; simp)]
      by_cases h1 : a < 0
      · have : ¬ b < 0 := by omega
        simp [h0, this]
      · simp [h0, h1]
    · have hne : (a + b) * 2 ^ K ≠ 0 := Int.mul_ne_zero h0 (by omega)
      rw [if_neg hne]
      have : ((a + b) * 2 ^ K < 0) ↔ a + b < 0 := by
        constructor
        · intro h; by_cases h1 : a + b < 0
          · exact h1
          · have := Int.mul_nonneg (show 0 ≤ a + b by omega) (Int.le_of_lt hp); omega
        · intro h; exact Int.mul_neg_of_neg_of_pos h hp
      simp [this]
  have hab : ((a + b) * 2 ^ K).natAbs = (a + b).natAbs * 2 ^ K := by
    rw [Int.natAbs_mul]; congr 1
  rw [hsg, hab, write_exact (a + b) K hc (by omega)]
/-- How two whole numbers stand to each other. -/
theorem order_fl (a b : Int) (ha : a.natAbs < 9007199254740992) (hb : b.natAbs < 9007199254740992) : double.order (fl a) (fl b) = some (compare a b) := by
  obtain ⟨s, m, i, e1, hi, rfl, rfl⟩ := (is_fl a ha).form
  obtain ⟨t, n, j, e2, hj, rfl, rfl⟩ := (is_fl b hb).form
  unfold Format.order
  rw [e1, e2]
  unfold Datum.order
  have hm : min (-(i : Int)) (-(j : Int)) = -((max i j : Nat) : Int) := by omega
  simp only [hm]
  generalize hK : max i j = K at *
  have hu1 : (-(i : Int) - -(K : Int)).toNat = K - i := by omega
  have hu2 : (-(j : Int) - -(K : Int)).toNat = K - j := by omega
  rw [hu1, hu2, signed_eq, signed_eq, show i + (K - i) = K by omega, show j + (K - j) = K by omega]
  have hp : (0 : Int) < 2 ^ K := by have : 0 < 2 ^ K := Nat.two_pow_pos K; exact_mod_cast this
  congr 1
  simp only [compare, compareOfLessAndEq]
  by_cases h1 : a < b
  · rw [if_pos h1, if_pos (Int.mul_lt_mul_of_pos_right h1 hp)]
  · by_cases h2 : a = b
    · subst h2; simp
    · have h3 : ¬ a * 2 ^ K < b * 2 ^ K := by
        have := Int.mul_le_mul_of_nonneg_right (show b ≤ a by omega) (Int.le_of_lt hp); omega
      have h4 : ¬ a * 2 ^ K = b * 2 ^ K := fun e => h2 (Int.eq_of_mul_eq_mul_right (by omega) e)
      rw [if_neg h1, if_neg h2, if_neg h3, if_neg h4]
theorem lit_one : fl 1 = 4607182418800017408 := by decide +kernel
theorem lit_32 : fl 4294967296 = 4751297606875873280 := by decide +kernel
end Fl
end Go.Proofs.Ytoippgiahldkmaa
