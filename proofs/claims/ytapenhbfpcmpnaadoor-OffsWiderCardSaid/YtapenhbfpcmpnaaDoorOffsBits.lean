/- Bits of whatever number that a mask keeps apart (layer 3's statement OffsBack), without a program in sight. -/
import Derived.Test.YtapenhbfpcmpnaaDoorOffsPlain
import Derived.Test.YtapenhbfpcmpnaaDoorNum
namespace Go.Proofs.YtapenhbfpcmpnaaDoor
namespace Num
open Go.RowKit
set_option linter.unusedVariables false
/-- A number's bits, 64 of them. -/
def u (x : Int) : Nat := (x % 18446744073709551616).toNat
theorem u_lt (x : Int) : u x < 18446744073709551616 := by unfold u; omega
theorem u_small (x : Int) (h0 : 0 ≤ x) (h1 : x < 18446744073709551616) : u x = x.toNat := by unfold u; rw [Int.emod_eq_of_lt h0 h1]
theorem u_wrap (n : Nat) (h : n < 18446744073709551616) : u (IntKind.i64.wrap (n : Int)) = n := by
  unfold u; rw [IntKind.wrap_i64]; omega
theorem ofInt_u (x : Int) : (BitVec.ofInt 64 x).toNat = u x := by rw [ofInt_toNat]; rfl
theorem u_or (a b : Int) : u (bits .or .i64 a b) = u a ||| u b := by
  show u (IntKind.i64.wrap ((BitVec.ofInt 64 a ||| BitVec.ofInt 64 b).toNat : Int)) = _
  rw [u_wrap _ (BitVec.isLt _), BitVec.toNat_or, ofInt_u, ofInt_u]
theorem u_andNot (a b : Int) : u (bits .andNot .i64 a b) = u a &&& (18446744073709551615 - u b) := by
  show u (IntKind.i64.wrap ((BitVec.ofInt 64 a &&& ~~~ BitVec.ofInt 64 b).toNat : Int)) = _
  rw [u_wrap _ (BitVec.isLt _), BitVec.toNat_and, BitVec.toNat_not, ofInt_u, ofInt_u]
theorem field_u (x : Int) (i k : Nat) (h : i + k ≤ 64) : x / 2 ^ i % 2 ^ k = ((u x / 2 ^ i % 2 ^ k : Nat) : Int) := by
  have hp : (0 : Int) < 2 ^ i := by have : 0 < 2 ^ i := Nat.two_pow_pos i; exact_mod_cast this
  have hq : (0 : Int) < 2 ^ k := by have : 0 < 2 ^ k := Nat.two_pow_pos k; exact_mod_cast this
  have e64 : (18446744073709551616 : Int) = 2 ^ i * (2 ^ k * 2 ^ (64 - i - k)) := by
    rw [← Int.pow_add, ← Int.pow_add, show i + (k + (64 - i - k)) = 64 by omega]; rfl
  have hx : x = x % 18446744073709551616 + 2 ^ i * (2 ^ k * 2 ^ (64 - i - k) * (x / 18446744073709551616)) := by
    have := Int.emod_add_mul_ediv x 18446744073709551616
    rw [← Int.mul_assoc, ← e64]; omega
  have hu : ((u x : Nat) : Int) = x % 18446744073709551616 := by unfold u; omega
  rw [Int.natCast_emod, Int.natCast_ediv, hu]
  simp only [Int.natCast_pow]
  conv => lhs; rw [hx]
  rw [Int.add_mul_ediv_left _ _ (by omega), Int.mul_assoc, Int.add_mul_emod_self_left]
  rfl
theorem keep_field (A N M i k : Nat) (hN : N < 18446744073709551616) (hM : M < 18446744073709551616) (hones : ∀ j, j < k → M.testBit (i + j) = true) :
    (A ||| (N &&& (18446744073709551615 - M))) / 2 ^ i % 2 ^ k = A / 2 ^ i % 2 ^ k := by
  refine Nat.eq_of_testBit_eq fun j => ?_
  rw [Nat.testBit_mod_two_pow, Nat.testBit_mod_two_pow, Nat.testBit_div_two_pow, Nat.testBit_div_two_pow, Nat.testBit_or, Nat.testBit_and]
  by_cases h : j < k
  · have h1 := hones j h
    rw [show 18446744073709551615 - M = 2 ^ 64 - (M + 1) by omega, Nat.testBit_two_pow_sub_succ (show M < 2 ^ 64 from hM), show j + i = i + j by omega, h1]
    simp
  · simp [h]
/-- Of a number with other bits beyond a mask, a field inside it. -/
theorem kept (A n M : Int) (i k : Nat) (h0 : 0 ≤ A) (h1 : A < 18446744073709551616) (hM0 : 0 ≤ M) (hM1 : M < 18446744073709551616) (h : i + k ≤ 64) (hones : ∀ j, j < k → M.toNat.testBit (i + j) = true) :
    bits .or .i64 A (bits .andNot .i64 n M) / 2 ^ i % 2 ^ k = A / 2 ^ i % 2 ^ k := by
  rw [field_u _ i k h, field_u A i k h, u_or, u_andNot, u_small M hM0 hM1, keep_field _ _ _ _ _ (u_lt n) (by omega) hones]
theorem none_beyond (A M : Int) (h0 : 0 ≤ A) (h1 : A < 9223372036854775808) (hM0 : 0 ≤ M) (hM1 : M < 18446744073709551616) (h : A.toNat &&& (18446744073709551615 - M.toNat) = 0) : bits .andNot .i64 A M = 0 := by
  show IntKind.i64.wrap ((BitVec.ofInt 64 A &&& ~~~ BitVec.ofInt 64 M).toNat : Int) = 0
  have e : (BitVec.ofInt 64 A &&& ~~~ BitVec.ofInt 64 M).toNat = 0 := by
    rw [BitVec.toNat_and, BitVec.toNat_not, ofInt_u, ofInt_u, u_small A h0 (by omega), u_small M hM0 hM1, show 2 ^ 64 - 1 - M.toNat = 18446744073709551615 - M.toNat by omega]
    exact h
  rw [e]; rfl
def allN (f : Nat → Bool) : Nat → Bool
  | 0 => true
  | n + 1 => f n && allN f n
theorem allN_at (f : Nat → Bool) (n : Nat) (h : allN f n = true) : ∀ i, i < n → f i = true := by
  induction n with
  | zero => intro i hi; omega
  | succ n ih =>
    intro i hi
    simp only [allN, Bool.and_eq_true] at h
    by_cases e : i = n
    · subst e; exact h.1
    · exact ih h.2 i (by omega)
def inside (M A : Nat) : Bool := A &&& (18446744073709551615 - M) == 0
theorem in1 : allN (inside 255) 256 = true := by decide +kernel
theorem in2 : allN (inside 2047) 2048 = true := by decide +kernel
theorem in3a : allN (fun s => allN (fun r => inside 1087 (s * 1024 + r)) 64) 2 = true := by decide +kernel
theorem in3b : allN (fun p => allN (fun q => allN (fun t => inside 12287 (p * 8192 + q * 2048 + t)) 2048) 2) 2 = true := by decide +kernel
theorem in5 : allN (fun p => allN (fun q => inside 760 (p * 512 + q * 8)) 32) 2 = true := by decide +kernel
theorem mask0 (A M : Int) (h0 : 0 ≤ A) (h1 : A < 65536) (hM0 : 0 ≤ M) (hM1 : M < 65536) (h : inside M.toNat A.toNat = true) : bits .andNot .i64 A M = 0 :=
  none_beyond A M h0 (by omega) hM0 (by omega) (by unfold inside at h; simpa using h)
structure Back (k off n0 n1 m0 m1 : Int) : Prop where
  a : bits .andNot .i64 (putA k off) m0 = 0
  b : bits .andNot .i64 (putB k off) m1 = 0
  g : getO k (bits .or .i64 (putA k off) (bits .andNot .i64 n0 m0)) (bits .or .i64 (putB k off) (bits .andNot .i64 n1 m1)) = off
theorem zero_kept : bits .andNot .i64 0 0 = 0 := by decide +kernel
theorem low_kept (A n M : Int) (k : Nat) (h0 : 0 ≤ A) (h1 : A < 18446744073709551616) (hM0 : 0 ≤ M) (hM1 : M < 18446744073709551616) (h : k ≤ 64) (hones : ∀ j, j < k → M.toNat.testBit (0 + j) = true) :
    bits .or .i64 A (bits .andNot .i64 n M) % 2 ^ k = A % 2 ^ k := by
  have := kept A n M 0 k h0 h1 hM0 hM1 (by omega) hones
  simpa using this
theorem ones_dec (M i k : Nat) (h : allN (fun j => M.testBit (i + j)) k = true) : ∀ j, j < k → M.testBit (i + j) = true := allN_at _ k h
theorem bk1 (off n0 n1 : Int) (hf : fits 1 off = true) : Back 1 off n0 n1 255 0 := by
  have hB : putB 1 off = 0 := by simp [putB, hf]
  have hA : putA 1 off = off / 2 % 256 := by simp [putA, hf]
  have hA0 : 0 ≤ putA 1 off ∧ putA 1 off < 256 := by omega
  refine ⟨mask0 _ _ hA0.1 (by omega) (by decide) (by decide) (allN_at _ _ in1 _ (by omega)), by rw [hB]; exact zero_kept, back1 off _ _ hf ?_⟩
  have := low_kept (putA 1 off) n0 255 8 hA0.1 (by omega) (by decide) (by decide) (by decide) (ones_dec 255 0 8 (by decide))
  simp only [Int.reducePow] at this
  rw [this]; omega
theorem bk2 (off n0 n1 : Int) (hf : fits 2 off = true) : Back 2 off n0 n1 2047 0 := by
  have hB : putB 2 off = 0 := by simp [putB, hf]
  have hA : putA 2 off = off / 2 % 2048 := by simp [putA, hf]
  have hA0 : 0 ≤ putA 2 off ∧ putA 2 off < 2048 := by omega
  refine ⟨mask0 _ _ hA0.1 (by omega) (by decide) (by decide) (allN_at _ _ in2 _ (by omega)), by rw [hB]; exact zero_kept, back2 off _ _ hf ?_⟩
  have := low_kept (putA 2 off) n0 2047 11 hA0.1 (by omega) (by decide) (by decide) (by decide) (ones_dec 2047 0 11 (by decide))
  simp only [Int.reducePow] at this
  rw [this]; omega
theorem sgn01 (off : Int) : 0 ≤ sgn off ∧ sgn off ≤ 1 := by unfold sgn; split <;> omega
theorem fld (A n M : Int) (i k : Nat) (I K : Int) (hI : (2 : Int) ^ i = I) (hK : (2 : Int) ^ k = K) (h0 : 0 ≤ A) (h1 : A < 65536) (hM0 : 0 ≤ M) (hM1 : M < 65536) (h : i + k ≤ 64) (hones : allN (fun j => M.toNat.testBit (i + j)) k = true) :
    bits .or .i64 A (bits .andNot .i64 n M) / I % K = A / I % K := by
  rw [← hI, ← hK]; exact kept A n M i k h0 (by omega) hM0 (by omega) h (ones_dec _ _ _ hones)
theorem fld0 (A n M : Int) (k : Nat) (K : Int) (hK : (2 : Int) ^ k = K) (h0 : 0 ≤ A) (h1 : A < 65536) (hM0 : 0 ≤ M) (hM1 : M < 65536) (h : k ≤ 64) (hones : allN (fun j => M.toNat.testBit (0 + j)) k = true) :
    bits .or .i64 A (bits .andNot .i64 n M) % K = A % K := by
  rw [← hK]; exact low_kept A n M k h0 (by omega) hM0 (by omega) h (ones_dec _ _ _ hones)
theorem inB (p q t : Int) (h0 : 0 ≤ p) (h1 : p ≤ 1) (h2 : 0 ≤ q) (h3 : q ≤ 1) (h4 : 0 ≤ t) (h5 : t < 2048) : inside 12287 (p * 8192 + q * 2048 + t).toNat = true := by
  have h := allN_at _ _ (allN_at _ _ (allN_at _ _ in3b p.toNat (by omega)) q.toNat (by omega)) t.toNat (by omega)
  rw [show (p * 8192 + q * 2048 + t).toNat = p.toNat * 8192 + q.toNat * 2048 + t.toNat by omega]
  exact h
theorem parts (p q t : Int) (h0 : 0 ≤ p) (h1 : p ≤ 1) (h2 : 0 ≤ q) (h3 : q ≤ 1) (h4 : 0 ≤ t) (h5 : t < 2048) : (p * 8192 + q * 2048 + t) / 8192 % 2 * 8192 + (p * 8192 + q * 2048 + t) / 2048 % 2 * 2048 + (p * 8192 + q * 2048 + t) % 2048 = p * 8192 + q * 2048 + t := by
  have e1 : (p * 8192 + q * 2048 + t) / 8192 % 2 = p := by omega
  have e2 : (p * 8192 + q * 2048 + t) / 2048 % 2 = q := by omega
  omega
theorem bk3 (off n0 n1 : Int) (hf : fits 3 off = true) : Back 3 off n0 n1 1087 12287 := by
  have hs := sgn01 off
  have hA : putA 3 off = sgn off * 1024 + off / 4096 % 64 := by simp [putA, hf]
  have hB : putB 3 off = off / 262144 % 2 * 8192 + off / 524288 % 2 * 2048 + off / 2 % 2048 := by simp [putB, hf]
  have hA0 : 0 ≤ putA 3 off ∧ putA 3 off < 65536 := by omega
  have hB0 : 0 ≤ putB 3 off ∧ putB 3 off < 65536 := by omega
  refine ⟨mask0 _ _ hA0.1 hA0.2 (by decide) (by decide) ?_, mask0 _ _ hB0.1 hB0.2 (by decide) (by decide) ?_, back3 off _ _ hf ?_ ?_⟩
  · have h := allN_at _ _ (allN_at _ _ in3a (sgn off).toNat (by omega)) (off / 4096 % 64).toNat (by omega)
    rw [hA, show (sgn off * 1024 + off / 4096 % 64).toNat = (sgn off).toNat * 1024 + (off / 4096 % 64).toNat by omega]
    exact h
  · rw [hB]; exact inB _ _ _ (by omega) (by omega) (by omega) (by omega) (by omega) (by omega)
  · rw [fld _ n0 1087 10 1 1024 2 rfl rfl hA0.1 hA0.2 (by decide) (by decide) (by decide) (by decide), fld0 _ n0 1087 6 64 rfl hA0.1 hA0.2 (by decide) (by decide) (by decide) (by decide)]
    omega
  · rw [fld _ n1 12287 13 1 8192 2 rfl rfl hB0.1 hB0.2 (by decide) (by decide) (by decide) (by decide), fld _ n1 12287 11 1 2048 2 rfl rfl hB0.1 hB0.2 (by decide) (by decide) (by decide) (by decide), fld0 _ n1 12287 11 2048 rfl hB0.1 hB0.2 (by decide) (by decide) (by decide) (by decide)]
    rw [hB]; exact parts _ _ _ (by omega) (by omega) (by omega) (by omega) (by omega) (by omega)
theorem bk4 (off n0 n1 : Int) (hf : fits 4 off = true) : Back 4 off n0 n1 2047 12287 := by
  have hs := sgn01 off
  have b1 := nxor_bd (off / 8388608 % 2) (sgn off)
  have b2 := nxor_bd (off / 4194304 % 2) (sgn off)
  have hA : putA 4 off = sgn off * 1024 + off / 4096 % 1024 := by simp [putA, hf]
  have hB : putB 4 off = nxor (off / 8388608 % 2) (sgn off) * 8192 + nxor (off / 4194304 % 2) (sgn off) * 2048 + off / 2 % 2048 := by simp [putB, hf]
  have hA0 : 0 ≤ putA 4 off ∧ putA 4 off < 2048 := by omega
  have hB0 : 0 ≤ putB 4 off ∧ putB 4 off < 65536 := by omega
  have hA1 : putA 4 off < 65536 := by omega
  refine ⟨mask0 _ _ hA0.1 hA1 (by decide) (by decide) (allN_at _ _ in2 _ (by omega)), mask0 _ _ hB0.1 hB0.2 (by decide) (by decide) ?_, back4 off _ _ hf ?_ ?_⟩
  · rw [hB]; exact inB _ _ _ (by omega) (by omega) (by omega) (by omega) (by omega) (by omega)
  · rw [fld _ n0 2047 10 1 1024 2 rfl rfl hA0.1 hA1 (by decide) (by decide) (by decide) (by decide), fld0 _ n0 2047 10 1024 rfl hA0.1 hA1 (by decide) (by decide) (by decide) (by decide)]
    omega
  · rw [fld _ n1 12287 13 1 8192 2 rfl rfl hB0.1 hB0.2 (by decide) (by decide) (by decide) (by decide), fld _ n1 12287 11 1 2048 2 rfl rfl hB0.1 hB0.2 (by decide) (by decide) (by decide) (by decide), fld0 _ n1 12287 11 2048 rfl hB0.1 hB0.2 (by decide) (by decide) (by decide) (by decide)]
    rw [hB]; exact parts _ _ _ (by omega) (by omega) (by omega) (by omega) (by omega) (by omega)
theorem bk5 (off n0 n1 : Int) (hf : fits 5 off = true) : Back 5 off n0 n1 760 0 := by
  have hB : putB 5 off = 0 := by simp [putB, hf]
  have hA : putA 5 off = off / 64 % 2 * 512 + off / 2 % 32 * 8 := by simp [putA, hf]
  have hA0 : 0 ≤ putA 5 off ∧ putA 5 off < 65536 := by omega
  refine ⟨mask0 _ _ hA0.1 hA0.2 (by decide) (by decide) ?_, by rw [hB]; exact zero_kept, back5 off _ _ hf ?_⟩
  · have h := allN_at _ _ (allN_at _ _ in5 (off / 64 % 2).toNat (by omega)) (off / 2 % 32).toNat (by omega)
    rw [hA, show (off / 64 % 2 * 512 + off / 2 % 32 * 8).toNat = (off / 64 % 2).toNat * 512 + (off / 2 % 32).toNat * 8 by omega]
    exact h
  · rw [fld _ n0 760 9 1 512 2 rfl rfl hA0.1 hA0.2 (by decide) (by decide) (by decide) (by decide), fld _ n0 760 3 5 8 32 rfl rfl hA0.1 hA0.2 (by decide) (by decide) (by decide) (by decide)]
    omega
end Num
end Go.Proofs.YtapenhbfpcmpnaaDoor
