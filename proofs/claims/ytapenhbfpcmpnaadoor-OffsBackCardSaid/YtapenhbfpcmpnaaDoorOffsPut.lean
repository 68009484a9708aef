/- Contracts of offs.Put and of the reference's low, high, Fits, bit, Put. -/
import Derived.Test.YtapenhbfpcmpnaaDoorOffsWalks
namespace Go.Proofs.YtapenhbfpcmpnaaDoor
open Go.RowKit
set_option linter.unusedVariables false
theorem ref_low (k : Int) (w : World) (hk : -9223372036854775808 ≤ k) (hk' : k ≤ 9223372036854775807) :
    Calls Tryd.prog 17 #[.int .i64 k] w fun e w' => e = .returned (.int .i64 (Num.lowK k)) ∧ w = w' := by
  go_enter Tryd.func17, Tryd.ntmps17
  go_wp2
  all_goals go_ret
  all_goals refine ⟨ret_int ?_, rfl⟩
  all_goals unfold Num.lowK; simp_all
theorem lowK_bd (k : Int) : -16777216 ≤ Num.lowK k ∧ Num.lowK k ≤ 0 := by
  unfold Num.lowK
  repeat' split
  all_goals omega
theorem ref_high (k : Int) (w : World) (hk : -9223372036854775808 ≤ k) (hk' : k ≤ 9223372036854775807) :
    Calls Tryd.prog 18 #[.int .i64 k] w fun e w' => e = .returned (.int .i64 (Num.highK k)) ∧ w = w' := by
  have hb := lowK_bd k
  cases h5 : (k == 5) with
  | true =>
    have e : k = 5 := by simpa using h5
    subst e
    go_enter Tryd.func18, Tryd.ntmps18
    go_wp2
    go_ret
    exact ⟨ret_int rfl, rfl⟩
  | false =>
    have HE := Lib.hid (show Num.highK k = -Num.lowK k - 2 by unfold Num.highK; rw [if_neg (by simpa using h5)])
    go_enter Tryd.func18, Tryd.ntmps18
    go_wp2_with (go_at_call 17; refine (ref_low _ _ hk hk').mono ?_; rintro e w' ⟨rfl, rfl⟩)
    go_ret
    exact ⟨ret_int (by rw [HE.out]), rfl⟩
theorem fits_form (k off : Int) : Num.fits k off = (decide (1 ≤ k) && decide (k ≤ 5) && (off % 2 == 0) && decide (Num.lowK k ≤ off) && decide (off ≤ Num.highK k)) := by
  unfold Num.fits; rw [Bool.eq_iff_iff]; simp
theorem tmod2 (x : Int) : x.tmod 2 == 0 ↔ x % 2 == 0 := by
  simp only [beq_iff_eq]
  by_cases h : 0 ≤ x
  · rw [Int.tmod_eq_emod_of_nonneg h]
  · have e : x.tmod 2 = -((-x) % 2) := by
      rw [show x = -(-x) by omega, Int.neg_tmod, Int.tmod_eq_emod_of_nonneg (by omega)]; simp
    rw [e]; omega
set_option maxHeartbeats 800000 in
theorem ref_Fits (k off : Int) (w : World) (hk : -9223372036854775808 ≤ k) (hk' : k ≤ 9223372036854775807) (ho : -9223372036854775808 ≤ off) (ho' : off ≤ 9223372036854775807) :
    Calls Tryd.prog 11 #[.int .i64 k, .int .i64 off] w fun e w' => e = .returned (.bool (Num.fits k off)) ∧ w = w' := by
  have hb := lowK_bd k
  have HF := Lib.hid (fits_form k off)
  have HT := Lib.hid (tmod2 off)
  by_cases h1 : k < 1
  · go_enter Tryd.func11, Tryd.ntmps11
    go_wp2
    go_ret
    exact ⟨ret_bool (by rw [HF.out]; simp; omega), rfl⟩
  by_cases h2 : 5 < k
  · go_enter Tryd.func11, Tryd.ntmps11
    go_wp2
    go_ret
    exact ⟨ret_bool (by rw [HF.out]; simp; omega), rfl⟩
  cases h3 : (off.tmod 2 == 0) with
  | false =>
    have HE := Lib.hid (show (off % 2 == 0) = false by have := HT.out; rw [h3] at this; simpa using this)
    go_enter Tryd.func11, Tryd.ntmps11
    go_wp2
    go_ret
    exact ⟨ret_bool (by rw [HF.out, HE.out]; simp), rfl⟩
  | true =>
    have HE := Lib.hid (show (off % 2 == 0) = true from HT.out.1 h3)
    by_cases h4 : Num.lowK k ≤ off
    · go_enter Tryd.func11, Tryd.ntmps11
      go_wp2_with (first | (go_at_call 17; refine (ref_low _ _ hk hk').mono ?_; rintro e w' ⟨rfl, rfl⟩) | (go_at_call 18; refine (ref_high _ _ hk hk').mono ?_; rintro e w' ⟨rfl, rfl⟩))
      all_goals go_ret
      all_goals exact ⟨ret_bool (by rw [HF.out, HE.out]; simp; omega), rfl⟩
    · go_enter Tryd.func11, Tryd.ntmps11
      go_wp2_with (first | (go_at_call 17; refine (ref_low _ _ hk hk').mono ?_; rintro e w' ⟨rfl, rfl⟩) | (go_at_call 18; refine (ref_high _ _ hk hk').mono ?_; rintro e w' ⟨rfl, rfl⟩))
      all_goals go_ret
      all_goals exact ⟨ret_bool (by rw [HF.out, HE.out]; simp; omega), rfl⟩
theorem ret_pair {k l : IntKind} {a b c d : Int} (h : a = c) (h1 : b = d) : Ending.returned (.tuple #[.int k a, .int l b]) = .returned (.tuple #[.int k c, .int l d]) := by rw [h, h1]
theorem getW_eq (x : Int) (a b : Nat) (h0 : 0 ≤ x) (h : b ≤ a) (h1 : a ≤ 31) : Num.getW x a b = x / 2 ^ b % 2 ^ (a - b + 1) := by
  obtain ⟨x, rfl⟩ := Int.eq_ofNat_of_zero_le h0
  rw [getW_in x a b h h1]; unfold Num.getN; simp
theorem g16 (x : Int) (h0 : 0 ≤ x) : Num.getW x 16 11 = x / 2048 % 64 := getW_eq x 16 11 h0 (by decide) (by decide)
theorem g20 (x : Int) (h0 : 0 ≤ x) : Num.getW x 20 11 = x / 2048 % 1024 := getW_eq x 20 11 h0 (by decide) (by decide)
theorem g17 (x : Int) (h0 : 0 ≤ x) : Num.getW x 17 17 = x / 131072 % 2 := getW_eq x 17 17 h0 (by decide) (by decide)
theorem g18 (x : Int) (h0 : 0 ≤ x) : Num.getW x 18 18 = x / 262144 % 2 := getW_eq x 18 18 h0 (by decide) (by decide)
theorem g22 (x : Int) (h0 : 0 ≤ x) : Num.getW x 22 22 = x / 4194304 % 2 := getW_eq x 22 22 h0 (by decide) (by decide)
theorem g21 (x : Int) (h0 : 0 ≤ x) : Num.getW x 21 21 = x / 2097152 % 2 := getW_eq x 21 21 h0 (by decide) (by decide)
theorem g5 (x : Int) (h0 : 0 ≤ x) : Num.getW x 5 5 = x / 32 % 2 := getW_eq x 5 5 h0 (by decide) (by decide)
theorem u32_and2047 (x : Int) : bits .and .u32 x 2047 = x % 2048 := Num.and_low .u32 11 (by decide) x
theorem u32_and31 (x : Int) : bits .and .u32 x 31 = x % 32 := Num.and_low .u32 5 (by decide) x
theorem xor_xor (a b : Int) (h0 : 0 ≤ a) (h1 : a ≤ 1) (h2 : 0 ≤ b) (h3 : b ≤ 1) : bits .xor .u32 (bits .xor .u32 a b) 1 = Num.nxor a b := by
  have ha : a = 0 ∨ a = 1 := by omega
  have hb : b = 0 ∨ b = 1 := by omega
  rcases ha with rfl | rfl <;> rcases hb with rfl | rfl <;> decide +kernel
theorem sgn_bit (off : Int) (h2 : -33554432 ≤ off) (h3 : off ≤ 33554432) : off / 2 % 4294967296 / 2147483648 = Num.sgn off := by
  unfold Num.sgn; split <;> omega
theorem sgn_bd (off : Int) : 0 ≤ Num.sgn off ∧ Num.sgn off ≤ 1 := by unfold Num.sgn; split <;> omega
theorem or3 (x y z : Int) (h0 : 0 ≤ x) (h1 : x % 8192 = 0) (h2 : x < 2147483648) (h3 : 0 ≤ y) (h4 : y % 2048 = 0) (h5 : y < 8192) (h6 : 0 ≤ z) (h7 : z < 2048) : bits .or .u32 (bits .or .u32 x y) z = x + y + z := by
  rw [Num.u32_join 13 x y (by omega) (by simp only [Int.reducePow]; omega) (by omega) (by omega) (by simp only [Int.reducePow]; omega) (by omega), Num.u32_join 11 (x + y) z (by omega) (by simp only [Int.reducePow]; omega) (by omega) (by omega) (by simp only [Int.reducePow]; omega) (by omega)]
theorem put1 (off : Int) (hf : Num.fits 1 off = true) : wrap64 (bits .and .u32 (off / 2 % 4294967296) 255) = Num.putA 1 off := by
  rw [Num.u32_and255, IntWalk.wrap64_in _ (by omega)]; simp [Num.putA, hf]
theorem put2 (off : Int) (hf : Num.fits 2 off = true) : wrap64 (bits .and .u32 (off / 2 % 4294967296) 2047) = Num.putA 2 off := by
  rw [u32_and2047, IntWalk.wrap64_in _ (by omega)]; simp [Num.putA, hf]
theorem put3a (off : Int) (hf : Num.fits 3 off = true) (h2 : -1048576 ≤ off) (h3 : off ≤ 1048574) :
    wrap64 (bits .or .u32 (off / 2 % 4294967296 / 2147483648 * 1024) (Num.getW (off / 2 % 4294967296) 16 11)) = Num.putA 3 off := by
  have hs := sgn_bd off
  rw [sgn_bit off (by omega) (by omega), g16 _ (by omega), show off / 2 % 4294967296 / 2048 % 64 = off / 4096 % 64 by omega, Num.u32_join 10 _ _ (by omega) (by simp only [Int.reducePow]; omega) (by omega) (by omega) (by simp only [Int.reducePow]; omega) (by omega), IntWalk.wrap64_in _ (by omega)]
  simp [Num.putA, hf]
theorem put3b (off : Int) (hf : Num.fits 3 off = true) :
    wrap64 (bits .or .u32 (bits .or .u32 (Num.getW (off / 2 % 4294967296) 17 17 * 8192 % 4294967296) (Num.getW (off / 2 % 4294967296) 18 18 * 2048 % 4294967296)) (bits .and .u32 (off / 2 % 4294967296) 2047)) = Num.putB 3 off := by
  rw [g17 _ (by omega), g18 _ (by omega), u32_and2047, show off / 2 % 4294967296 / 131072 % 2 = off / 262144 % 2 by omega, show off / 2 % 4294967296 / 262144 % 2 = off / 524288 % 2 by omega, show off / 2 % 4294967296 % 2048 = off / 2 % 2048 by omega]
  rw [or3 _ _ _ (by omega) (by omega) (by omega) (by omega) (by omega) (by omega) (by omega) (by omega), IntWalk.wrap64_in _ (by omega)]
  simp [Num.putB, hf]; omega
theorem put4a (off : Int) (hf : Num.fits 4 off = true) (h2 : -16777216 ≤ off) (h3 : off ≤ 16777214) :
    wrap64 (bits .or .u32 (off / 2 % 4294967296 / 2147483648 * 1024) (Num.getW (off / 2 % 4294967296) 20 11)) = Num.putA 4 off := by
  have hs := sgn_bd off
  rw [sgn_bit off (by omega) (by omega), g20 _ (by omega), show off / 2 % 4294967296 / 2048 % 1024 = off / 4096 % 1024 by omega, Num.u32_join 10 _ _ (by omega) (by simp only [Int.reducePow]; omega) (by omega) (by omega) (by simp only [Int.reducePow]; omega) (by omega), IntWalk.wrap64_in _ (by omega)]
  simp [Num.putA, hf]
theorem put4b (off : Int) (hf : Num.fits 4 off = true) (h2 : -16777216 ≤ off) (h3 : off ≤ 16777214) :
    wrap64 (bits .or .u32 (bits .or .u32 (bits .xor .u32 (bits .xor .u32 (Num.getW (off / 2 % 4294967296) 22 22) (off / 2 % 4294967296 / 2147483648)) 1 * 8192 % 4294967296) (bits .xor .u32 (bits .xor .u32 (Num.getW (off / 2 % 4294967296) 21 21) (off / 2 % 4294967296 / 2147483648)) 1 * 2048 % 4294967296)) (bits .and .u32 (off / 2 % 4294967296) 2047)) = Num.putB 4 off := by
  have hs := sgn_bd off
  rw [g22 _ (by omega), g21 _ (by omega), u32_and2047, sgn_bit off (by omega) (by omega), show off / 2 % 4294967296 / 4194304 % 2 = off / 8388608 % 2 by omega, show off / 2 % 4294967296 / 2097152 % 2 = off / 4194304 % 2 by omega, show off / 2 % 4294967296 % 2048 = off / 2 % 2048 by omega]
  rw [xor_xor _ _ (by omega) (by omega) hs.1 hs.2, xor_xor _ _ (by omega) (by omega) hs.1 hs.2]
  have n1 := Num.nxor_bd (off / 8388608 % 2) (Num.sgn off)
  have n2 := Num.nxor_bd (off / 4194304 % 2) (Num.sgn off)
  rw [or3 _ _ _ (by omega) (by omega) (by omega) (by omega) (by omega) (by omega) (by omega) (by omega), IntWalk.wrap64_in _ (by omega)]
  simp [Num.putB, hf]; omega
theorem put5 (off : Int) (hf : Num.fits 5 off = true) (h2 : 0 ≤ off) (h3 : off ≤ 126) :
    wrap64 (bits .or .u32 (Num.getW (off / 2) 5 5 * 512 % 4294967296) (bits .and .u32 (off / 2) 31 * 8 % 4294967296)) = Num.putA 5 off := by
  rw [g5 _ (by omega), u32_and31, show off / 2 / 32 % 2 = off / 64 % 2 by omega]
  rw [Num.u32_join 9 _ _ (by omega) (by simp only [Int.reducePow]; omega) (by omega) (by omega) (by simp only [Int.reducePow]; omega) (by omega), IntWalk.wrap64_in _ (by omega)]
  simp [Num.putA, hf]; omega
def putV (k off : Int) : Value := .tuple #[.int .i64 (Num.putA k off), .int .i64 (Num.putB k off)]
set_option maxRecDepth 100000 in
set_option maxHeartbeats 800000 in
theorem offs_Put (k off : Int) (w : World) (hK : Kinds w) (hk : -9223372036854775808 ≤ k) (hk' : k ≤ 9223372036854775807) (ho : -9223372036854775808 ≤ off) (ho' : off ≤ 9223372036854775807) :
    Calls Tryd.prog 8 #[.int .i64 k, .int .i64 off] w fun e w' => e = .returned (putV k off) ∧ w = w' := by
  have HK := Lib.hid hK
  clear hK
  cases hf : Num.fits k off with
  | false =>
    have HV := Lib.hid (show putV k off = .tuple #[.int .i64 0, .int .i64 0] by unfold putV Num.putA Num.putB; simp [hf])
    go_enter Tryd.func8, Tryd.ntmps8
    go_wp2_with (go_at_call 10; refine (offs_Fits _ _ _ HK.out hk hk' ho ho').mono ?_; rintro e w' ⟨rfl, rfl⟩)
    go_ret2
    exact ⟨ret_of HV.out, rfl⟩
  | true =>
    rcases Num.fits_kind hf with ⟨rfl, h1, h2, h3⟩ | ⟨rfl, h1, h2, h3⟩ | ⟨rfl, h1, h2, h3⟩ | ⟨rfl, h1, h2, h3⟩ | ⟨rfl, h1, h2, h3⟩
    · have H1 := Lib.hid h1
      clear h1
      go_enter Tryd.func8, Tryd.ntmps8
      go_wp2_with (first | (go_at_call 10; refine (offs_Fits _ _ _ HK.out hk hk' ho ho').mono ?_; rintro e w' ⟨rfl, rfl⟩) | (go_at_call 15; refine (bits_Get _ _ _ _ (by omega) (by omega) (by omega) (by omega) (by omega) (by omega)).mono ?_; rintro e w' ⟨rfl, rfl⟩))
      go_ret2
      exact ⟨ret_pair (put1 off hf) (by simp [Num.putB, hf]), rfl⟩
    · have H1 := Lib.hid h1
      clear h1
      go_enter Tryd.func8, Tryd.ntmps8
      go_wp2_with (first | (go_at_call 10; refine (offs_Fits _ _ _ HK.out hk hk' ho ho').mono ?_; rintro e w' ⟨rfl, rfl⟩) | (go_at_call 15; refine (bits_Get _ _ _ _ (by omega) (by omega) (by omega) (by omega) (by omega) (by omega)).mono ?_; rintro e w' ⟨rfl, rfl⟩))
      go_ret2
      exact ⟨ret_pair (put2 off hf) (by simp [Num.putB, hf]), rfl⟩
    · have H1 := Lib.hid h1
      clear h1
      go_enter Tryd.func8, Tryd.ntmps8
      go_wp2_with (first | (go_at_call 10; refine (offs_Fits _ _ _ HK.out hk hk' ho ho').mono ?_; rintro e w' ⟨rfl, rfl⟩) | (go_at_call 15; refine (bits_Get _ _ _ _ (by omega) (by omega) (by omega) (by omega) (by omega) (by omega)).mono ?_; rintro e w' ⟨rfl, rfl⟩))
      go_ret2
      exact ⟨ret_pair (put3a off hf h2 h3) (put3b off hf), rfl⟩
    · have H1 := Lib.hid h1
      clear h1
      go_enter Tryd.func8, Tryd.ntmps8
      go_wp2_with (first | (go_at_call 10; refine (offs_Fits _ _ _ HK.out hk hk' ho ho').mono ?_; rintro e w' ⟨rfl, rfl⟩) | (go_at_call 15; refine (bits_Get _ _ _ _ (by omega) (by omega) (by omega) (by omega) (by omega) (by omega)).mono ?_; rintro e w' ⟨rfl, rfl⟩))
      go_ret2
      exact ⟨ret_pair (put4a off hf h2 h3) (put4b off hf h2 h3), rfl⟩
    · have H1 := Lib.hid h1
      clear h1
      go_enter Tryd.func8, Tryd.ntmps8
      go_wp2_with (first | (go_at_call 10; refine (offs_Fits _ _ _ HK.out hk hk' ho ho').mono ?_; rintro e w' ⟨rfl, rfl⟩) | (go_at_call 15; refine (bits_Get _ _ _ _ (by omega) (by omega) (by omega) (by omega) (by omega) (by omega)).mono ?_; rintro e w' ⟨rfl, rfl⟩))
      go_ret2
      exact ⟨ret_pair (put5 off hf h2 h3) (by simp [Num.putB, hf]), rfl⟩
end Go.Proofs.YtapenhbfpcmpnaaDoor
