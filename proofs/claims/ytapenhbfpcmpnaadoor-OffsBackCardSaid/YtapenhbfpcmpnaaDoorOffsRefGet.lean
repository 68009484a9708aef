/- The contract of the reference's Get. -/
import Derived.Test.YtapenhbfpcmpnaaDoorOffsGet
namespace Go.Proofs.YtapenhbfpcmpnaaDoor
open Go.RowKit
set_option linter.unusedVariables false
theorem g10 (x : Int) (h0 : 0 ≤ x) : Num.getW x 10 10 = x / 1024 % 2 := getW_eq x 10 10 h0 (by decide) (by decide)
theorem g11 (x : Int) (h0 : 0 ≤ x) : Num.getW x 11 11 = x / 2048 % 2 := getW_eq x 11 11 h0 (by decide) (by decide)
theorem g13 (x : Int) (h0 : 0 ≤ x) : Num.getW x 13 13 = x / 8192 % 2 := getW_eq x 13 13 h0 (by decide) (by decide)
theorem g50 (x : Int) (h0 : 0 ≤ x) : Num.getW x 5 0 = x % 64 := by
  have := getW_eq x 5 0 h0 (by decide) (by decide); simpa using this
theorem g90 (x : Int) (h0 : 0 ≤ x) : Num.getW x 9 0 = x % 1024 := by
  have := getW_eq x 9 0 h0 (by decide) (by decide); simpa using this
theorem g100 (x : Int) (h0 : 0 ≤ x) : Num.getW x 10 0 = x % 2048 := by
  have := getW_eq x 10 0 h0 (by decide) (by decide); simpa using this
theorem g99 (x : Int) (h0 : 0 ≤ x) : Num.getW x 9 9 = x / 512 % 2 := getW_eq x 9 9 h0 (by decide) (by decide)
theorem g73 (x : Int) (h0 : 0 ≤ x) : Num.getW x 7 3 = x / 8 % 32 := getW_eq x 7 3 h0 (by decide) (by decide)
theorem xor_u32 (a b : Int) (h0 : 0 ≤ a) (h1 : a ≤ 1) (h2 : 0 ≤ b) (h3 : b ≤ 1) : bits .xor .u32 a b = 1 - Num.nxor a b := by
  have ha : a = 0 ∨ a = 1 := by omega
  have hb : b = 0 ∨ b = 1 := by omega
  rcases ha with rfl | rfl <;> rcases hb with rfl | rfl <;> decide +kernel
set_option maxRecDepth 100000 in
set_option maxHeartbeats 1000000 in
theorem ref_GetO (k a b : Int) (w : World) (hk : -9223372036854775808 ≤ k) (hk' : k ≤ 9223372036854775807) :
    Calls Tryd.prog 14 #[.int .i64 k, .int .i64 a, .int .i64 b] w fun e w' => e = .returned (.int .i64 (Num.getO k a b)) ∧ w = w' := by
  have a1 := g10 (a % 4294967296) (by omega)
  have a2 := g100 (b % 4294967296) (by omega)
  have a3 := g11 (b % 4294967296) (by omega)
  have a4 := g13 (b % 4294967296) (by omega)
  have a5 := g50 (a % 4294967296) (by omega)
  have a6 := g90 (a % 4294967296) (by omega)
  have a7 := g99 (a % 4294967296) (by omega)
  have a8 := g73 (a % 4294967296) (by omega)
  by_cases hin : 1 ≤ k ∧ k ≤ 5
  · rcases kind_cases hin.1 hin.2 with rfl | rfl | rfl | rfl | rfl
    · have hs := sign_bd (a % 4294967296) 8 (by omega) (by omega)
      clear hin
      go_enter Tryd.func14, Tryd.ntmps14
      go_wp2_with (first | (go_at_call 21; refine (ref_Sign _ _ _ (by omega) (by omega) (by omega) (by omega)).mono ?_; rintro e w' ⟨rfl, rfl⟩) | (go_at_call 20; refine (ref_Get _ _ _ _ (by omega) (by omega) (by omega) (by omega) (by omega) (by omega)).mono ?_; rintro e w' ⟨rfl, rfl⟩))
      go_ret
      exact ⟨rfl, rfl⟩
    · have hs := sign_bd (a % 4294967296) 11 (by omega) (by omega)
      clear hin
      go_enter Tryd.func14, Tryd.ntmps14
      go_wp2_with (first | (go_at_call 21; refine (ref_Sign _ _ _ (by omega) (by omega) (by omega) (by omega)).mono ?_; rintro e w' ⟨rfl, rfl⟩) | (go_at_call 20; refine (ref_Get _ _ _ _ (by omega) (by omega) (by omega) (by omega) (by omega) (by omega)).mono ?_; rintro e w' ⟨rfl, rfl⟩))
      go_ret
      exact ⟨rfl, rfl⟩
    · have hs := sign_bd (Num.get3 a b) 20 (by omega) (by omega)
      have hg := get3_bd a b
      have he : bits .or .u32 (bits .or .u32 (bits .or .u32 (bits .or .u32 (a % 4294967296 / 1024 % 2 * 524288) (b % 4294967296 / 2048 % 2 * 262144)) (b % 4294967296 / 8192 % 2 * 131072)) (a % 64 * 2048)) (b % 2048) = Num.get3 a b := by
        rw [or5_3 _ _ _ _ _ (by omega) (by omega) (by omega) (by omega) (by omega) (by omega) (by omega) (by omega) (by omega) (by omega)]
        unfold Num.get3; omega
      clear hin
      go_enter Tryd.func14, Tryd.ntmps14
      go_wp2_with (first | (go_at_call 21; refine (ref_Sign _ _ _ (by omega) (by omega) (by omega) (by omega)).mono ?_; rintro e w' ⟨rfl, rfl⟩) | (go_at_call 20; refine (ref_Get _ _ _ _ (by omega) (by omega) (by omega) (by omega) (by omega) (by omega)).mono ?_; rintro e w' ⟨rfl, rfl⟩))
      go_ret
      exact ⟨rfl, rfl⟩
    · have hs := sign_bd (Num.get4 a b) 24 (by omega) (by omega)
      have hg := get4_bd a b
      obtain ⟨J, hJ⟩ : ∃ J : Int, J = Num.nxor (b % 4294967296 / 8192 % 2) (a % 4294967296 / 1024 % 2) := ⟨_, rfl⟩
      obtain ⟨I, hI⟩ : ∃ I : Int, I = Num.nxor (b % 4294967296 / 2048 % 2) (a % 4294967296 / 1024 % 2) := ⟨_, rfl⟩
      have x1 := xor_u32 (b % 4294967296 / 8192 % 2) (a % 4294967296 / 1024 % 2) (by omega) (by omega) (by omega) (by omega)
      have x2 := xor_u32 (b % 4294967296 / 2048 % 2) (a % 4294967296 / 1024 % 2) (by omega) (by omega) (by omega) (by omega)
      have n1 := Num.nxor_bd (b % 4294967296 / 8192 % 2) (a % 4294967296 / 1024 % 2)
      have n2 := Num.nxor_bd (b % 4294967296 / 2048 % 2) (a % 4294967296 / 1024 % 2)
      rw [← hJ] at x1 n1
      rw [← hI] at x2 n2
      have he : bits .or .u32 (bits .or .u32 (bits .or .u32 (bits .or .u32 (a % 4294967296 / 1024 % 2 * 8388608) (J * 4194304)) (I * 2097152)) (a % 1024 * 2048)) (b % 2048) = Num.get4 a b := by
        rw [or5_4 _ _ _ _ _ (by omega) (by omega) (by omega) (by omega) (by omega) (by omega) (by omega) (by omega) (by omega) (by omega)]
        rw [hI, hJ, show b % 4294967296 / 8192 % 2 = b / 8192 % 2 by omega, show a % 4294967296 / 1024 % 2 = a / 1024 % 2 by omega, show b % 4294967296 / 2048 % 2 = b / 2048 % 2 by omega]
        rfl
      have hj1 : (1 : Int) - (1 - J) = J := by omega
      have hi1 : (1 : Int) - (1 - I) = I := by omega
      clear hin hI hJ
      go_enter Tryd.func14, Tryd.ntmps14
      go_wp2_with (first | (go_at_call 21; refine (ref_Sign _ _ _ (by omega) (by omega) (by omega) (by omega)).mono ?_; rintro e w' ⟨rfl, rfl⟩) | (go_at_call 20; refine (ref_Get _ _ _ _ (by omega) (by omega) (by omega) (by omega) (by omega) (by omega)).mono ?_; rintro e w' ⟨rfl, rfl⟩))
      go_ret
      exact ⟨rfl, rfl⟩
    · clear hin
      have he : bits .or .u32 (a % 4294967296 / 512 % 2 * 32) (a % 4294967296 / 8 % 32) = a % 4294967296 / 512 % 2 * 32 + a % 4294967296 / 8 % 32 := uJ 5 32 _ _ rfl (by omega) (by omega) (by omega) (by omega) (by omega) (by omega)
      go_enter Tryd.func14, Tryd.ntmps14
      go_wp2_with (first | (go_at_call 21; refine (ref_Sign _ _ _ (by omega) (by omega) (by omega) (by omega)).mono ?_; rintro e w' ⟨rfl, rfl⟩) | (go_at_call 20; refine (ref_Get _ _ _ _ (by omega) (by omega) (by omega) (by omega) (by omega) (by omega)).mono ?_; rintro e w' ⟨rfl, rfl⟩))
      go_ret
      refine ⟨ret_int ?_, rfl⟩
      unfold Num.getO
      simp
      omega
  · have HG := Lib.hid (getO_none (a := a) (b := b) (show k < 1 ∨ 5 < k by omega))
    have q1 : (k == 1) = false := beq_of_ne (by omega)
    have q2 : (k == 2) = false := beq_of_ne (by omega)
    have q3 : (k == 3) = false := beq_of_ne (by omega)
    have q4 : (k == 4) = false := beq_of_ne (by omega)
    have q5 : (k == 5) = false := beq_of_ne (by omega)
    clear hin
    go_enter Tryd.func14, Tryd.ntmps14
    go_wp2_with (first | (go_at_call 21; refine (ref_Sign _ _ _ (by omega) (by omega) (by omega) (by omega)).mono ?_; rintro e w' ⟨rfl, rfl⟩) | (go_at_call 20; refine (ref_Get _ _ _ _ (by omega) (by omega) (by omega) (by omega) (by omega) (by omega)).mono ?_; rintro e w' ⟨rfl, rfl⟩))
    go_ret
    exact ⟨ret_int HG.out.symm, rfl⟩
end Go.Proofs.YtapenhbfpcmpnaaDoor
