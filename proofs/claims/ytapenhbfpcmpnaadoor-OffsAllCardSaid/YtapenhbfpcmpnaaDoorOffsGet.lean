/- Contracts of offs.Get and of the reference's Get. -/
import Derived.Test.YtapenhbfpcmpnaaDoorOffsRefPut
namespace Go.Proofs.YtapenhbfpcmpnaaDoor
open Go.RowKit
set_option linter.unusedVariables false
theorem u32_and63 (x : Int) : bits .and .u32 x 63 = x % 64 := Num.and_low .u32 6 (by decide) x
theorem u32_and1023 (x : Int) : bits .and .u32 x 1023 = x % 1024 := Num.and_low .u32 10 (by decide) x
theorem uJ (i : Nat) (P x y : Int) (hP : (2 : Int) ^ i = P) (hP2 : P ≤ 4294967296) (hx0 : 0 ≤ x) (hx : x % P = 0) (hx1 : x < 4294967296) (hy0 : 0 ≤ y) (hy : y < P) : bits .or .u32 x y = x + y :=
  Num.u32_join i x y hx0 (by rw [hP]; exact hx) hx1 hy0 (by rw [hP]; exact hy) (by omega)
theorem or5_3 (s p q r t : Int) (h0 : 0 ≤ s) (h1 : s ≤ 1) (h2 : 0 ≤ p) (h3 : p ≤ 1) (h4 : 0 ≤ q) (h5 : q ≤ 1) (h6 : 0 ≤ r) (h7 : r < 64) (h8 : 0 ≤ t) (h9 : t < 2048) :
    bits .or .u32 (bits .or .u32 (bits .or .u32 (bits .or .u32 (s * 524288) (p * 262144)) (q * 131072)) (r * 2048)) t = s * 524288 + p * 262144 + q * 131072 + r * 2048 + t := by
  rw [uJ 19 524288 (s * 524288) (p * 262144) rfl (by omega) (by omega) (by omega) (by omega) (by omega) (by omega), uJ 18 262144 (s * 524288 + p * 262144) (q * 131072) rfl (by omega) (by omega) (by omega) (by omega) (by omega) (by omega),
    uJ 17 131072 (s * 524288 + p * 262144 + q * 131072) (r * 2048) rfl (by omega) (by omega) (by omega) (by omega) (by omega) (by omega), uJ 11 2048 (s * 524288 + p * 262144 + q * 131072 + r * 2048) t rfl (by omega) (by omega) (by omega) (by omega) (by omega) (by omega)]
theorem or5_4 (s p q r t : Int) (h0 : 0 ≤ s) (h1 : s ≤ 1) (h2 : 0 ≤ p) (h3 : p ≤ 1) (h4 : 0 ≤ q) (h5 : q ≤ 1) (h6 : 0 ≤ r) (h7 : r < 1024) (h8 : 0 ≤ t) (h9 : t < 2048) :
    bits .or .u32 (bits .or .u32 (bits .or .u32 (bits .or .u32 (s * 8388608) (p * 4194304)) (q * 2097152)) (r * 2048)) t = s * 8388608 + p * 4194304 + q * 2097152 + r * 2048 + t := by
  rw [uJ 23 8388608 (s * 8388608) (p * 4194304) rfl (by omega) (by omega) (by omega) (by omega) (by omega) (by omega), uJ 22 4194304 (s * 8388608 + p * 4194304) (q * 2097152) rfl (by omega) (by omega) (by omega) (by omega) (by omega) (by omega),
    uJ 21 2097152 (s * 8388608 + p * 4194304 + q * 2097152) (r * 2048) rfl (by omega) (by omega) (by omega) (by omega) (by omega) (by omega), uJ 11 2048 (s * 8388608 + p * 4194304 + q * 2097152 + r * 2048) t rfl (by omega) (by omega) (by omega) (by omega) (by omega) (by omega)]
theorem get3_bd (a b : Int) : 0 ≤ Num.get3 a b ∧ Num.get3 a b < 1048576 := by unfold Num.get3; omega
theorem get4_bd (a b : Int) : 0 ≤ Num.get4 a b ∧ Num.get4 a b < 16777216 := by
  unfold Num.get4
  have n1 := Num.nxor_bd (b / 8192 % 2) (a / 1024 % 2)
  have n2 := Num.nxor_bd (b / 2048 % 2) (a / 1024 % 2)
  omega
theorem sign_bd (x n : Int) (h : 1 ≤ n) (h1 : n ≤ 32) : -2147483648 ≤ Num.sign x n ∧ Num.sign x n ≤ 2147483647 := by
  obtain ⟨k, rfl, hk⟩ : ∃ k : Nat, n = (k : Int) + 1 ∧ k < 32 := ⟨(n - 1).toNat, by omega, by omega⟩
  unfold Num.sign
  rw [if_pos ⟨h, h1⟩, show ((k : Int) + 1).toNat = k + 1 by omega]
  clear h h1
  refine Num.each32 (fun k => -2147483648 ≤ (x + 2 ^ (k + 1 - 1)) % 2 ^ (k + 1) - 2 ^ (k + 1 - 1) ∧ (x + 2 ^ (k + 1 - 1)) % 2 ^ (k + 1) - 2 ^ (k + 1 - 1) ≤ 2147483647) ?_ k hk
  simp only [Num.small, List.forall_mem_cons, Nat.reduceSub, Int.reducePow, Nat.reduceAdd]
  and_intros
  all_goals first | omega | (intro _ h; cases h)
theorem getO_3 (a b : Int) : Num.getO 3 a b = 2 * Num.sign (Num.get3 a b) 20 := rfl
theorem getO_4 (a b : Int) : Num.getO 4 a b = 2 * Num.sign (Num.get4 a b) 24 := rfl
theorem getO_none {k a b : Int} (h : k < 1 ∨ 5 < k) : Num.getO k a b = 0 := by
  unfold Num.getO; rw [if_neg (by omega), if_neg (by omega), if_neg (by omega), if_neg (by omega), if_neg (by omega)]
set_option maxRecDepth 100000 in
set_option maxHeartbeats 1000000 in
theorem offs_Get (k a b : Int) (w : World) (hK : Kinds w) (hk : -9223372036854775808 ≤ k) (hk' : k ≤ 9223372036854775807) :
    Calls Tryd.prog 13 #[.int .i64 k, .int .i64 a, .int .i64 b] w fun e w' => e = .returned (.int .i64 (Num.getO k a b)) ∧ w = w' := by
  obtain ⟨b1, s1, b2, s2, b3, s3, b4, s4, b5, s5⟩ := hK
  have a1 := Num.u32_and1 (a % 4294967296 / 1024)
  have a2 := u32_and2047 (b % 4294967296)
  have a3 := Num.u32_and1 (b % 4294967296 / 2048)
  have a4 := Num.u32_and1 (b % 4294967296 / 8192)
  have a5 := u32_and63 (a % 4294967296)
  have a6 := u32_and1023 (a % 4294967296)
  have a7 := Num.u32_and1 (a % 4294967296 / 512)
  have a8 := u32_and31 (a % 4294967296 / 8)
  by_cases hin : 1 ≤ k ∧ k ≤ 5
  · rcases kind_cases hin.1 hin.2 with rfl | rfl | rfl | rfl | rfl
    · have hs := sign_bd (a % 4294967296) 8 (by omega) (by omega)
      clear hin
      go_enter Tryd.func13, Tryd.ntmps13
      go_wp2_with (go_at_call 19; refine (bits_Sign _ _ _ (by omega) (by omega) (by omega) (by omega)).mono ?_; rintro e w' ⟨rfl, rfl⟩)
      go_ret
      exact ⟨rfl, rfl⟩
    · have hs := sign_bd (a % 4294967296) 11 (by omega) (by omega)
      clear hin
      go_enter Tryd.func13, Tryd.ntmps13
      go_wp2_with (go_at_call 19; refine (bits_Sign _ _ _ (by omega) (by omega) (by omega) (by omega)).mono ?_; rintro e w' ⟨rfl, rfl⟩)
      go_ret
      exact ⟨rfl, rfl⟩
    · have hs := sign_bd (Num.get3 a b) 20 (by omega) (by omega)
      have hg := get3_bd a b
      have he : bits .or .u32 (bits .or .u32 (bits .or .u32 (bits .or .u32 (a % 4294967296 / 1024 % 2 * 524288) (b % 4294967296 / 2048 % 2 * 262144)) (b % 4294967296 / 8192 % 2 * 131072)) (a % 64 * 2048)) (b % 2048) = Num.get3 a b := by
        rw [or5_3 _ _ _ _ _ (by omega) (by omega) (by omega) (by omega) (by omega) (by omega) (by omega) (by omega) (by omega) (by omega)]
        unfold Num.get3; omega
      clear hin
      go_enter Tryd.func13, Tryd.ntmps13
      go_wp2_with (go_at_call 19; refine (bits_Sign _ _ _ (by omega) (by omega) (by omega) (by omega)).mono ?_; rintro e w' ⟨rfl, rfl⟩)
      go_ret
      exact ⟨rfl, rfl⟩
    · have hs := sign_bd (Num.get4 a b) 24 (by omega) (by omega)
      have hg := get4_bd a b
      obtain ⟨J, hJ⟩ : ∃ J : Int, J = Num.nxor (b % 4294967296 / 8192 % 2) (a % 4294967296 / 1024 % 2) := ⟨_, rfl⟩
      obtain ⟨I, hI⟩ : ∃ I : Int, I = Num.nxor (b % 4294967296 / 2048 % 2) (a % 4294967296 / 1024 % 2) := ⟨_, rfl⟩
      have x1 := xor_xor (b % 4294967296 / 8192 % 2) (a % 4294967296 / 1024 % 2) (by omega) (by omega) (by omega) (by omega)
      have x2 := xor_xor (b % 4294967296 / 2048 % 2) (a % 4294967296 / 1024 % 2) (by omega) (by omega) (by omega) (by omega)
      have n1 := Num.nxor_bd (b % 4294967296 / 8192 % 2) (a % 4294967296 / 1024 % 2)
      have n2 := Num.nxor_bd (b % 4294967296 / 2048 % 2) (a % 4294967296 / 1024 % 2)
      rw [← hJ] at x1 n1
      rw [← hI] at x2 n2
      have he : bits .or .u32 (bits .or .u32 (bits .or .u32 (bits .or .u32 (a % 4294967296 / 1024 % 2 * 8388608) (J * 4194304)) (I * 2097152)) (a % 1024 * 2048)) (b % 2048) = Num.get4 a b := by
        rw [or5_4 _ _ _ _ _ (by omega) (by omega) (by omega) (by omega) (by omega) (by omega) (by omega) (by omega) (by omega) (by omega)]
        rw [hI, hJ, show b % 4294967296 / 8192 % 2 = b / 8192 % 2 by omega, show a % 4294967296 / 1024 % 2 = a / 1024 % 2 by omega, show b % 4294967296 / 2048 % 2 = b / 2048 % 2 by omega]
        rfl
      clear hin hI hJ
      go_enter Tryd.func13, Tryd.ntmps13
      go_wp2_with (go_at_call 19; refine (bits_Sign _ _ _ (by omega) (by omega) (by omega) (by omega)).mono ?_; rintro e w' ⟨rfl, rfl⟩)
      go_ret
      exact ⟨rfl, rfl⟩
    · clear hin
      have he : bits .or .u32 (a % 4294967296 / 512 % 2 * 64) (a % 4294967296 / 8 % 32 * 2) = a % 4294967296 / 512 % 2 * 64 + a % 4294967296 / 8 % 32 * 2 := uJ 6 64 _ _ rfl (by omega) (by omega) (by omega) (by omega) (by omega) (by omega)
      go_enter Tryd.func13, Tryd.ntmps13
      go_wp2
      go_ret
      refine ⟨ret_int ?_, rfl⟩
      unfold Num.getO
      simp
      omega
  · have HG := Lib.hid (getO_none (a := a) (b := b) (show k < 1 ∨ 5 < k by omega))
    have q1 : (k == 1) = false := beq_of_ne (by omega)
    have q2 : (k == 2) = false := beq_of_ne (by omega)
    have q3 : (k == 3) = false := beq_of_ne (by omega)
    have q4 : (k == 4) = false := beq_of_ne (by omega)
    have q5 : (k == 5) = false := beq_of_ne (by omega)
    clear hin
    go_enter Tryd.func13, Tryd.ntmps13
    go_wp2
    go_ret
    exact ⟨ret_int HG.out.symm, rfl⟩
end Go.Proofs.YtapenhbfpcmpnaaDoor
