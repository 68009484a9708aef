/- Contracts of package expand and of its reference: what each call returns; the world stays as it was. Conditions: the arguments fit their kinds. -/
import Derived.Test.YtolkpoohpimkhaaBitsWalks
import Derived.Test.YtolkpoohpimkhaaExpandPlain
import Derived.Outline
namespace Go.Proofs.Ytolkpoohpimkhaa
open Go.RowKit
set_option linter.unusedVariables false
theorem or128 (b : Int) (h0 : 0 ≤ b) (h1 : b < 256) : bits .or .u32 b 128 = b % 128 + 128 := by
  have h : ∀ b : Fin 256, bits .or .u32 (b.val : Int) 128 = (b.val : Int) % 128 + 128 := by decide +kernel
  have := h ⟨b.toNat, by omega⟩
  simp only at this
  rw [Int.toNat_of_nonneg h0] at this
  exact this
theorem ret_bool {a b : Bool} (h : a = b) : Ending.returned (.bool a) = .returned (.bool b) := by rw [h]
theorem exp0 {n : Int} (h : (n / 256 % 16 == 0) = true) : n % 256 = Num.expand n := by
  simp only [beq_iff_eq] at h; unfold Num.expand; rw [if_pos h]
theorem exp1 {n : Int} (h : (n / 256 % 16 == 1) = true) : n % 256 * 65537 = Num.expand n := by
  simp only [beq_iff_eq] at h; unfold Num.expand; rw [if_neg (by omega), if_pos h]
theorem exp2 {n : Int} (h : (n / 256 % 16 == 2) = true) : n % 256 * 16777472 = Num.expand n := by
  simp only [beq_iff_eq] at h; unfold Num.expand; rw [if_neg (by omega), if_neg (by omega), if_pos h]
theorem exp3 {n : Int} (h : (n / 256 % 16 == 3) = true) : n % 256 * 16843009 = Num.expand n := by
  simp only [beq_iff_eq] at h; unfold Num.expand; rw [if_neg (by omega), if_neg (by omega), if_neg (by omega), if_pos h]
theorem exp4 {n : Int} (h0 : (n / 256 % 16 == 0) = false) (h1 : (n / 256 % 16 == 1) = false) (h2 : (n / 256 % 16 == 2) = false) (h3 : (n / 256 % 16 == 3) = false) : Num.ror (n % 128 + 128) (n / 128 % 32) = Num.expand n := by
  simp only [beq_eq_false_iff_ne, ne_eq] at h0 h1 h2 h3; unfold Num.expand; rw [if_neg h0, if_neg h1, if_neg h2, if_neg h3]
set_option maxHeartbeats 400000 in
theorem expand_Expand (n : Int) (w : World) (hn : -9223372036854775808 ≤ n) (hn' : n ≤ 9223372036854775807) :
    Calls Try.prog 14 #[.int .i64 n] w fun e w' => e = .returned (.int .u32 (Num.expand n)) ∧ w = w' := by
  have h1 := Num.i64_and255 n
  have h2 := Num.i64_and15 (n / 256)
  have h3 := Num.i64_and31 (n / 128)
  have h4 : n % 256 % 4294967296 = n % 256 := by omega
  have h5 := or128 (n % 256) (by omega) (by omega)
  have h6 : n % 256 % 128 = n % 128 := by omega
  rw [h6] at h5
  clear h6
  go_enter Try.func14, Try.ntmps14
  go_wp2_with (go_at_call 28; refine (bits_Ror _ _ _ (by omega) (by omega)).mono ?_; rintro e w' ⟨rfl, rfl⟩)
  all_goals go_ret
  · exact ⟨ret_int (exp0 (by assumption)), rfl⟩
  · exact ⟨ret_int (exp1 (by assumption)), rfl⟩
  · exact ⟨ret_int (exp2 (by assumption)), rfl⟩
  · exact ⟨ret_int (exp3 (by assumption)), rfl⟩
  · exact ⟨ret_int (exp4 (by assumption) (by assumption) (by assumption) (by assumption)), rfl⟩
theorem beq_of {a b c : Int} {t : Bool} (h : (a == c) = t) (e : a = b) : (b == c) = t := by rw [← e]; exact h
theorem join16 (b : Int) (h0 : 0 ≤ b) (h1 : b < 256) : bits .or .u32 (b * 65536) b = b * 65537 := by
  rw [Num.u32_join 16 _ _ (by omega) (by simp only [Int.reducePow]; omega) (by omega) (by omega) (by simp only [Int.reducePow]; omega) (by omega)]; omega
theorem join24 (b : Int) (h0 : 0 ≤ b) (h1 : b < 256) : bits .or .u32 (b * 16777216) (b * 256) = b * 16777472 := by
  rw [Num.u32_join 16 _ _ (by omega) (by simp only [Int.reducePow]; omega) (by omega) (by omega) (by simp only [Int.reducePow]; omega) (by omega)]; omega
theorem join32 (b : Int) (h0 : 0 ≤ b) (h1 : b < 256) : bits .or .u32 (bits .or .u32 (bits .or .u32 (b * 16777216) (b * 65536)) (b * 256)) b = b * 16843009 := by
  rw [Num.u32_join 24 (b * 16777216) (b * 65536) (by omega) (by simp only [Int.reducePow]; omega) (by omega) (by omega) (by simp only [Int.reducePow]; omega) (by omega),
    Num.u32_join 16 _ (b * 256) (by omega) (by simp only [Int.reducePow]; omega) (by omega) (by omega) (by simp only [Int.reducePow]; omega) (by omega),
    Num.u32_join 8 _ b (by omega) (by simp only [Int.reducePow]; omega) (by omega) (by omega) (by simp only [Int.reducePow]; omega) (by omega)]; omega
set_option maxHeartbeats 400000 in
theorem ref_Expand (n : Int) (w : World) (hn : -9223372036854775808 ≤ n) (hn' : n ≤ 9223372036854775807) :
    Calls Try.prog 15 #[.int .i64 n] w fun e w' => e = .returned (.int .u32 (Num.expand n)) ∧ w = w' := by
  have HX := Lib.hid (show n % 4096 / 256 = n / 256 % 16 by omega)
  have HY := Lib.hid (show n % 4096 / 128 = n / 128 % 32 by omega)
  go_enter Try.func15, Try.ntmps15
  go_wp2_with (go_at_call 29; refine (ref_Ror _ _ _ (by omega) (by omega) (by omega) (by omega)).mono ?_; rintro e w' ⟨rfl, rfl⟩)
  all_goals go_ret
  · exact ⟨ret_int (by rw [show n % 4096 % 256 = n % 256 by omega]; exact exp0 (beq_of (by assumption) HX.out)), rfl⟩
  · exact ⟨ret_int (by rw [join16 _ (by omega) (by omega)]; exact exp1 (beq_of (by assumption) HX.out)), rfl⟩
  · exact ⟨ret_int (by rw [join24 _ (by omega) (by omega)]; exact exp2 (beq_of (by assumption) HX.out)), rfl⟩
  · exact ⟨ret_int (by rw [join32 _ (by omega) (by omega)]; exact exp3 (beq_of (by assumption) HX.out)), rfl⟩
  · exact ⟨ret_int (by rw [HY.out]; exact exp4 (beq_of (by assumption) HX.out) (beq_of (by assumption) HX.out) (beq_of (by assumption) HX.out) (beq_of (by assumption) HX.out)), rfl⟩
theorem expand_Valid (n : Int) (w : World) (hn : -9223372036854775808 ≤ n) (hn' : n ≤ 9223372036854775807) :
    Calls Try.prog 16 #[.int .i64 n] w fun e w' => e = .returned (.bool (Num.valid n)) ∧ w = w' := by
  have h1 := Num.i64_and255 n
  go_enter Try.func16, Try.ntmps16
  go_wp2
  all_goals go_ret
  all_goals refine ⟨ret_bool ?_, rfl⟩
  all_goals unfold Num.valid; rw [Bool.eq_iff_iff]; simp; omega
set_option maxHeartbeats 400000 in
theorem ref_Valid (n : Int) (w : World) (hn : -9223372036854775808 ≤ n) (hn' : n ≤ 9223372036854775807) :
    Calls Try.prog 17 #[.int .i64 n] w fun e w' => e = .returned (.bool (Num.valid n)) ∧ w = w' := by
  go_enter Try.func17, Try.ntmps17
  go_wp2
  all_goals go_ret
  all_goals refine ⟨ret_bool ?_, rfl⟩
  all_goals unfold Num.valid; rw [Bool.eq_iff_iff]; simp; omega
end Go.Proofs.Ytolkpoohpimkhaa
