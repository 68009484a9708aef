/- Contracts of alu.Divide and of its reference: the quotient; the world stays as it was. -/
import Derived.Test.YtoippgiahldkmaaAluAdd
import Derived.Test.YtoippgiahldkmaaAluShift2
namespace Go.Proofs.Ytoippgiahldkmaa
open Go.RowKit
set_option linter.unusedVariables false
def divW (a b : Int) (sg : Bool) : Int := if b = 0 then 0 else if sg then (Num.s32 a).tdiv (Num.s32 b) % 4294967296 else a / b
theorem tdiv_bd (x y : Int) (h0 : -2147483648 ≤ x) (h1 : x ≤ 2147483647) (hy : y ≠ 0) (hy1 : y ≠ -1) : -2147483648 ≤ x.tdiv y ∧ x.tdiv y ≤ 2147483647 := by
  by_cases h : y = 1
  · subst h; rw [Int.tdiv_one]; omega
  · have e : (x.tdiv y).natAbs = x.natAbs / y.natAbs := Int.natAbs_tdiv _ _
    have h2 : x.natAbs / y.natAbs ≤ x.natAbs / 2 := Nat.div_le_div_left (by omega) (by decide)
    omega
theorem s32_ne (b : Int) (h0 : 0 ≤ b) (h1 : b < 4294967296) : (Num.s32 b = 0 ↔ b = 0) ∧ (Num.s32 b = -1 ↔ b = 4294967295) := by unfold Num.s32; split <;> omega
theorem div_neg (a : Int) (h0 : 0 ≤ a) (h1 : a < 4294967296) : (Num.s32 a).tdiv (-1) % 4294967296 = (-a) % 4294967296 := by
  rw [Int.tdiv_neg, Int.tdiv_one]; unfold Num.s32; split <;> omega
set_option maxRecDepth 100000 in
set_option maxHeartbeats 400000 in
theorem alu_Divide (a b : Int) (sg : Bool) (w : World) (h0 : 0 ≤ a) (h1 : a < 4294967296) (h2 : 0 ≤ b) (h3 : b < 4294967296) :
    Calls Try.prog 20 #[.int .u32 a, .int .u32 b, .bool sg] w fun e w' => e = .returned (.int .u32 (divW a b sg)) ∧ w = w' := by
  cases q0 : (b == 0) with
  | true =>
    have e : b = 0 := by simpa using q0
    subst e
    go_enter Try.func20, Try.ntmps20
    go_wp2
    go_ret
    exact ⟨rfl, rfl⟩
  | false =>
    have hb : b ≠ 0 := by simpa using q0
    have hb1 : 1 ≤ b := by omega
    cases sg with
    | false =>
      have HD := Lib.hid (show divW a b false = a / b by unfold divW; rw [if_neg hb]; rfl)
      clear hb
      go_enter Try.func20, Try.ntmps20
      go_wp2
      go_ret
      exact ⟨ret_int HD.out.symm, rfl⟩
    | true =>
      have HD := Lib.hid (show divW a b true = (Num.s32 a).tdiv (Num.s32 b) % 4294967296 by unfold divW; rw [if_neg hb]; rfl)
      cases q1 : (b == 4294967295) with
      | true =>
        have e : b = 4294967295 := by simpa using q1
        subst e
        have HN := Lib.hid (div_neg a h0 h1)
        go_enter Try.func20, Try.ntmps20
        go_wp2
        go_ret
        exact ⟨ret_int (by rw [HD.out, show Num.s32 4294967295 = -1 from rfl, HN.out]), rfl⟩
      | false =>
        have hne : b ≠ 4294967295 := by simpa using q1
        have hs := Num.s32_bd a h0 h1
        have ht := s32_ne b h2 h3
        have hs0 : Num.s32 b ≠ 0 := fun h => hb (ht.1.1 h)
        have hs1 : Num.s32 b ≠ -1 := fun h => hne (ht.2.1 h)
        have htd := tdiv_bd (Num.s32 a) (Num.s32 b) hs.1 hs.2 hs0 hs1
        have w1 := wrap_s32 a h0 h1
        have w2 := wrap_s32 b h2 h3
        have q2 : (Num.s32 b == 0) = false := by simpa using hs0
        clear hb hne ht hs1
        go_enter Try.func20, Try.ntmps20
        go_wp2
        go_ret
        refine ⟨ret_int ?_, rfl⟩
        rw [HD.out]
set_option maxRecDepth 100000 in
set_option maxHeartbeats 400000 in
theorem ref_Divide (a b : Int) (sg : Bool) (w : World) (h0 : 0 ≤ a) (h1 : a < 4294967296) (h2 : 0 ≤ b) (h3 : b < 4294967296) :
    Calls Try.prog 21 #[.int .u32 a, .int .u32 b, .bool sg] w fun e w' => e = .returned (.int .u32 (divW a b sg)) ∧ w = w' := by
  cases q0 : (b == 0) with
  | true =>
    have e : b = 0 := by simpa using q0
    subst e
    go_enter Try.func21, Try.ntmps21
    go_wp2
    go_ret
    exact ⟨rfl, rfl⟩
  | false =>
    have hb : b ≠ 0 := by simpa using q0
    have hb1 : 1 ≤ b := by omega
    cases sg with
    | false =>
      have HD := Lib.hid (show divW a b false = a / b by unfold divW; rw [if_neg hb]; rfl)
      clear hb
      go_enter Try.func21, Try.ntmps21
      go_wp2
      go_ret
      exact ⟨ret_int HD.out.symm, rfl⟩
    | true =>
      have HD := Lib.hid (show divW a b true = (Num.s32 a).tdiv (Num.s32 b) % 4294967296 by unfold divW; rw [if_neg hb]; rfl)
      have hs := Num.s32_bd a h0 h1
      have hs2 := Num.s32_bd b h2 h3
      have ht := s32_ne b h2 h3
      have hs0 : Num.s32 b ≠ 0 := fun h => hb (ht.1.1 h)
      have htd : -4294967296 ≤ (Num.s32 a).tdiv (Num.s32 b) ∧ (Num.s32 a).tdiv (Num.s32 b) ≤ 4294967296 := by
        have e : ((Num.s32 a).tdiv (Num.s32 b)).natAbs = (Num.s32 a).natAbs / (Num.s32 b).natAbs := Int.natAbs_tdiv _ _
        have h2 : (Num.s32 a).natAbs / (Num.s32 b).natAbs ≤ (Num.s32 a).natAbs := Nat.div_le_self _ _
        omega
      have w1 := wrap_s32 a h0 h1
      have w2 := wrap_s32 b h2 h3
      have q2 : (Num.s32 b == 0) = false := by simpa using hs0
      clear hb ht
      go_enter Try.func21, Try.ntmps21
      go_wp2
      go_ret
      refine ⟨ret_int ?_, rfl⟩
      rw [HD.out]
end Go.Proofs.Ytoippgiahldkmaa
