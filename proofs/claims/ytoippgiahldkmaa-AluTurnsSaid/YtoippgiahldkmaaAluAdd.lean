/- Contracts of alu.Add and of its reference: the sum, its carry, whether it is beyond; the world stays as it was. -/
import Derived.Test.YtoippgiahldkmaaProg
import Derived.Test.YtoippgiahldkmaaFloat
import Derived.Test.YtoippgiahldkmaaBase
import Derived.Outline
namespace Go.Proofs.Ytoippgiahldkmaa
open Go.RowKit
set_option linter.unusedVariables false
def i32 (a : Int) : Int := if a < 2147483648 then a else a - 4294967296
def cin (c : Bool) : Int := if c then 1 else 0
/-- The sum's word, its carry, whether it is beyond. -/
def addW (a b : Int) (c : Bool) : Int := (a + b + cin c) % 4294967296
def addC (a b : Int) (c : Bool) : Bool := decide (4294967296 ≤ a + b + cin c)
def addV (a b : Int) (c : Bool) : Bool := decide (i32 a + i32 b + cin c ≠ i32 (addW a b c))
theorem fl_of (a : Int) : floatOfInt .f64 a = Fl.fl a := rfl
theorem i32_bd (a : Int) (h0 : 0 ≤ a) (h1 : a < 4294967296) : -2147483648 ≤ i32 a ∧ i32 a ≤ 2147483647 := by unfold i32; split <;> omega
theorem wrap_i32 (a : Int) (h0 : 0 ≤ a) (h1 : a < 4294967296) : wrap32 a = i32 a := by unfold i32 wrap32; split <;> omega
theorem add_run (t : TypeId) (a b : Int) (ha : -1125899906842624 ≤ a) (ha' : a ≤ 1125899906842624) (hb : -1125899906842624 ≤ b) (hb' : b ≤ 1125899906842624) (w : World) :
    (binOp .add t (.float .f64 (Fl.fl a)) (.float .f64 (Fl.fl b))).run Try.prog w = .ok (.float .f64 (Fl.fl (a + b))) w :=
  run_float_arith w .add t .f64 _ _ _ (Fl.add_fl a b (by omega) (by omega) (by omega))
theorem cadd_run (t : TypeId) (a b : Int) (ha : -1125899906842624 ≤ a) (ha' : a ≤ 1125899906842624) (hb : -1125899906842624 ≤ b) (hb' : b ≤ 1125899906842624) (w : World) :
    (binOp .add t (.complex .f64 (Fl.fl a) (Fl.fl b)) (.complex .f64 4607182418800017408 4607182418800017408)).run Try.prog w = .ok (.complex .f64 (Fl.fl (a + 1)) (Fl.fl (b + 1))) w := by
  refine run_complex_sum w .add (.inl rfl) t .f64 _ _ _ _ _ _ ?_
  unfold cSumBits
  have e1 : floatBits .add .f64 (Fl.fl a) 4607182418800017408 = some (Fl.fl (a + 1)) := by rw [← Fl.lit_one]; exact Fl.add_fl a 1 (by omega) (by omega) (by omega)
  have e2 : floatBits .add .f64 (Fl.fl b) 4607182418800017408 = some (Fl.fl (b + 1)) := by rw [← Fl.lit_one]; exact Fl.add_fl b 1 (by omega) (by omega) (by omega)
  rw [e1, e2]; rfl
theorem geq_fl (n : Int) (h0 : -1125899906842624 ≤ n) (h1 : n ≤ 1125899906842624) : (FloatKind.f64.format.order (Fl.fl n) 4751297606875873280 == some .gt || FloatKind.f64.format.order (Fl.fl n) 4751297606875873280 == some .eq) = decide (4294967296 ≤ n) := by
  have e : FloatKind.f64.format.order (Fl.fl n) 4751297606875873280 = some (compare n 4294967296) := by rw [← Fl.lit_32]; exact Fl.order_fl n 4294967296 (by omega) (by omega)
  rw [e]
  simp only [compare, compareOfLessAndEq]
  by_cases c1 : n < 4294967296
  · rw [if_pos c1, decide_eq_false (by omega)]; rfl
  · rw [if_neg c1]
    by_cases c2 : n = 4294967296
    · rw [if_pos c2, decide_eq_true (by omega)]; rfl
    · rw [if_neg c2, decide_eq_true (by omega)]; rfl
theorem neq_fl (n m : Int) (h0 : -1125899906842624 ≤ n) (h1 : n ≤ 1125899906842624) (h2 : -1125899906842624 ≤ m) (h3 : m ≤ 1125899906842624) : (FloatKind.f64.format.order (Fl.fl n) (Fl.fl m) != some .eq) = decide (n ≠ m) := by
  have e : FloatKind.f64.format.order (Fl.fl n) (Fl.fl m) = some (compare n m) := Fl.order_fl n m (by omega) (by omega)
  rw [e]
  simp only [compare, compareOfLessAndEq]
  by_cases c1 : n < m
  · rw [if_pos c1, decide_eq_true (by omega)]; rfl
  · rw [if_neg c1]
    by_cases c2 : n = m
    · rw [if_pos c2, decide_eq_false (by omega)]; rfl
    · rw [if_neg c2, decide_eq_true (by omega)]; rfl
theorem ret_add {a a' : Int} {b b' c c' : Bool} (h : a = a') (h1 : b = b') (h2 : c = c') : Ending.returned (.tuple #[.int .u32 a, .bool b, .bool c]) = .returned (.tuple #[.int .u32 a', .bool b', .bool c']) := by rw [h, h1, h2]
set_option maxRecDepth 100000 in
set_option maxHeartbeats 400000 in
theorem alu_Add (a b : Int) (c : Bool) (w : World) (h0 : 0 ≤ a) (h1 : a < 4294967296) (h2 : 0 ≤ b) (h3 : b < 4294967296) :
    Calls Try.prog 13 #[.int .u32 a, .int .u32 b, .bool c] w fun e w' => e = .returned (.tuple #[.int .u32 (addW a b c), .bool (addC a b c), .bool (addV a b c)]) ∧ w = w' := by
  have k1 := fl_of a
  have k2 := fl_of b
  have k3 := fl_of (i32 a)
  have k4 := fl_of (i32 b)
  have b1 := i32_bd a h0 h1
  have b2 := i32_bd b h2 h3
  have w1 := wrap_i32 a h0 h1
  have w2 := wrap_i32 b h2 h3
  have r1 := fun t w => add_run t a b (by omega) (by omega) (by omega) (by omega) w
  have r2 := fun t w => add_run t (i32 a) (i32 b) (by omega) (by omega) (by omega) (by omega) w
  cases c
  · have w3 := wrap_i32 ((a + b) % 4294967296) (by omega) (by omega)
    have k5 := fl_of (i32 ((a + b) % 4294967296))
    have b3 := i32_bd ((a + b) % 4294967296) (by omega) (by omega)
    have q1 := geq_fl (a + b) (by omega) (by omega)
    have q2 := neq_fl (i32 a + i32 b) (i32 ((a + b) % 4294967296)) (by omega) (by omega) (by omega) (by omega)
    go_enter Try.func13, Try.ntmps13
    go_wp2
    go_ret3
    exact ⟨ret_add (by simp [addW, cin]) (by simp [addC, cin]) (by simp [addV, addW, cin]), rfl⟩
  · have w3 := wrap_i32 ((a + b + 1) % 4294967296) (by omega) (by omega)
    have k5 := fl_of (i32 ((a + b + 1) % 4294967296))
    have b3 := i32_bd ((a + b + 1) % 4294967296) (by omega) (by omega)
    have q1 := geq_fl (a + b + 1) (by omega) (by omega)
    have q2 := neq_fl (i32 a + i32 b + 1) (i32 ((a + b + 1) % 4294967296)) (by omega) (by omega) (by omega) (by omega)
    have r3 := fun t w => cadd_run t (a + b) (i32 a + i32 b) (by omega) (by omega) (by omega) (by omega) w
    go_enter Try.func13, Try.ntmps13
    go_wp2
    go_ret3
    exact ⟨ret_add (by simp [addW, cin]) (by simp [addC, cin]) (by simp [addV, addW, cin]), rfl⟩
theorem addV_bits (a b : Int) (c : Bool) (h0 : 0 ≤ a) (h1 : a < 4294967296) (h2 : 0 ≤ b) (h3 : b < 4294967296) :
    addV a b c = ((a / 2147483648 == b / 2147483648) && (addW a b c / 2147483648 != a / 2147483648)) := by
  have hc : 0 ≤ cin c ∧ cin c ≤ 1 := by unfold cin; split <;> omega
  unfold addV addW i32
  rw [Bool.eq_iff_iff]
  simp only [decide_eq_true_eq, Bool.and_eq_true, beq_iff_eq, bne_iff_ne, ne_eq]
  generalize cin c = t at *
  split <;> split <;> split <;> omega
set_option maxRecDepth 100000 in
set_option maxHeartbeats 400000 in
theorem ref_Add (a b : Int) (c : Bool) (w : World) (h0 : 0 ≤ a) (h1 : a < 4294967296) (h2 : 0 ≤ b) (h3 : b < 4294967296) :
    Calls Try.prog 14 #[.int .u32 a, .int .u32 b, .bool c] w fun e w' => e = .returned (.tuple #[.int .u32 (addW a b c), .bool (addC a b c), .bool (addV a b c)]) ∧ w = w' := by
  have HV := Lib.hid (addV_bits a b c h0 h1 h2 h3)
  cases c
  · have HC := Lib.hid (show addC a b false = decide (4294967295 < a + b) by unfold addC cin; rw [Bool.eq_iff_iff]; simp; omega)
    have HW := Lib.hid (show addW a b false = (a + b) % 4294967296 by simp [addW, cin])
    cases q1 : (a / 2147483648 == b / 2147483648)
    all_goals
      go_enter Try.func14, Try.ntmps14
      go_wp2
      go_ret3
      exact ⟨ret_add HW.out.symm HC.out.symm (by rw [HV.out, q1, HW.out]; rfl), rfl⟩
  · have HC := Lib.hid (show addC a b true = decide (4294967295 < a + b + 1) by unfold addC cin; rw [Bool.eq_iff_iff]; simp; omega)
    have HW := Lib.hid (show addW a b true = (a + b + 1) % 4294967296 by simp [addW, cin])
    cases q1 : (a / 2147483648 == b / 2147483648)
    all_goals
      go_enter Try.func14, Try.ntmps14
      go_wp2
      go_ret3
      exact ⟨ret_add HW.out.symm HC.out.symm (by rw [HV.out, q1, HW.out]; rfl), rfl⟩
end Go.Proofs.Ytoippgiahldkmaa
