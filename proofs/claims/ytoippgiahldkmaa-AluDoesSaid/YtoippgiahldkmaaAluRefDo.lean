/- Contracts of the reference's Logic, sum and Do: results and flags; the world keeps all that was there. -/
import Derived.Test.YtoippgiahldkmaaAluDo2
namespace Go.Proofs.Ytoippgiahldkmaa
open Go.RowKit Mem
set_option linter.unusedVariables false
set_option maxRecDepth 100000 in
set_option maxHeartbeats 400000 in
theorem ref_Logic (r : Int) (n z c v : Bool) (w : World) :
    Calls Try.prog 39 #[.int .u32 r, .agg #[.bool n, .bool z, .bool c, .bool v]] w fun e w' => e = .returned (.agg #[.bool (r / 2147483648 == 1), .bool (r == 0), .bool c, .bool v]) ∧ (w.alloc (.cells #[.bool (r / 2147483648 == 1), .bool (r == 0), .bool c, .bool v] 32)).alloc (.cells #[.bool (r / 2147483648 == 1), .bool (r == 0), .bool c, .bool v] 32) = w' := by
  go_enter Try.func39, Try.ntmps39
  go_wp2
  exact bodyPost_ret (v := .agg #[.bool (r / 2147483648 == 1), .bool (r == 0), .bool c, .bool v]) (by simp [results, Try.results39, go_sem]) rfl ⟨rfl, rfl⟩
set_option maxRecDepth 100000 in
set_option maxHeartbeats 400000 in
theorem ref_sum (a b r : Int) (ci n z c v C V : Bool) (w : World) (h0 : 0 ≤ a) (h1 : a < 4294967296) (h2 : 0 ≤ b) (h3 : b < 4294967296) (hr : r = addW a b ci) (hC : C = addC a b ci) (hV : V = addV a b ci) :
    Calls Try.prog 38 #[.int .u32 a, .int .u32 b, .bool ci, .agg #[.bool n, .bool z, .bool c, .bool v]] w fun e w' => e = .returned (.tuple #[.int .u32 r, .agg #[.bool (r / 2147483648 == 1), .bool (r == 0), .bool C, .bool V]]) ∧
      ((((w.alloc (.cells #[.bool (r / 2147483648 == 1), .bool (r == 0), .bool C, .bool V] 32)).alloc (.cells #[.bool (r / 2147483648 == 1), .bool (r == 0), .bool C, .bool V] 32)).alloc (.cells #[.bool (r / 2147483648 == 1), .bool (r == 0), .bool c, .bool v] 32)).alloc (.cells #[.bool (r / 2147483648 == 1), .bool (r == 0), .bool c, .bool v] 32)).drew = w' := by
  have HR := Lib.hid hr; have HC := Lib.hid hC; have HVV := Lib.hid hV
  clear hr hC hV
  go_enter Try.func38, Try.ntmps38
  go_wp2_with fail
  refine (ref_Add _ _ _ _ (by omega) (by omega) (by omega) (by omega)).mono ?_
  rintro e w' ⟨rfl, rfl⟩
  rw [← HR.out, ← HC.out, ← HVV.out]
  go_wp2_with fail
  refine (ref_Logic _ n z c v _).mono ?_
  rintro e w1 ⟨rfl, rfl⟩
  clear HR HC HVV
  go_wp2_with fail
  go_region
  all_goals go_wp2
  all_goals
    refine bodyPost_ret (v := .tuple #[.int .u32 r, .agg #[.bool (r / 2147483648 == 1), .bool (r == 0), .bool C, .bool V]]) ?_ rfl ⟨rfl, ?_⟩
    · simp [results, Try.results38, go_sem]
    · rfl
set_option maxRecDepth 100000 in
set_option maxHeartbeats 1000000 in
theorem rdo1 (a b : Int) (n z c v : Bool) (w : World) (h0 : 0 ≤ a) (h1 : a < 4294967296) (h2 : 0 ≤ b) (h3 : b < 4294967296) :
    Calls Try.prog 19 #[.int .i64 1, .int .u32 a, .int .u32 b, .agg #[.bool n, .bool z, .bool c, .bool v]] w fun e w' => e = .returned (resV (doR 1 a b n z c v)) ∧ Below w.heap.size w w' := by
  have x1 := xor_ones a h0 h1
  have x2 := xor_ones b h2 h3
  have i1 := inv_bd a h0 h1
  have i2 := inv_bd b h2 h3
  obtain ⟨r, hr⟩ : ∃ r, r = lgc 1 a b := ⟨_, rfl⟩
  have HV := Lib.hid (show resV (doR 1 a b n z c v) = .tuple #[.int .u32 r, .agg #[.bool (r / 2147483648 == 1), .bool (r == 0), .bool c, .bool v], .bool true] by rw [hr]; rfl)
  have HR := Lib.hid hr.symm
  clear hr
  go_enter Try.func19, Try.ntmps19
  go_wp2_with fail
  rw [show bits .and .u32 a b = r from HR.out]
  refine (ref_Logic r n z c v _).mono ?_
  rintro e w1 ⟨rfl, rfl⟩
  clear x1 x2 HR
  go_wp2_with fail
  rw [HV.out]
  refine bodyPost_ret (v := .tuple #[.int .u32 r, .agg #[.bool (r / 2147483648 == 1), .bool (r == 0), .bool c, .bool v], .bool true]) ?_ rfl ⟨rfl, ?_⟩
  · simp [results, Try.results19, go_sem]
  · exact ((((Below.refl _ _).alloc (Nat.le_refl _) _).alloc (by simp) _).alloc (by simp <;> omega) _).alloc (by simp <;> omega) _
set_option maxRecDepth 100000 in
set_option maxHeartbeats 1000000 in
theorem rdo2 (a b : Int) (n z c v : Bool) (w : World) (h0 : 0 ≤ a) (h1 : a < 4294967296) (h2 : 0 ≤ b) (h3 : b < 4294967296) :
    Calls Try.prog 19 #[.int .i64 2, .int .u32 a, .int .u32 b, .agg #[.bool n, .bool z, .bool c, .bool v]] w fun e w' => e = .returned (resV (doR 2 a b n z c v)) ∧ Below w.heap.size w w' := by
  have x1 := xor_ones a h0 h1
  have x2 := xor_ones b h2 h3
  have i1 := inv_bd a h0 h1
  have i2 := inv_bd b h2 h3
  obtain ⟨r, hr⟩ : ∃ r, r = lgc 2 a b := ⟨_, rfl⟩
  have HV := Lib.hid (show resV (doR 2 a b n z c v) = .tuple #[.int .u32 r, .agg #[.bool (r / 2147483648 == 1), .bool (r == 0), .bool c, .bool v], .bool true] by rw [hr]; rfl)
  have HR := Lib.hid hr.symm
  clear hr
  go_enter Try.func19, Try.ntmps19
  go_wp2_with fail
  rw [show bits .xor .u32 a b = r from HR.out]
  refine (ref_Logic r n z c v _).mono ?_
  rintro e w1 ⟨rfl, rfl⟩
  clear x1 x2 HR
  go_wp2_with fail
  rw [HV.out]
  refine bodyPost_ret (v := .tuple #[.int .u32 r, .agg #[.bool (r / 2147483648 == 1), .bool (r == 0), .bool c, .bool v], .bool true]) ?_ rfl ⟨rfl, ?_⟩
  · simp [results, Try.results19, go_sem]
  · exact ((((Below.refl _ _).alloc (Nat.le_refl _) _).alloc (by simp) _).alloc (by simp <;> omega) _).alloc (by simp <;> omega) _
set_option maxRecDepth 100000 in
set_option maxHeartbeats 1000000 in
theorem rdo3 (a b : Int) (n z c v : Bool) (w : World) (h0 : 0 ≤ a) (h1 : a < 4294967296) (h2 : 0 ≤ b) (h3 : b < 4294967296) :
    Calls Try.prog 19 #[.int .i64 3, .int .u32 a, .int .u32 b, .agg #[.bool n, .bool z, .bool c, .bool v]] w fun e w' => e = .returned (resV (doR 3 a b n z c v)) ∧ Below w.heap.size w w' := by
  have x1 := xor_ones a h0 h1
  have x2 := xor_ones b h2 h3
  have i1 := inv_bd a h0 h1
  have i2 := inv_bd b h2 h3
  obtain ⟨r, hr⟩ : ∃ r, r = lgc 3 a b := ⟨_, rfl⟩
  have HV := Lib.hid (show resV (doR 3 a b n z c v) = .tuple #[.int .u32 r, .agg #[.bool (r / 2147483648 == 1), .bool (r == 0), .bool c, .bool v], .bool true] by rw [hr]; rfl)
  have HR := Lib.hid hr.symm
  clear hr
  go_enter Try.func19, Try.ntmps19
  go_wp2_with fail
  rw [show bits .or .u32 a b = r from HR.out]
  refine (ref_Logic r n z c v _).mono ?_
  rintro e w1 ⟨rfl, rfl⟩
  clear x1 x2 HR
  go_wp2_with fail
  rw [HV.out]
  refine bodyPost_ret (v := .tuple #[.int .u32 r, .agg #[.bool (r / 2147483648 == 1), .bool (r == 0), .bool c, .bool v], .bool true]) ?_ rfl ⟨rfl, ?_⟩
  · simp [results, Try.results19, go_sem]
  · exact ((((Below.refl _ _).alloc (Nat.le_refl _) _).alloc (by simp) _).alloc (by simp <;> omega) _).alloc (by simp <;> omega) _
set_option maxRecDepth 100000 in
set_option maxHeartbeats 1000000 in
theorem rdo4 (a b : Int) (n z c v : Bool) (w : World) (h0 : 0 ≤ a) (h1 : a < 4294967296) (h2 : 0 ≤ b) (h3 : b < 4294967296) :
    Calls Try.prog 19 #[.int .i64 4, .int .u32 a, .int .u32 b, .agg #[.bool n, .bool z, .bool c, .bool v]] w fun e w' => e = .returned (resV (doR 4 a b n z c v)) ∧ Below w.heap.size w w' := by
  have x1 := xor_ones a h0 h1
  have x2 := xor_ones b h2 h3
  have i1 := inv_bd a h0 h1
  have i2 := inv_bd b h2 h3
  obtain ⟨r, hr⟩ : ∃ r, r = lgc 4 a b := ⟨_, rfl⟩
  have HV := Lib.hid (show resV (doR 4 a b n z c v) = .tuple #[.int .u32 r, .agg #[.bool (r / 2147483648 == 1), .bool (r == 0), .bool c, .bool v], .bool true] by rw [hr]; rfl)
  have HR := Lib.hid hr.symm
  clear hr
  go_enter Try.func19, Try.ntmps19
  go_wp2_with fail
  rw [show bits .andNot .u32 a b = r from HR.out]
  refine (ref_Logic r n z c v _).mono ?_
  rintro e w1 ⟨rfl, rfl⟩
  clear x1 x2 HR
  go_wp2_with fail
  rw [HV.out]
  refine bodyPost_ret (v := .tuple #[.int .u32 r, .agg #[.bool (r / 2147483648 == 1), .bool (r == 0), .bool c, .bool v], .bool true]) ?_ rfl ⟨rfl, ?_⟩
  · simp [results, Try.results19, go_sem]
  · exact ((((Below.refl _ _).alloc (Nat.le_refl _) _).alloc (by simp) _).alloc (by simp <;> omega) _).alloc (by simp <;> omega) _
set_option maxRecDepth 100000 in
set_option maxHeartbeats 1000000 in
theorem rdo10 (a b : Int) (n z c v : Bool) (w : World) (h0 : 0 ≤ a) (h1 : a < 4294967296) (h2 : 0 ≤ b) (h3 : b < 4294967296) :
    Calls Try.prog 19 #[.int .i64 10, .int .u32 a, .int .u32 b, .agg #[.bool n, .bool z, .bool c, .bool v]] w fun e w' => e = .returned (resV (doR 10 a b n z c v)) ∧ Below w.heap.size w w' := by
  have x1 := xor_ones a h0 h1
  have x2 := xor_ones b h2 h3
  have i1 := inv_bd a h0 h1
  have i2 := inv_bd b h2 h3
  obtain ⟨r, hr⟩ : ∃ r, r = lgc 10 a b := ⟨_, rfl⟩
  have HV := Lib.hid (show resV (doR 10 a b n z c v) = .tuple #[.int .u32 r, .agg #[.bool (r / 2147483648 == 1), .bool (r == 0), .bool c, .bool v], .bool true] by rw [hr]; rfl)
  have HR := Lib.hid hr.symm
  clear hr
  go_enter Try.func19, Try.ntmps19
  go_wp2_with fail
  rw [show b = r from HR.out]
  refine (ref_Logic r n z c v _).mono ?_
  rintro e w1 ⟨rfl, rfl⟩
  clear x1 x2 HR
  go_wp2_with fail
  rw [HV.out]
  refine bodyPost_ret (v := .tuple #[.int .u32 r, .agg #[.bool (r / 2147483648 == 1), .bool (r == 0), .bool c, .bool v], .bool true]) ?_ rfl ⟨rfl, ?_⟩
  · simp [results, Try.results19, go_sem]
  · exact ((((Below.refl _ _).alloc (Nat.le_refl _) _).alloc (by simp) _).alloc (by simp <;> omega) _).alloc (by simp <;> omega) _
set_option maxRecDepth 100000 in
set_option maxHeartbeats 1000000 in
theorem rdo11 (a b : Int) (n z c v : Bool) (w : World) (h0 : 0 ≤ a) (h1 : a < 4294967296) (h2 : 0 ≤ b) (h3 : b < 4294967296) :
    Calls Try.prog 19 #[.int .i64 11, .int .u32 a, .int .u32 b, .agg #[.bool n, .bool z, .bool c, .bool v]] w fun e w' => e = .returned (resV (doR 11 a b n z c v)) ∧ Below w.heap.size w w' := by
  have x1 := xor_ones a h0 h1
  have x2 := xor_ones b h2 h3
  have i1 := inv_bd a h0 h1
  have i2 := inv_bd b h2 h3
  obtain ⟨r, hr⟩ : ∃ r, r = lgc 11 a b := ⟨_, rfl⟩
  have HV := Lib.hid (show resV (doR 11 a b n z c v) = .tuple #[.int .u32 r, .agg #[.bool (r / 2147483648 == 1), .bool (r == 0), .bool c, .bool v], .bool true] by rw [hr]; rfl)
  have HR := Lib.hid hr.symm
  clear hr
  go_enter Try.func19, Try.ntmps19
  go_wp2_with fail
  rw [show inv b = r from HR.out]
  refine (ref_Logic r n z c v _).mono ?_
  rintro e w1 ⟨rfl, rfl⟩
  clear x1 x2 HR
  go_wp2_with fail
  rw [HV.out]
  refine bodyPost_ret (v := .tuple #[.int .u32 r, .agg #[.bool (r / 2147483648 == 1), .bool (r == 0), .bool c, .bool v], .bool true]) ?_ rfl ⟨rfl, ?_⟩
  · simp [results, Try.results19, go_sem]
  · exact ((((Below.refl _ _).alloc (Nat.le_refl _) _).alloc (by simp) _).alloc (by simp <;> omega) _).alloc (by simp <;> omega) _
set_option maxRecDepth 100000 in
set_option maxHeartbeats 1000000 in
theorem rdo14 (a b : Int) (n z c v : Bool) (w : World) (h0 : 0 ≤ a) (h1 : a < 4294967296) (h2 : 0 ≤ b) (h3 : b < 4294967296) :
    Calls Try.prog 19 #[.int .i64 14, .int .u32 a, .int .u32 b, .agg #[.bool n, .bool z, .bool c, .bool v]] w fun e w' => e = .returned (resV (doR 14 a b n z c v)) ∧ Below w.heap.size w w' := by
  have x1 := xor_ones a h0 h1
  have x2 := xor_ones b h2 h3
  have i1 := inv_bd a h0 h1
  have i2 := inv_bd b h2 h3
  obtain ⟨r, hr⟩ : ∃ r, r = lgc 14 a b := ⟨_, rfl⟩
  have HV := Lib.hid (show resV (doR 14 a b n z c v) = .tuple #[.int .u32 r, .agg #[.bool (r / 2147483648 == 1), .bool (r == 0), .bool c, .bool v], .bool false] by rw [hr]; rfl)
  have HR := Lib.hid hr.symm
  clear hr
  go_enter Try.func19, Try.ntmps19
  go_wp2_with fail
  rw [show bits .and .u32 a b = r from HR.out]
  refine (ref_Logic r n z c v _).mono ?_
  rintro e w1 ⟨rfl, rfl⟩
  clear x1 x2 HR
  go_wp2_with fail
  rw [HV.out]
  refine bodyPost_ret (v := .tuple #[.int .u32 r, .agg #[.bool (r / 2147483648 == 1), .bool (r == 0), .bool c, .bool v], .bool false]) ?_ rfl ⟨rfl, ?_⟩
  · simp [results, Try.results19, go_sem]
  · exact ((((Below.refl _ _).alloc (Nat.le_refl _) _).alloc (by simp) _).alloc (by simp <;> omega) _).alloc (by simp <;> omega) _
set_option maxRecDepth 100000 in
set_option maxHeartbeats 1000000 in
theorem rdo15 (a b : Int) (n z c v : Bool) (w : World) (h0 : 0 ≤ a) (h1 : a < 4294967296) (h2 : 0 ≤ b) (h3 : b < 4294967296) :
    Calls Try.prog 19 #[.int .i64 15, .int .u32 a, .int .u32 b, .agg #[.bool n, .bool z, .bool c, .bool v]] w fun e w' => e = .returned (resV (doR 15 a b n z c v)) ∧ Below w.heap.size w w' := by
  have x1 := xor_ones a h0 h1
  have x2 := xor_ones b h2 h3
  have i1 := inv_bd a h0 h1
  have i2 := inv_bd b h2 h3
  obtain ⟨r, hr⟩ : ∃ r, r = lgc 15 a b := ⟨_, rfl⟩
  have HV := Lib.hid (show resV (doR 15 a b n z c v) = .tuple #[.int .u32 r, .agg #[.bool (r / 2147483648 == 1), .bool (r == 0), .bool c, .bool v], .bool false] by rw [hr]; rfl)
  have HR := Lib.hid hr.symm
  clear hr
  go_enter Try.func19, Try.ntmps19
  go_wp2_with fail
  rw [show bits .xor .u32 a b = r from HR.out]
  refine (ref_Logic r n z c v _).mono ?_
  rintro e w1 ⟨rfl, rfl⟩
  clear x1 x2 HR
  go_wp2_with fail
  rw [HV.out]
  refine bodyPost_ret (v := .tuple #[.int .u32 r, .agg #[.bool (r / 2147483648 == 1), .bool (r == 0), .bool c, .bool v], .bool false]) ?_ rfl ⟨rfl, ?_⟩
  · simp [results, Try.results19, go_sem]
  · exact ((((Below.refl _ _).alloc (Nat.le_refl _) _).alloc (by simp) _).alloc (by simp <;> omega) _).alloc (by simp <;> omega) _
set_option maxRecDepth 100000 in
set_option maxHeartbeats 1000000 in
theorem rdo5 (a b : Int) (n z c v : Bool) (w : World) (h0 : 0 ≤ a) (h1 : a < 4294967296) (h2 : 0 ≤ b) (h3 : b < 4294967296) :
    Calls Try.prog 19 #[.int .i64 5, .int .u32 a, .int .u32 b, .agg #[.bool n, .bool z, .bool c, .bool v]] w fun e w' => e = .returned (resV (doR 5 a b n z c v)) ∧ Below w.heap.size w w' := by
  have x1 := xor_ones a h0 h1
  have x2 := xor_ones b h2 h3
  have i1 := inv_bd a h0 h1
  have i2 := inv_bd b h2 h3
  obtain ⟨r, hr⟩ : ∃ r, r = addW a b false := ⟨_, rfl⟩
  obtain ⟨C, hC⟩ : ∃ C, C = addC a b false := ⟨_, rfl⟩
  obtain ⟨V, hV⟩ : ∃ V, V = addV a b false := ⟨_, rfl⟩
  have HV := Lib.hid (show resV (doR 5 a b n z c v) = .tuple #[.int .u32 r, .agg #[.bool (r / 2147483648 == 1), .bool (r == 0), .bool C, .bool V], .bool true] by rw [hr, hC, hV]; rfl)
  have HR := Lib.hid hr; have HC := Lib.hid hC; have HVV := Lib.hid hV
  clear hr hC hV
  go_enter Try.func19, Try.ntmps19
  go_wp2_with fail
  refine (ref_sum _ _ r _ n z c v C V _ (by omega) (by omega) (by omega) (by omega) HR.out HC.out HVV.out).mono ?_
  rintro e w1 ⟨rfl, rfl⟩
  clear x1 x2 HR HC HVV
  go_wp2_with fail
  go_region
  all_goals go_wp2
  all_goals
    rw [HV.out]
    refine bodyPost_ret (v := .tuple #[.int .u32 r, .agg #[.bool (r / 2147483648 == 1), .bool (r == 0), .bool C, .bool V], .bool true]) ?_ rfl ⟨rfl, ?_⟩
    · simp [results, Try.results19, go_sem]
    · exact ((((((((Below.refl _ _).alloc (Nat.le_refl _) _).alloc (by simp) _).alloc (by simp <;> omega) _).alloc (by simp <;> omega) _).alloc (by simp <;> omega) _).alloc (by simp <;> omega) _).drew).drew
set_option maxRecDepth 100000 in
set_option maxHeartbeats 1000000 in
theorem rdo6 (a b : Int) (n z c v : Bool) (w : World) (h0 : 0 ≤ a) (h1 : a < 4294967296) (h2 : 0 ≤ b) (h3 : b < 4294967296) :
    Calls Try.prog 19 #[.int .i64 6, .int .u32 a, .int .u32 b, .agg #[.bool n, .bool z, .bool c, .bool v]] w fun e w' => e = .returned (resV (doR 6 a b n z c v)) ∧ Below w.heap.size w w' := by
  have x1 := xor_ones a h0 h1
  have x2 := xor_ones b h2 h3
  have i1 := inv_bd a h0 h1
  have i2 := inv_bd b h2 h3
  obtain ⟨r, hr⟩ : ∃ r, r = addW a b c := ⟨_, rfl⟩
  obtain ⟨C, hC⟩ : ∃ C, C = addC a b c := ⟨_, rfl⟩
  obtain ⟨V, hV⟩ : ∃ V, V = addV a b c := ⟨_, rfl⟩
  have HV := Lib.hid (show resV (doR 6 a b n z c v) = .tuple #[.int .u32 r, .agg #[.bool (r / 2147483648 == 1), .bool (r == 0), .bool C, .bool V], .bool true] by rw [hr, hC, hV]; rfl)
  have HR := Lib.hid hr; have HC := Lib.hid hC; have HVV := Lib.hid hV
  clear hr hC hV
  go_enter Try.func19, Try.ntmps19
  go_wp2_with fail
  refine (ref_sum _ _ r _ n z c v C V _ (by omega) (by omega) (by omega) (by omega) HR.out HC.out HVV.out).mono ?_
  rintro e w1 ⟨rfl, rfl⟩
  clear x1 x2 HR HC HVV
  go_wp2_with fail
  go_region
  all_goals go_wp2
  all_goals
    rw [HV.out]
    refine bodyPost_ret (v := .tuple #[.int .u32 r, .agg #[.bool (r / 2147483648 == 1), .bool (r == 0), .bool C, .bool V], .bool true]) ?_ rfl ⟨rfl, ?_⟩
    · simp [results, Try.results19, go_sem]
    · exact ((((((((Below.refl _ _).alloc (Nat.le_refl _) _).alloc (by simp) _).alloc (by simp <;> omega) _).alloc (by simp <;> omega) _).alloc (by simp <;> omega) _).alloc (by simp <;> omega) _).drew).drew
set_option maxRecDepth 100000 in
set_option maxHeartbeats 1000000 in
theorem rdo7 (a b : Int) (n z c v : Bool) (w : World) (h0 : 0 ≤ a) (h1 : a < 4294967296) (h2 : 0 ≤ b) (h3 : b < 4294967296) :
    Calls Try.prog 19 #[.int .i64 7, .int .u32 a, .int .u32 b, .agg #[.bool n, .bool z, .bool c, .bool v]] w fun e w' => e = .returned (resV (doR 7 a b n z c v)) ∧ Below w.heap.size w w' := by
  have x1 := xor_ones a h0 h1
  have x2 := xor_ones b h2 h3
  have i1 := inv_bd a h0 h1
  have i2 := inv_bd b h2 h3
  obtain ⟨r, hr⟩ : ∃ r, r = addW a (inv b) true := ⟨_, rfl⟩
  obtain ⟨C, hC⟩ : ∃ C, C = addC a (inv b) true := ⟨_, rfl⟩
  obtain ⟨V, hV⟩ : ∃ V, V = addV a (inv b) true := ⟨_, rfl⟩
  have HV := Lib.hid (show resV (doR 7 a b n z c v) = .tuple #[.int .u32 r, .agg #[.bool (r / 2147483648 == 1), .bool (r == 0), .bool C, .bool V], .bool true] by rw [hr, hC, hV]; rfl)
  have HR := Lib.hid hr; have HC := Lib.hid hC; have HVV := Lib.hid hV
  clear hr hC hV
  go_enter Try.func19, Try.ntmps19
  go_wp2_with fail
  refine (ref_sum _ _ r _ n z c v C V _ (by omega) (by omega) (by omega) (by omega) HR.out HC.out HVV.out).mono ?_
  rintro e w1 ⟨rfl, rfl⟩
  clear x1 x2 HR HC HVV
  go_wp2_with fail
  go_region
  all_goals go_wp2
  all_goals
    rw [HV.out]
    refine bodyPost_ret (v := .tuple #[.int .u32 r, .agg #[.bool (r / 2147483648 == 1), .bool (r == 0), .bool C, .bool V], .bool true]) ?_ rfl ⟨rfl, ?_⟩
    · simp [results, Try.results19, go_sem]
    · exact ((((((((Below.refl _ _).alloc (Nat.le_refl _) _).alloc (by simp) _).alloc (by simp <;> omega) _).alloc (by simp <;> omega) _).alloc (by simp <;> omega) _).alloc (by simp <;> omega) _).drew).drew
set_option maxRecDepth 100000 in
set_option maxHeartbeats 1000000 in
theorem rdo8 (a b : Int) (n z c v : Bool) (w : World) (h0 : 0 ≤ a) (h1 : a < 4294967296) (h2 : 0 ≤ b) (h3 : b < 4294967296) :
    Calls Try.prog 19 #[.int .i64 8, .int .u32 a, .int .u32 b, .agg #[.bool n, .bool z, .bool c, .bool v]] w fun e w' => e = .returned (resV (doR 8 a b n z c v)) ∧ Below w.heap.size w w' := by
  have x1 := xor_ones a h0 h1
  have x2 := xor_ones b h2 h3
  have i1 := inv_bd a h0 h1
  have i2 := inv_bd b h2 h3
  obtain ⟨r, hr⟩ : ∃ r, r = addW a (inv b) c := ⟨_, rfl⟩
  obtain ⟨C, hC⟩ : ∃ C, C = addC a (inv b) c := ⟨_, rfl⟩
  obtain ⟨V, hV⟩ : ∃ V, V = addV a (inv b) c := ⟨_, rfl⟩
  have HV := Lib.hid (show resV (doR 8 a b n z c v) = .tuple #[.int .u32 r, .agg #[.bool (r / 2147483648 == 1), .bool (r == 0), .bool C, .bool V], .bool true] by rw [hr, hC, hV]; rfl)
  have HR := Lib.hid hr; have HC := Lib.hid hC; have HVV := Lib.hid hV
  clear hr hC hV
  go_enter Try.func19, Try.ntmps19
  go_wp2_with fail
  refine (ref_sum _ _ r _ n z c v C V _ (by omega) (by omega) (by omega) (by omega) HR.out HC.out HVV.out).mono ?_
  rintro e w1 ⟨rfl, rfl⟩
  clear x1 x2 HR HC HVV
  go_wp2_with fail
  go_region
  all_goals go_wp2
  all_goals
    rw [HV.out]
    refine bodyPost_ret (v := .tuple #[.int .u32 r, .agg #[.bool (r / 2147483648 == 1), .bool (r == 0), .bool C, .bool V], .bool true]) ?_ rfl ⟨rfl, ?_⟩
    · simp [results, Try.results19, go_sem]
    · exact ((((((((Below.refl _ _).alloc (Nat.le_refl _) _).alloc (by simp) _).alloc (by simp <;> omega) _).alloc (by simp <;> omega) _).alloc (by simp <;> omega) _).alloc (by simp <;> omega) _).drew).drew
set_option maxRecDepth 100000 in
set_option maxHeartbeats 1000000 in
theorem rdo9 (a b : Int) (n z c v : Bool) (w : World) (h0 : 0 ≤ a) (h1 : a < 4294967296) (h2 : 0 ≤ b) (h3 : b < 4294967296) :
    Calls Try.prog 19 #[.int .i64 9, .int .u32 a, .int .u32 b, .agg #[.bool n, .bool z, .bool c, .bool v]] w fun e w' => e = .returned (resV (doR 9 a b n z c v)) ∧ Below w.heap.size w w' := by
  have x1 := xor_ones a h0 h1
  have x2 := xor_ones b h2 h3
  have i1 := inv_bd a h0 h1
  have i2 := inv_bd b h2 h3
  obtain ⟨r, hr⟩ : ∃ r, r = addW b (inv a) true := ⟨_, rfl⟩
  obtain ⟨C, hC⟩ : ∃ C, C = addC b (inv a) true := ⟨_, rfl⟩
  obtain ⟨V, hV⟩ : ∃ V, V = addV b (inv a) true := ⟨_, rfl⟩
  have HV := Lib.hid (show resV (doR 9 a b n z c v) = .tuple #[.int .u32 r, .agg #[.bool (r / 2147483648 == 1), .bool (r == 0), .bool C, .bool V], .bool true] by rw [hr, hC, hV]; rfl)
  have HR := Lib.hid hr; have HC := Lib.hid hC; have HVV := Lib.hid hV
  clear hr hC hV
  go_enter Try.func19, Try.ntmps19
  go_wp2_with fail
  refine (ref_sum _ _ r _ n z c v C V _ (by omega) (by omega) (by omega) (by omega) HR.out HC.out HVV.out).mono ?_
  rintro e w1 ⟨rfl, rfl⟩
  clear x1 x2 HR HC HVV
  go_wp2_with fail
  go_region
  all_goals go_wp2
  all_goals
    rw [HV.out]
    refine bodyPost_ret (v := .tuple #[.int .u32 r, .agg #[.bool (r / 2147483648 == 1), .bool (r == 0), .bool C, .bool V], .bool true]) ?_ rfl ⟨rfl, ?_⟩
    · simp [results, Try.results19, go_sem]
    · exact ((((((((Below.refl _ _).alloc (Nat.le_refl _) _).alloc (by simp) _).alloc (by simp <;> omega) _).alloc (by simp <;> omega) _).alloc (by simp <;> omega) _).alloc (by simp <;> omega) _).drew).drew
set_option maxRecDepth 100000 in
set_option maxHeartbeats 1000000 in
theorem rdo12 (a b : Int) (n z c v : Bool) (w : World) (h0 : 0 ≤ a) (h1 : a < 4294967296) (h2 : 0 ≤ b) (h3 : b < 4294967296) :
    Calls Try.prog 19 #[.int .i64 12, .int .u32 a, .int .u32 b, .agg #[.bool n, .bool z, .bool c, .bool v]] w fun e w' => e = .returned (resV (doR 12 a b n z c v)) ∧ Below w.heap.size w w' := by
  have x1 := xor_ones a h0 h1
  have x2 := xor_ones b h2 h3
  have i1 := inv_bd a h0 h1
  have i2 := inv_bd b h2 h3
  obtain ⟨r, hr⟩ : ∃ r, r = addW a (inv b) true := ⟨_, rfl⟩
  obtain ⟨C, hC⟩ : ∃ C, C = addC a (inv b) true := ⟨_, rfl⟩
  obtain ⟨V, hV⟩ : ∃ V, V = addV a (inv b) true := ⟨_, rfl⟩
  have HV := Lib.hid (show resV (doR 12 a b n z c v) = .tuple #[.int .u32 r, .agg #[.bool (r / 2147483648 == 1), .bool (r == 0), .bool C, .bool V], .bool false] by rw [hr, hC, hV]; rfl)
  have HR := Lib.hid hr; have HC := Lib.hid hC; have HVV := Lib.hid hV
  clear hr hC hV
  go_enter Try.func19, Try.ntmps19
  go_wp2_with fail
  refine (ref_sum _ _ r _ n z c v C V _ (by omega) (by omega) (by omega) (by omega) HR.out HC.out HVV.out).mono ?_
  rintro e w1 ⟨rfl, rfl⟩
  clear x1 x2 HR HC HVV
  go_wp2_with fail
  go_region
  all_goals go_wp2
  all_goals
    rw [HV.out]
    refine bodyPost_ret (v := .tuple #[.int .u32 r, .agg #[.bool (r / 2147483648 == 1), .bool (r == 0), .bool C, .bool V], .bool false]) ?_ rfl ⟨rfl, ?_⟩
    · simp [results, Try.results19, go_sem]
    · exact ((((((((Below.refl _ _).alloc (Nat.le_refl _) _).alloc (by simp) _).alloc (by simp <;> omega) _).alloc (by simp <;> omega) _).alloc (by simp <;> omega) _).alloc (by simp <;> omega) _).drew).drew
set_option maxRecDepth 100000 in
set_option maxHeartbeats 1000000 in
theorem rdo13 (a b : Int) (n z c v : Bool) (w : World) (h0 : 0 ≤ a) (h1 : a < 4294967296) (h2 : 0 ≤ b) (h3 : b < 4294967296) :
    Calls Try.prog 19 #[.int .i64 13, .int .u32 a, .int .u32 b, .agg #[.bool n, .bool z, .bool c, .bool v]] w fun e w' => e = .returned (resV (doR 13 a b n z c v)) ∧ Below w.heap.size w w' := by
  have x1 := xor_ones a h0 h1
  have x2 := xor_ones b h2 h3
  have i1 := inv_bd a h0 h1
  have i2 := inv_bd b h2 h3
  obtain ⟨r, hr⟩ : ∃ r, r = addW a b false := ⟨_, rfl⟩
  obtain ⟨C, hC⟩ : ∃ C, C = addC a b false := ⟨_, rfl⟩
  obtain ⟨V, hV⟩ : ∃ V, V = addV a b false := ⟨_, rfl⟩
  have HV := Lib.hid (show resV (doR 13 a b n z c v) = .tuple #[.int .u32 r, .agg #[.bool (r / 2147483648 == 1), .bool (r == 0), .bool C, .bool V], .bool false] by rw [hr, hC, hV]; rfl)
  have HR := Lib.hid hr; have HC := Lib.hid hC; have HVV := Lib.hid hV
  clear hr hC hV
  go_enter Try.func19, Try.ntmps19
  go_wp2_with fail
  refine (ref_sum _ _ r _ n z c v C V _ (by omega) (by omega) (by omega) (by omega) HR.out HC.out HVV.out).mono ?_
  rintro e w1 ⟨rfl, rfl⟩
  clear x1 x2 HR HC HVV
  go_wp2_with fail
  go_region
  all_goals go_wp2
  all_goals
    rw [HV.out]
    refine bodyPost_ret (v := .tuple #[.int .u32 r, .agg #[.bool (r / 2147483648 == 1), .bool (r == 0), .bool C, .bool V], .bool false]) ?_ rfl ⟨rfl, ?_⟩
    · simp [results, Try.results19, go_sem]
    · exact ((((((((Below.refl _ _).alloc (Nat.le_refl _) _).alloc (by simp) _).alloc (by simp <;> omega) _).alloc (by simp <;> omega) _).alloc (by simp <;> omega) _).alloc (by simp <;> omega) _).drew).drew
set_option maxRecDepth 100000 in
set_option maxHeartbeats 1000000 in
theorem rdo_none (op a b : Int) (n z c v : Bool) (w : World) (ho : op < 1 ∨ 15 < op) :
    Calls Try.prog 19 #[.int .i64 op, .int .u32 a, .int .u32 b, .agg #[.bool n, .bool z, .bool c, .bool v]] w fun e w' => e = .returned (.tuple #[.int .u32 0, .agg #[.bool n, .bool z, .bool c, .bool v], .bool false]) ∧ Below w.heap.size w w' := by
  have q1 : (op == 1) = false := beq_of_ne (by omega)
  have q2 : (op == 2) = false := beq_of_ne (by omega)
  have q3 : (op == 3) = false := beq_of_ne (by omega)
  have q4 : (op == 4) = false := beq_of_ne (by omega)
  have q5 : (op == 5) = false := beq_of_ne (by omega)
  have q6 : (op == 6) = false := beq_of_ne (by omega)
  have q7 : (op == 7) = false := beq_of_ne (by omega)
  have q8 : (op == 8) = false := beq_of_ne (by omega)
  have q9 : (op == 9) = false := beq_of_ne (by omega)
  have q10 : (op == 10) = false := beq_of_ne (by omega)
  have q11 : (op == 11) = false := beq_of_ne (by omega)
  have q12 : (op == 12) = false := beq_of_ne (by omega)
  have q13 : (op == 13) = false := beq_of_ne (by omega)
  have q14 : (op == 14) = false := beq_of_ne (by omega)
  have q15 : (op == 15) = false := beq_of_ne (by omega)
  by_cases h1 : op ≤ 11
  all_goals
    clear ho
    go_enter Try.func19, Try.ntmps19
    go_wp2
    go_region
    all_goals go_wp2
    all_goals
      refine bodyPost_ret (v := .tuple #[.int .u32 0, .agg #[.bool n, .bool z, .bool c, .bool v], .bool false]) ?_ rfl ⟨rfl, ?_⟩
      · simp [results, Try.results19, go_sem]
      · exact (((Below.refl _ _).alloc (Nat.le_refl _) _).alloc (by simp) _).drew
theorem ref_Do (op a b : Int) (n z c v : Bool) (w : World) (h0 : 0 ≤ a) (h1 : a < 4294967296) (h2 : 0 ≤ b) (h3 : b < 4294967296) :
    Calls Try.prog 19 #[.int .i64 op, .int .u32 a, .int .u32 b, .agg #[.bool n, .bool z, .bool c, .bool v]] w fun e w' => e = .returned (resV (doR op a b n z c v)) ∧ Below w.heap.size w w' := by
  by_cases ho : op < 1 ∨ 15 < op
  · rw [doR_none ho]; exact rdo_none op a b n z c v w ho
  · rcases all_ops (by omega : 1 ≤ op) (by omega) with rfl | rfl | rfl | rfl | rfl | rfl | rfl | rfl | rfl | rfl | rfl | rfl | rfl | rfl | rfl
    · exact rdo1 a b n z c v w h0 h1 h2 h3
    · exact rdo2 a b n z c v w h0 h1 h2 h3
    · exact rdo3 a b n z c v w h0 h1 h2 h3
    · exact rdo4 a b n z c v w h0 h1 h2 h3
    · exact rdo10 a b n z c v w h0 h1 h2 h3
    · exact rdo11 a b n z c v w h0 h1 h2 h3
    · exact rdo14 a b n z c v w h0 h1 h2 h3
    · exact rdo15 a b n z c v w h0 h1 h2 h3
    · exact rdo5 a b n z c v w h0 h1 h2 h3
    · exact rdo6 a b n z c v w h0 h1 h2 h3
    · exact rdo7 a b n z c v w h0 h1 h2 h3
    · exact rdo8 a b n z c v w h0 h1 h2 h3
    · exact rdo9 a b n z c v w h0 h1 h2 h3
    · exact rdo12 a b n z c v w h0 h1 h2 h3
    · exact rdo13 a b n z c v w h0 h1 h2 h3
end Go.Proofs.Ytoippgiahldkmaa
