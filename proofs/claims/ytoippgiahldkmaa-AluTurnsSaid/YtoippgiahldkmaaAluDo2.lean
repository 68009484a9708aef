/- The contract of alu.Do. -/
import Derived.Test.YtoippgiahldkmaaAluDo
namespace Go.Proofs.Ytoippgiahldkmaa
open Go.RowKit Mem
set_option linter.unusedVariables false
set_option maxRecDepth 100000 in
set_option maxHeartbeats 400000 in
theorem alu_SetX (r : Int) (n z c v : Bool) (w : World) :
    Calls Try.prog 36 #[.int .u32 r, .agg #[.bool n, .bool z, .bool c, .bool v]] w fun e w' => e = .returned (.agg #[.bool (r / 2147483648 == 1), .bool (r == 0), .bool c, .bool v]) ∧ (w.alloc (.cells #[.bool (r / 2147483648 == 1), .bool (r == 0), .bool c, .bool v] 32)).alloc (.cells #[.bool (r / 2147483648 == 1), .bool (r == 0), .bool c, .bool v] 32) = w' := by
  go_enter Try.func36, Try.ntmps36
  go_wp2
  exact bodyPost_ret (v := .agg #[.bool (r / 2147483648 == 1), .bool (r == 0), .bool c, .bool v]) (by simp [results, Try.results36, go_sem]) rfl ⟨rfl, rfl⟩
set_option maxRecDepth 100000 in
set_option maxHeartbeats 1000000 in
theorem do_sum5 (a b : Int) (n z c v : Bool) (w : World) (h0 : 0 ≤ a) (h1 : a < 4294967296) (h2 : 0 ≤ b) (h3 : b < 4294967296) :
    Calls Try.prog 18 #[.int .i64 5, .int .u32 a, .int .u32 b, .agg #[.bool n, .bool z, .bool c, .bool v]] w fun e w' => e = .returned (resV (ofSum a b false (decide ((5 : Int) < 12)))) ∧ Below w.heap.size w w' := by
  have x1 := xor_max a h0 h1
  have x2 := xor_max b h2 h3
  have i1 := inv_bd a h0 h1
  have i2 := inv_bd b h2 h3
  obtain ⟨r, hr⟩ : ∃ r, r = addW a b false := ⟨_, rfl⟩
  obtain ⟨C, hC⟩ : ∃ C, C = addC a b false := ⟨_, rfl⟩
  obtain ⟨V, hV⟩ : ∃ V, V = addV a b false := ⟨_, rfl⟩
  have HV := Lib.hid (show resV (ofSum a b false (decide ((5 : Int) < 12))) = .tuple #[.int .u32 r, .agg #[.bool (r / 2147483648 == 1), .bool (r == 0), .bool C, .bool V], .bool (decide ((5 : Int) < 12))] by rw [hr, hC, hV]; rfl)
  have HR := Lib.hid hr; have HC := Lib.hid hC; have HVV := Lib.hid hV
  clear hr hC hV
  go_enter Try.func18, Try.ntmps18
  go_wp2_with fail
  refine (alu_logic _ _ _ _ (by omega) (by omega) h2 h3).mono ?_
  rintro e w' ⟨rfl, rfl⟩
  rw [show isLogic 5 = false from rfl]
  go_wp2_with fail
  refine (alu_Add _ _ _ _ (by omega) (by omega) (by omega) (by omega)).mono ?_
  rintro e w' ⟨rfl, rfl⟩
  rw [← HR.out, ← HC.out, ← HVV.out]
  go_wp2_with fail
  refine (alu_SetX _ n z c v _).mono ?_
  rintro e w1 ⟨rfl, rfl⟩
  clear x1 x2 HR HC HVV
  go_wp2_with fail
  go_region_with (first | (go_at_call 37; refine (alu_told _ _).mono ?_; rintro e w' ⟨rfl, rfl⟩))
  all_goals go_wp2
  all_goals
    rw [HV.out]
    refine bodyPost_ret (v := .tuple #[.int .u32 r, .agg #[.bool (r / 2147483648 == 1), .bool (r == 0), .bool C, .bool V], .bool (decide ((5 : Int) < 12))]) ?_ rfl ⟨rfl, ?_⟩
    · simp [results, Try.results18, go_sem]
    · exact (((((Below.refl _ _).alloc (Nat.le_refl _) _).alloc (by simp) _).alloc (by simp <;> omega) _).alloc (by simp <;> omega) _).drew
set_option maxRecDepth 100000 in
set_option maxHeartbeats 1000000 in
theorem do_sum6 (a b : Int) (n z c v : Bool) (w : World) (h0 : 0 ≤ a) (h1 : a < 4294967296) (h2 : 0 ≤ b) (h3 : b < 4294967296) :
    Calls Try.prog 18 #[.int .i64 6, .int .u32 a, .int .u32 b, .agg #[.bool n, .bool z, .bool c, .bool v]] w fun e w' => e = .returned (resV (ofSum a b c (decide ((6 : Int) < 12)))) ∧ Below w.heap.size w w' := by
  have x1 := xor_max a h0 h1
  have x2 := xor_max b h2 h3
  have i1 := inv_bd a h0 h1
  have i2 := inv_bd b h2 h3
  obtain ⟨r, hr⟩ : ∃ r, r = addW a b c := ⟨_, rfl⟩
  obtain ⟨C, hC⟩ : ∃ C, C = addC a b c := ⟨_, rfl⟩
  obtain ⟨V, hV⟩ : ∃ V, V = addV a b c := ⟨_, rfl⟩
  have HV := Lib.hid (show resV (ofSum a b c (decide ((6 : Int) < 12))) = .tuple #[.int .u32 r, .agg #[.bool (r / 2147483648 == 1), .bool (r == 0), .bool C, .bool V], .bool (decide ((6 : Int) < 12))] by rw [hr, hC, hV]; rfl)
  have HR := Lib.hid hr; have HC := Lib.hid hC; have HVV := Lib.hid hV
  clear hr hC hV
  go_enter Try.func18, Try.ntmps18
  go_wp2_with fail
  refine (alu_logic _ _ _ _ (by omega) (by omega) h2 h3).mono ?_
  rintro e w' ⟨rfl, rfl⟩
  rw [show isLogic 6 = false from rfl]
  go_wp2_with fail
  refine (alu_Add _ _ _ _ (by omega) (by omega) (by omega) (by omega)).mono ?_
  rintro e w' ⟨rfl, rfl⟩
  rw [← HR.out, ← HC.out, ← HVV.out]
  go_wp2_with fail
  refine (alu_SetX _ n z c v _).mono ?_
  rintro e w1 ⟨rfl, rfl⟩
  clear x1 x2 HR HC HVV
  go_wp2_with fail
  go_region_with (first | (go_at_call 37; refine (alu_told _ _).mono ?_; rintro e w' ⟨rfl, rfl⟩))
  all_goals go_wp2
  all_goals
    rw [HV.out]
    refine bodyPost_ret (v := .tuple #[.int .u32 r, .agg #[.bool (r / 2147483648 == 1), .bool (r == 0), .bool C, .bool V], .bool (decide ((6 : Int) < 12))]) ?_ rfl ⟨rfl, ?_⟩
    · simp [results, Try.results18, go_sem]
    · exact (((((Below.refl _ _).alloc (Nat.le_refl _) _).alloc (by simp) _).alloc (by simp <;> omega) _).alloc (by simp <;> omega) _).drew
set_option maxRecDepth 100000 in
set_option maxHeartbeats 1000000 in
theorem do_sum7 (a b : Int) (n z c v : Bool) (w : World) (h0 : 0 ≤ a) (h1 : a < 4294967296) (h2 : 0 ≤ b) (h3 : b < 4294967296) :
    Calls Try.prog 18 #[.int .i64 7, .int .u32 a, .int .u32 b, .agg #[.bool n, .bool z, .bool c, .bool v]] w fun e w' => e = .returned (resV (ofSum a (inv b) true (decide ((7 : Int) < 12)))) ∧ Below w.heap.size w w' := by
  have x1 := xor_max a h0 h1
  have x2 := xor_max b h2 h3
  have i1 := inv_bd a h0 h1
  have i2 := inv_bd b h2 h3
  obtain ⟨r, hr⟩ : ∃ r, r = addW a (inv b) true := ⟨_, rfl⟩
  obtain ⟨C, hC⟩ : ∃ C, C = addC a (inv b) true := ⟨_, rfl⟩
  obtain ⟨V, hV⟩ : ∃ V, V = addV a (inv b) true := ⟨_, rfl⟩
  have HV := Lib.hid (show resV (ofSum a (inv b) true (decide ((7 : Int) < 12))) = .tuple #[.int .u32 r, .agg #[.bool (r / 2147483648 == 1), .bool (r == 0), .bool C, .bool V], .bool (decide ((7 : Int) < 12))] by rw [hr, hC, hV]; rfl)
  have HR := Lib.hid hr; have HC := Lib.hid hC; have HVV := Lib.hid hV
  clear hr hC hV
  go_enter Try.func18, Try.ntmps18
  go_wp2_with fail
  refine (alu_logic _ _ _ _ (by omega) (by omega) h2 h3).mono ?_
  rintro e w' ⟨rfl, rfl⟩
  rw [show isLogic 7 = false from rfl]
  go_wp2_with fail
  refine (alu_Add _ _ _ _ (by omega) (by omega) (by omega) (by omega)).mono ?_
  rintro e w' ⟨rfl, rfl⟩
  rw [← HR.out, ← HC.out, ← HVV.out]
  go_wp2_with fail
  refine (alu_SetX _ n z c v _).mono ?_
  rintro e w1 ⟨rfl, rfl⟩
  clear x1 x2 HR HC HVV
  go_wp2_with fail
  go_region_with (first | (go_at_call 37; refine (alu_told _ _).mono ?_; rintro e w' ⟨rfl, rfl⟩))
  all_goals go_wp2
  all_goals
    rw [HV.out]
    refine bodyPost_ret (v := .tuple #[.int .u32 r, .agg #[.bool (r / 2147483648 == 1), .bool (r == 0), .bool C, .bool V], .bool (decide ((7 : Int) < 12))]) ?_ rfl ⟨rfl, ?_⟩
    · simp [results, Try.results18, go_sem]
    · exact (((((Below.refl _ _).alloc (Nat.le_refl _) _).alloc (by simp) _).alloc (by simp <;> omega) _).alloc (by simp <;> omega) _).drew
set_option maxRecDepth 100000 in
set_option maxHeartbeats 1000000 in
theorem do_sum8 (a b : Int) (n z c v : Bool) (w : World) (h0 : 0 ≤ a) (h1 : a < 4294967296) (h2 : 0 ≤ b) (h3 : b < 4294967296) :
    Calls Try.prog 18 #[.int .i64 8, .int .u32 a, .int .u32 b, .agg #[.bool n, .bool z, .bool c, .bool v]] w fun e w' => e = .returned (resV (ofSum a (inv b) c (decide ((8 : Int) < 12)))) ∧ Below w.heap.size w w' := by
  have x1 := xor_max a h0 h1
  have x2 := xor_max b h2 h3
  have i1 := inv_bd a h0 h1
  have i2 := inv_bd b h2 h3
  obtain ⟨r, hr⟩ : ∃ r, r = addW a (inv b) c := ⟨_, rfl⟩
  obtain ⟨C, hC⟩ : ∃ C, C = addC a (inv b) c := ⟨_, rfl⟩
  obtain ⟨V, hV⟩ : ∃ V, V = addV a (inv b) c := ⟨_, rfl⟩
  have HV := Lib.hid (show resV (ofSum a (inv b) c (decide ((8 : Int) < 12))) = .tuple #[.int .u32 r, .agg #[.bool (r / 2147483648 == 1), .bool (r == 0), .bool C, .bool V], .bool (decide ((8 : Int) < 12))] by rw [hr, hC, hV]; rfl)
  have HR := Lib.hid hr; have HC := Lib.hid hC; have HVV := Lib.hid hV
  clear hr hC hV
  go_enter Try.func18, Try.ntmps18
  go_wp2_with fail
  refine (alu_logic _ _ _ _ (by omega) (by omega) h2 h3).mono ?_
  rintro e w' ⟨rfl, rfl⟩
  rw [show isLogic 8 = false from rfl]
  go_wp2_with fail
  refine (alu_Add _ _ _ _ (by omega) (by omega) (by omega) (by omega)).mono ?_
  rintro e w' ⟨rfl, rfl⟩
  rw [← HR.out, ← HC.out, ← HVV.out]
  go_wp2_with fail
  refine (alu_SetX _ n z c v _).mono ?_
  rintro e w1 ⟨rfl, rfl⟩
  clear x1 x2 HR HC HVV
  go_wp2_with fail
  go_region_with (first | (go_at_call 37; refine (alu_told _ _).mono ?_; rintro e w' ⟨rfl, rfl⟩))
  all_goals go_wp2
  all_goals
    rw [HV.out]
    refine bodyPost_ret (v := .tuple #[.int .u32 r, .agg #[.bool (r / 2147483648 == 1), .bool (r == 0), .bool C, .bool V], .bool (decide ((8 : Int) < 12))]) ?_ rfl ⟨rfl, ?_⟩
    · simp [results, Try.results18, go_sem]
    · exact (((((Below.refl _ _).alloc (Nat.le_refl _) _).alloc (by simp) _).alloc (by simp <;> omega) _).alloc (by simp <;> omega) _).drew
set_option maxRecDepth 100000 in
set_option maxHeartbeats 1000000 in
theorem do_sum9 (a b : Int) (n z c v : Bool) (w : World) (h0 : 0 ≤ a) (h1 : a < 4294967296) (h2 : 0 ≤ b) (h3 : b < 4294967296) :
    Calls Try.prog 18 #[.int .i64 9, .int .u32 a, .int .u32 b, .agg #[.bool n, .bool z, .bool c, .bool v]] w fun e w' => e = .returned (resV (ofSum b (inv a) true (decide ((9 : Int) < 12)))) ∧ Below w.heap.size w w' := by
  have x1 := xor_max a h0 h1
  have x2 := xor_max b h2 h3
  have i1 := inv_bd a h0 h1
  have i2 := inv_bd b h2 h3
  obtain ⟨r, hr⟩ : ∃ r, r = addW b (inv a) true := ⟨_, rfl⟩
  obtain ⟨C, hC⟩ : ∃ C, C = addC b (inv a) true := ⟨_, rfl⟩
  obtain ⟨V, hV⟩ : ∃ V, V = addV b (inv a) true := ⟨_, rfl⟩
  have HV := Lib.hid (show resV (ofSum b (inv a) true (decide ((9 : Int) < 12))) = .tuple #[.int .u32 r, .agg #[.bool (r / 2147483648 == 1), .bool (r == 0), .bool C, .bool V], .bool (decide ((9 : Int) < 12))] by rw [hr, hC, hV]; rfl)
  have HR := Lib.hid hr; have HC := Lib.hid hC; have HVV := Lib.hid hV
  clear hr hC hV
  go_enter Try.func18, Try.ntmps18
  go_wp2_with fail
  refine (alu_logic _ _ _ _ (by omega) (by omega) h2 h3).mono ?_
  rintro e w' ⟨rfl, rfl⟩
  rw [show isLogic 9 = false from rfl]
  go_wp2_with fail
  refine (alu_Add _ _ _ _ (by omega) (by omega) (by omega) (by omega)).mono ?_
  rintro e w' ⟨rfl, rfl⟩
  rw [← HR.out, ← HC.out, ← HVV.out]
  go_wp2_with fail
  refine (alu_SetX _ n z c v _).mono ?_
  rintro e w1 ⟨rfl, rfl⟩
  clear x1 x2 HR HC HVV
  go_wp2_with fail
  go_region_with (first | (go_at_call 37; refine (alu_told _ _).mono ?_; rintro e w' ⟨rfl, rfl⟩))
  all_goals go_wp2
  all_goals
    rw [HV.out]
    refine bodyPost_ret (v := .tuple #[.int .u32 r, .agg #[.bool (r / 2147483648 == 1), .bool (r == 0), .bool C, .bool V], .bool (decide ((9 : Int) < 12))]) ?_ rfl ⟨rfl, ?_⟩
    · simp [results, Try.results18, go_sem]
    · exact (((((Below.refl _ _).alloc (Nat.le_refl _) _).alloc (by simp) _).alloc (by simp <;> omega) _).alloc (by simp <;> omega) _).drew
set_option maxRecDepth 100000 in
set_option maxHeartbeats 1000000 in
theorem do_sum12 (a b : Int) (n z c v : Bool) (w : World) (h0 : 0 ≤ a) (h1 : a < 4294967296) (h2 : 0 ≤ b) (h3 : b < 4294967296) :
    Calls Try.prog 18 #[.int .i64 12, .int .u32 a, .int .u32 b, .agg #[.bool n, .bool z, .bool c, .bool v]] w fun e w' => e = .returned (resV (ofSum a (inv b) true (decide ((12 : Int) < 12)))) ∧ Below w.heap.size w w' := by
  have x1 := xor_max a h0 h1
  have x2 := xor_max b h2 h3
  have i1 := inv_bd a h0 h1
  have i2 := inv_bd b h2 h3
  obtain ⟨r, hr⟩ : ∃ r, r = addW a (inv b) true := ⟨_, rfl⟩
  obtain ⟨C, hC⟩ : ∃ C, C = addC a (inv b) true := ⟨_, rfl⟩
  obtain ⟨V, hV⟩ : ∃ V, V = addV a (inv b) true := ⟨_, rfl⟩
  have HV := Lib.hid (show resV (ofSum a (inv b) true (decide ((12 : Int) < 12))) = .tuple #[.int .u32 r, .agg #[.bool (r / 2147483648 == 1), .bool (r == 0), .bool C, .bool V], .bool (decide ((12 : Int) < 12))] by rw [hr, hC, hV]; rfl)
  have HR := Lib.hid hr; have HC := Lib.hid hC; have HVV := Lib.hid hV
  clear hr hC hV
  go_enter Try.func18, Try.ntmps18
  go_wp2_with fail
  refine (alu_logic _ _ _ _ (by omega) (by omega) h2 h3).mono ?_
  rintro e w' ⟨rfl, rfl⟩
  rw [show isLogic 12 = false from rfl]
  go_wp2_with fail
  refine (alu_Add _ _ _ _ (by omega) (by omega) (by omega) (by omega)).mono ?_
  rintro e w' ⟨rfl, rfl⟩
  rw [← HR.out, ← HC.out, ← HVV.out]
  go_wp2_with fail
  refine (alu_SetX _ n z c v _).mono ?_
  rintro e w1 ⟨rfl, rfl⟩
  clear x1 x2 HR HC HVV
  go_wp2_with fail
  go_region_with (first | (go_at_call 37; refine (alu_told _ _).mono ?_; rintro e w' ⟨rfl, rfl⟩))
  all_goals go_wp2
  all_goals
    rw [HV.out]
    refine bodyPost_ret (v := .tuple #[.int .u32 r, .agg #[.bool (r / 2147483648 == 1), .bool (r == 0), .bool C, .bool V], .bool (decide ((12 : Int) < 12))]) ?_ rfl ⟨rfl, ?_⟩
    · simp [results, Try.results18, go_sem]
    · exact (((((Below.refl _ _).alloc (Nat.le_refl _) _).alloc (by simp) _).alloc (by simp <;> omega) _).alloc (by simp <;> omega) _).drew
set_option maxRecDepth 100000 in
set_option maxHeartbeats 1000000 in
theorem do_sum13 (a b : Int) (n z c v : Bool) (w : World) (h0 : 0 ≤ a) (h1 : a < 4294967296) (h2 : 0 ≤ b) (h3 : b < 4294967296) :
    Calls Try.prog 18 #[.int .i64 13, .int .u32 a, .int .u32 b, .agg #[.bool n, .bool z, .bool c, .bool v]] w fun e w' => e = .returned (resV (ofSum a b false (decide ((13 : Int) < 12)))) ∧ Below w.heap.size w w' := by
  have x1 := xor_max a h0 h1
  have x2 := xor_max b h2 h3
  have i1 := inv_bd a h0 h1
  have i2 := inv_bd b h2 h3
  obtain ⟨r, hr⟩ : ∃ r, r = addW a b false := ⟨_, rfl⟩
  obtain ⟨C, hC⟩ : ∃ C, C = addC a b false := ⟨_, rfl⟩
  obtain ⟨V, hV⟩ : ∃ V, V = addV a b false := ⟨_, rfl⟩
  have HV := Lib.hid (show resV (ofSum a b false (decide ((13 : Int) < 12))) = .tuple #[.int .u32 r, .agg #[.bool (r / 2147483648 == 1), .bool (r == 0), .bool C, .bool V], .bool (decide ((13 : Int) < 12))] by rw [hr, hC, hV]; rfl)
  have HR := Lib.hid hr; have HC := Lib.hid hC; have HVV := Lib.hid hV
  clear hr hC hV
  go_enter Try.func18, Try.ntmps18
  go_wp2_with fail
  refine (alu_logic _ _ _ _ (by omega) (by omega) h2 h3).mono ?_
  rintro e w' ⟨rfl, rfl⟩
  rw [show isLogic 13 = false from rfl]
  go_wp2_with fail
  refine (alu_Add _ _ _ _ (by omega) (by omega) (by omega) (by omega)).mono ?_
  rintro e w' ⟨rfl, rfl⟩
  rw [← HR.out, ← HC.out, ← HVV.out]
  go_wp2_with fail
  refine (alu_SetX _ n z c v _).mono ?_
  rintro e w1 ⟨rfl, rfl⟩
  clear x1 x2 HR HC HVV
  go_wp2_with fail
  go_region_with (first | (go_at_call 37; refine (alu_told _ _).mono ?_; rintro e w' ⟨rfl, rfl⟩))
  all_goals go_wp2
  all_goals
    rw [HV.out]
    refine bodyPost_ret (v := .tuple #[.int .u32 r, .agg #[.bool (r / 2147483648 == 1), .bool (r == 0), .bool C, .bool V], .bool (decide ((13 : Int) < 12))]) ?_ rfl ⟨rfl, ?_⟩
    · simp [results, Try.results18, go_sem]
    · exact (((((Below.refl _ _).alloc (Nat.le_refl _) _).alloc (by simp) _).alloc (by simp <;> omega) _).alloc (by simp <;> omega) _).drew
set_option maxRecDepth 100000 in
set_option maxHeartbeats 1000000 in
theorem do_none (op a b : Int) (n z c v : Bool) (w : World) (ho : op < 1 ∨ 15 < op) :
    Calls Try.prog 18 #[.int .i64 op, .int .u32 a, .int .u32 b, .agg #[.bool n, .bool z, .bool c, .bool v]] w fun e w' => e = .returned (.tuple #[.int .u32 0, .agg #[.bool n, .bool z, .bool c, .bool v], .bool false]) ∧ Below w.heap.size w w' := by
  by_cases h1 : op < 1
  · clear ho
    go_enter Try.func18, Try.ntmps18
    go_wp2
    go_region
    all_goals go_wp2
    all_goals
      refine bodyPost_ret (v := .tuple #[.int .u32 0, .agg #[.bool n, .bool z, .bool c, .bool v], .bool false]) ?_ rfl ⟨rfl, ?_⟩
      · simp [results, Try.results18, go_sem]
      · exact (((Below.refl _ _).alloc (Nat.le_refl _) _).alloc (by simp) _).drew
  · have h2 : 15 < op := by omega
    clear ho
    go_enter Try.func18, Try.ntmps18
    go_wp2
    go_region
    all_goals go_wp2
    all_goals
      refine bodyPost_ret (v := .tuple #[.int .u32 0, .agg #[.bool n, .bool z, .bool c, .bool v], .bool false]) ?_ rfl ⟨rfl, ?_⟩
      · simp [results, Try.results18, go_sem]
      · exact (((Below.refl _ _).alloc (Nat.le_refl _) _).alloc (by simp) _).drew
theorem doR_none {op a b : Int} {n z c v : Bool} (ho : op < 1 ∨ 15 < op) : doR op a b n z c v = ⟨0, n, z, c, v, false⟩ := by unfold doR; rw [if_pos ho]
theorem doR_logic {op a b : Int} {n z c v : Bool} (h : 1 ≤ op) (h1 : op ≤ 15) (hl : isLogic op = true) : doR op a b n z c v = ofLogic (lgc op a b) c v (decide (op < 12)) := by
  unfold doR; rw [if_neg (by omega), if_pos hl]
theorem alu_Do (op a b : Int) (n z c v : Bool) (w : World) (h0 : 0 ≤ a) (h1 : a < 4294967296) (h2 : 0 ≤ b) (h3 : b < 4294967296) :
    Calls Try.prog 18 #[.int .i64 op, .int .u32 a, .int .u32 b, .agg #[.bool n, .bool z, .bool c, .bool v]] w fun e w' => e = .returned (resV (doR op a b n z c v)) ∧ Below w.heap.size w w' := by
  by_cases ho : op < 1 ∨ 15 < op
  · rw [doR_none ho]; exact do_none op a b n z c v w ho
  · rcases all_ops (by omega : 1 ≤ op) (by omega) with rfl | rfl | rfl | rfl | rfl | rfl | rfl | rfl | rfl | rfl | rfl | rfl | rfl | rfl | rfl
    · exact do_logic 1 a b _ n z c v w (by decide) (by decide) h2 h3 rfl rfl
    · exact do_logic 2 a b _ n z c v w (by decide) (by decide) h2 h3 rfl rfl
    · exact do_logic 3 a b _ n z c v w (by decide) (by decide) h2 h3 rfl rfl
    · exact do_logic 4 a b _ n z c v w (by decide) (by decide) h2 h3 rfl rfl
    · exact do_logic 10 a b _ n z c v w (by decide) (by decide) h2 h3 rfl rfl
    · exact do_logic 11 a b _ n z c v w (by decide) (by decide) h2 h3 rfl rfl
    · exact do_logic 14 a b _ n z c v w (by decide) (by decide) h2 h3 rfl rfl
    · exact do_logic 15 a b _ n z c v w (by decide) (by decide) h2 h3 rfl rfl
    · exact do_sum5 a b n z c v w h0 h1 h2 h3
    · exact do_sum6 a b n z c v w h0 h1 h2 h3
    · exact do_sum7 a b n z c v w h0 h1 h2 h3
    · exact do_sum8 a b n z c v w h0 h1 h2 h3
    · exact do_sum9 a b n z c v w h0 h1 h2 h3
    · exact do_sum12 a b n z c v w h0 h1 h2 h3
    · exact do_sum13 a b n z c v w h0 h1 h2 h3
end Go.Proofs.Ytoippgiahldkmaa
