/- Contracts of Find and of its reference, of the examples (awake), and the walks of layer 2's five statements: each returns true. -/
import Derived.Test.YtolkpoohpimkhaaExpandWalks
namespace Go.Proofs.Ytolkpoohpimkhaa
open Go.RowKit
set_option linter.unusedVariables false
def findV (x : Int) : Value := match Num.find x with
  | some k => .tuple #[.int .i64 (k : Int), .bool true]
  | none => .tuple #[.int .i64 0, .bool false]
theorem findV_some {x : Int} {k : Nat} (h : Num.find x = some k) : findV x = .tuple #[.int .i64 (k : Int), .bool true] := by unfold findV; rw [h]
theorem findV_none {x : Int} (h : Num.find x = none) : findV x = .tuple #[.int .i64 0, .bool false] := by unfold findV; rw [h]
theorem find_none_of {x : Int} (h : ∀ j : Nat, j < 4096 → Num.hits x j = false) : Num.find x = none := by
  cases e : Num.find x with
  | none => rfl
  | some k => obtain ⟨a, b, _⟩ := Num.find_some e; rw [h k a] at b; cases b
theorem hits_yes {x i : Int} (hv : Num.valid i = true) (he : (Num.expand i == x) = true) : Num.hits x i = true := by
  unfold Num.hits; simp only [beq_iff_eq] at he; rw [hv, he]; simp
theorem hits_no {x i : Int} (h : Num.valid i = false ∨ (Num.expand i == x) = false) : Num.hits x i = false := by
  unfold Num.hits
  rcases h with h | h
  · rw [h]; rfl
  · simp only [beq_eq_false_iff_ne, ne_eq] at h; simp [h]
theorem ext_hits {x : Int} {k : Nat} (h : ∀ j : Nat, j < k → Num.hits x j = false) (hk : Num.hits x k = false) : ∀ j : Nat, j < k + 1 → Num.hits x j = false := by
  intro j hj
  by_cases e : j = k
  · rw [e]; exact hk
  · exact h j (by omega)
theorem ret_of {a b : Value} (h : b = a) : Ending.returned a = .returned b := by rw [h]

set_option maxRecDepth 100000 in
set_option maxHeartbeats 400000 in
theorem expand_Find (x : Int) (w : World) (h0 : 0 ≤ x) (h1 : x < 4294967296) :
    Calls Try.prog 19 #[.int .u32 x] w fun e w' => e = .returned (findV x) ∧ w = w' := by
  obtain ⟨r, hr⟩ : ∃ r, r = findV x := ⟨_, rfl⟩
  rw [← hr]
  have HR := Lib.hid hr
  clear hr
  go_enter Try.func19, Try.ntmps19
  go_wp2
  go_loop [5] (fun i => ∃ k : Nat, k ≤ 4096 ∧ i = .int .i64 k ∧ ∀ j : Nat, j < k → Num.hits x j = false) (fun i => 4096 - (intOf i).toNat)
  case atStart => exact ⟨0, by omega, rfl, fun j h => by omega⟩
  case round =>
    obtain ⟨k, hk, rfl, hno⟩ := hrel
    have HN := Lib.hid hno
    clear hno
    by_cases hlt : k < 4096
    · cases hv : Num.valid k with
      | false =>
        go_wp2_with (go_at_call 16; refine (expand_Valid _ _ (by omega) (by omega)).mono ?_; rintro e w' ⟨rfl, rfl⟩)
        go_round
        case rel => exact ⟨k + 1, by omega, by go_num, ext_hits HN.out (hits_no (.inl hv))⟩
        case measure => simp [intOf]; omega
      | true =>
        cases he : (Num.expand k == x) with
        | false =>
          go_wp2_with (first | (go_at_call 16; refine (expand_Valid _ _ (by omega) (by omega)).mono ?_; rintro e w' ⟨rfl, rfl⟩) | (go_at_call 14; refine (expand_Expand _ _ (by omega) (by omega)).mono ?_; rintro e w' ⟨rfl, rfl⟩))
          go_round
          case rel => exact ⟨k + 1, by omega, by go_num, ext_hits HN.out (hits_no (.inr he))⟩
          case measure => simp [intOf]; omega
        | true =>
          have HF := Lib.hid (findV_some (Num.find_of (hits_yes hv he) hlt HN.out))
          go_wp2_with (first | (go_at_call 16; refine (expand_Valid _ _ (by omega) (by omega)).mono ?_; rintro e w' ⟨rfl, rfl⟩) | (go_at_call 14; refine (expand_Expand _ _ (by omega) (by omega)).mono ?_; rintro e w' ⟨rfl, rfl⟩))
          go_ret2
          exact ⟨ret_of (HR.out.trans HF.out), rfl⟩
    · obtain rfl : k = 4096 := by omega
      have HF := Lib.hid (findV_none (find_none_of HN.out))
      go_wp2
      go_ret2
      exact ⟨ret_of (HR.out.trans HF.out), rfl⟩

set_option maxRecDepth 100000 in
set_option maxHeartbeats 400000 in
theorem ref_Find (x : Int) (w : World) (h0 : 0 ≤ x) (h1 : x < 4294967296) :
    Calls Try.prog 20 #[.int .u32 x] w fun e w' => e = .returned (findV x) ∧ w = w' := by
  obtain ⟨r, hr⟩ : ∃ r, r = findV x := ⟨_, rfl⟩
  rw [← hr]
  have HR := Lib.hid hr
  clear hr
  go_enter Try.func20, Try.ntmps20
  go_wp2
  go_loop [4] (fun i => ∃ k : Nat, k ≤ 4096 ∧ i = .int .i64 k ∧ ∀ j : Nat, j < k → Num.hits x j = false) (fun i => 4096 - (intOf i).toNat)
  case atStart => exact ⟨0, by omega, rfl, fun j h => by omega⟩
  case round =>
    obtain ⟨k, hk, rfl, hno⟩ := hrel
    have HN := Lib.hid hno
    clear hno
    by_cases hlt : k < 4096
    · cases hv : Num.valid k with
      | false =>
        go_wp2_with (go_at_call 17; refine (ref_Valid _ _ (by omega) (by omega)).mono ?_; rintro e w' ⟨rfl, rfl⟩)
        go_round
        case rel => exact ⟨k + 1, by omega, by go_num, ext_hits HN.out (hits_no (.inl hv))⟩
        case measure => simp [intOf]; omega
      | true =>
        cases he : (Num.expand k == x) with
        | false =>
          go_wp2_with (first | (go_at_call 17; refine (ref_Valid _ _ (by omega) (by omega)).mono ?_; rintro e w' ⟨rfl, rfl⟩) | (go_at_call 15; refine (ref_Expand _ _ (by omega) (by omega)).mono ?_; rintro e w' ⟨rfl, rfl⟩))
          go_round
          case rel => exact ⟨k + 1, by omega, by go_num, ext_hits HN.out (hits_no (.inr he))⟩
          case measure => simp [intOf]; omega
        | true =>
          have HF := Lib.hid (findV_some (Num.find_of (hits_yes hv he) hlt HN.out))
          go_wp2_with (first | (go_at_call 17; refine (ref_Valid _ _ (by omega) (by omega)).mono ?_; rintro e w' ⟨rfl, rfl⟩) | (go_at_call 15; refine (ref_Expand _ _ (by omega) (by omega)).mono ?_; rintro e w' ⟨rfl, rfl⟩))
          go_ret2
          exact ⟨ret_of (HR.out.trans HF.out), rfl⟩
    · obtain rfl : k = 4096 := by omega
      have HF := Lib.hid (findV_none (find_none_of HN.out))
      go_wp2
      go_ret2
      exact ⟨ret_of (HR.out.trans HF.out), rfl⟩

theorem e400 : Num.expand 1024 = 2147483648 := by decide +kernel
theorem v101 : Num.valid 257 = true := by decide +kernel
theorem v100 : Num.valid 256 = false := by decide +kernel
set_option maxRecDepth 100000 in
set_option maxHeartbeats 400000 in
theorem awake2 (w : World) :
    Calls Try.prog 18 #[] w fun e w' => e = .returned (.bool true) ∧ w = w' := by
  have f1 := findV_some Num.find_examples.1
  have f2 := findV_none Num.find_examples.2
  have e1 := e400
  have e2 := v101
  have e3 := v100
  go_enter Try.func18, Try.ntmps18
  go_wp2_with (first | (go_at_call 19; refine (expand_Find _ _ (by omega) (by omega)).mono ?_; rintro e w' ⟨rfl, rfl⟩; simp only [f1, f2]) | (go_at_call 16; refine (expand_Valid _ _ (by omega) (by omega)).mono ?_; rintro e w' ⟨rfl, rfl⟩) | (go_at_call 14; refine (expand_Expand _ _ (by omega) (by omega)).mono ?_; rintro e w' ⟨rfl, rfl⟩))
  go_ret
  exact ⟨rfl, rfl⟩
set_option maxRecDepth 100000 in
set_option maxHeartbeats 400000 in
theorem law_ExpandExpands (n : Int) (w : World) (hn : -9223372036854775808 ≤ n) (hn' : n ≤ 9223372036854775807) :
    Calls Try.prog 3 #[.int .i64 n] w fun e w' => e = .returned (.bool true) ∧ w = w' := by
  go_enter Try.func3, Try.ntmps3
  go_wp2_with (first | (go_at_call 14; refine (expand_Expand _ _ (by omega) (by omega)).mono ?_; rintro e w' ⟨rfl, rfl⟩) | (go_at_call 15; refine (ref_Expand _ _ (by omega) (by omega)).mono ?_; rintro e w' ⟨rfl, rfl⟩) | (go_at_call 16; refine (expand_Valid _ _ (by omega) (by omega)).mono ?_; rintro e w' ⟨rfl, rfl⟩) | (go_at_call 17; refine (ref_Valid _ _ (by omega) (by omega)).mono ?_; rintro e w' ⟨rfl, rfl⟩) | (go_at_call 18; refine (awake2 _).mono ?_; rintro e w' ⟨rfl, rfl⟩))
  go_ret
  exact ⟨rfl, rfl⟩
set_option maxRecDepth 100000 in
set_option maxHeartbeats 400000 in
theorem law_ExpandFinds (x : Int) (w : World) (h0 : 0 ≤ x) (h1 : x < 4294967296) :
    Calls Try.prog 4 #[.int .u32 x] w fun e w' => e = .returned (.bool true) ∧ w = w' := by
  obtain ⟨a, b, hf⟩ : ∃ (a : Int) (b : Bool), findV x = .tuple #[.int .i64 a, .bool b] := by
    cases e : Num.find x with
    | none => exact ⟨_, _, findV_none e⟩
    | some k => exact ⟨_, _, findV_some e⟩
  go_enter Try.func4, Try.ntmps4
  go_wp2_with (first | (go_at_call 19; refine (expand_Find _ _ (by omega) (by omega)).mono ?_; rintro e w' ⟨rfl, rfl⟩; rw [hf]) | (go_at_call 20; refine (ref_Find _ _ (by omega) (by omega)).mono ?_; rintro e w' ⟨rfl, rfl⟩; rw [hf]) | (go_at_call 18; refine (awake2 _).mono ?_; rintro e w' ⟨rfl, rfl⟩))
  go_ret
  exact ⟨rfl, rfl⟩
theorem invalid_of {n : Int} (h : Num.valid n = false) : n < 0 ∨ 4095 < n ∨ n % 256 = 0 := by
  unfold Num.valid at h; simp at h; omega
set_option maxRecDepth 100000 in
set_option maxHeartbeats 400000 in
theorem law_ExpandBack (n : Int) (w : World) (hn : -9223372036854775808 ≤ n) (hn' : n ≤ 9223372036854775807) :
    Calls Try.prog 5 #[.int .i64 n] w fun e w' => e = .returned (.bool true) ∧ w = w' := by
  cases hv : Num.valid n with
  | false =>
    have h255 := Num.i64_and255 n
    rcases invalid_of hv with h | h | h
    · go_enter Try.func5, Try.ntmps5
      go_wp2_with (first | (go_at_call 16; refine (expand_Valid _ _ (by omega) (by omega)).mono ?_; rintro e w' ⟨rfl, rfl⟩) | (go_at_call 18; refine (awake2 _).mono ?_; rintro e w' ⟨rfl, rfl⟩))
      go_ret
      exact ⟨rfl, rfl⟩
    · by_cases hneg : n < 0
      · omega
      · go_enter Try.func5, Try.ntmps5
        go_wp2_with (first | (go_at_call 16; refine (expand_Valid _ _ (by omega) (by omega)).mono ?_; rintro e w' ⟨rfl, rfl⟩) | (go_at_call 18; refine (awake2 _).mono ?_; rintro e w' ⟨rfl, rfl⟩))
        go_ret
        exact ⟨rfl, rfl⟩
    · have hb : (n % 256 == 0) = true := by simp [h]
      clear h
      go_enter Try.func5, Try.ntmps5
      go_wp2_with (first | (go_at_call 16; refine (expand_Valid _ _ (by omega) (by omega)).mono ?_; rintro e w' ⟨rfl, rfl⟩) | (go_at_call 18; refine (awake2 _).mono ?_; rintro e w' ⟨rfl, rfl⟩))
      all_goals go_ret
      all_goals exact ⟨rfl, rfl⟩
  | true =>
    obtain ⟨i, rfl⟩ := Int.eq_ofNat_of_zero_le (Num.valid_lt hv).1
    obtain ⟨k, e1, e2, e3, e4⟩ := Num.find_back i hv
    have hl := (Num.valid_lt e3).2
    have hb := Num.expand_bd (i : Int)
    have hf := findV_some e1
    have he : (Num.expand k == Num.expand i) = true := by simp [e4]
    clear e1 e4
    go_enter Try.func5, Try.ntmps5
    go_wp2_with (first | (go_at_call 19; refine (expand_Find _ _ (by omega) (by omega)).mono ?_; rintro e w' ⟨rfl, rfl⟩; rw [hf]) | (go_at_call 14; refine (expand_Expand _ _ (by omega) (by omega)).mono ?_; rintro e w' ⟨rfl, rfl⟩) | (go_at_call 16; refine (expand_Valid _ _ (by omega) (by omega)).mono ?_; rintro e w' ⟨rfl, rfl⟩) | (go_at_call 18; refine (awake2 _).mono ?_; rintro e w' ⟨rfl, rfl⟩))
    go_ret
    exact ⟨rfl, rfl⟩
set_option maxRecDepth 100000 in
set_option maxHeartbeats 400000 in
theorem law_ExpandByte (b : Int) (w : World) (h0 : 0 ≤ b) (h1 : b < 256) :
    Calls Try.prog 6 #[.int .u8 b] w fun e w' => e = .returned (.bool true) ∧ w = w' := by
  obtain ⟨i, rfl⟩ := Int.eq_ofNat_of_zero_le h0
  obtain ⟨e1, e2⟩ := Num.find_byte i (by omega)
  have hf := findV_some e1
  clear e1
  go_enter Try.func6, Try.ntmps6
  go_wp2_with (first | (go_at_call 19; refine (expand_Find _ _ (by omega) (by omega)).mono ?_; rintro e w' ⟨rfl, rfl⟩; rw [hf]) | (go_at_call 14; refine (expand_Expand _ _ (by omega) (by omega)).mono ?_; rintro e w' ⟨rfl, rfl⟩) | (go_at_call 18; refine (awake2 _).mono ?_; rintro e w' ⟨rfl, rfl⟩))
  go_ret
  exact ⟨rfl, rfl⟩
end Go.Proofs.Ytolkpoohpimkhaa
