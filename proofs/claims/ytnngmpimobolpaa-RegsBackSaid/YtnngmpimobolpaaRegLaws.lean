/- The examples of chapter 5 (awake), and the walks of layer 5's statements: each returns true, and the world keeps all that was there. -/
import Derived.Test.YtnngmpimobolpaaRegPrint
import Derived.Test.YtnngmpimobolpaaIntsWalk
namespace Go.Proofs.Ytnngmpimobolpaa
open Go.RowKit Mem
set_option linter.unusedVariables false
theorem xp1 : printOf 16407 = ⟨#[123, 114, 48, 45, 114, 50, 44, 32, 114, 52, 44, 32, 108, 114, 125]⟩ := by decide +kernel
theorem xc1 : ((allTo 16407 16).length : Int) = 5 := by decide
theorem xf1 : regFind ⟨#[114, 49, 51]⟩ = 13 := by decide
theorem xn1 : regName 13 = ⟨#[115, 112]⟩ := by decide
theorem xa1 : allTo 16385 16 = [0, 14] := by decide
theorem xl1 : lowB 255 = true := by decide
theorem xl2 : lowB 256 = false := by decide
theorem lit_two (w : World) (x y : Int) : Ints (w.alloc (.cells #[.int .i64 x, .int .i64 y] 3)) (w.heap.size + 1) (some ⟨w.heap.size, 0, none⟩) 2 [x, y] := by
  refine ⟨rfl, fun _ => ⟨_, rfl, by simp, fun j u hu => ?_⟩⟩
  match j, hu with
  | 0, hu => cases hu; simp [go_sem]
  | 1, hu => cases hu; simp [go_sem]
set_option maxRecDepth 100000 in
set_option maxHeartbeats 2000000 in
theorem awake05 (w : World) :
    Calls Try.prog 16 #[] w fun e w' => e = .returned (.bool true) ∧ Below w.heap.size w w' := by
  go_enter Try.func16, Try.ntmps16
  go_wp2_with fail
  refine (regs_Print _ _).mono ?_
  rintro e w1 ⟨rfl, hb1⟩
  rw [xp1]
  have HB1 := Lib.hid hb1
  clear hb1
  go_wp2_with fail
  refine (regs_Count _ _).mono ?_
  rintro e w2 ⟨rfl, mm, rfl⟩
  rw [xc1]
  obtain ⟨w2, hw2⟩ : ∃ w2, w2 = w1.drewN mm := ⟨_, rfl⟩
  rw [← hw2]
  have HB2 := Lib.hid (show Below w.heap.size w w2 by rw [hw2]; exact below_drewN HB1.out _)
  clear hw2
  go_wp2_with fail
  refine (regs_Find _ _).mono ?_
  rintro e w3 ⟨rfl, hb3⟩
  rw [xf1]
  have HB3 := Lib.hid (HB2.out.trans (hb3.mono HB2.out.size))
  clear hb3
  go_wp2_with fail
  refine (regs_Name _ _ (by omega) (by omega)).mono ?_
  rintro e w4 ⟨rfl, hb4⟩
  rw [xn1]
  have HB4 := Lib.hid (HB3.out.trans (hb4.mono HB3.out.size))
  clear hb4
  go_wp2_with fail
  refine (regs_All _ _).mono ?_
  rintro e w5 ⟨v, rfl, hown, hb5⟩
  rw [xa1] at hown
  obtain ⟨A, cp, rfl, _, hcp⟩ := own_shape hown
  have HB5 := Lib.hid (HB4.out.trans (hb5.mono HB4.out.size))
  have HI := Lib.hid (Ints.of_own hown)
  clear hown hb5
  go_wp2_with fail
  refine (ref_Ints _ _ 2 2 _ _ (w5.heap.size + 1) [0, 14] [0, 14] _ ((HI.out.alloc (Nat.le_refl _) _).more (by omega)) (lit_two w5 0 14) (by omega) (by omega)).mono ?_
  rintro e w6 ⟨rfl, mm6, rfl⟩
  obtain ⟨w6, hw6⟩ : ∃ w6, w6 = (w5.alloc (.cells #[.int .i64 0, .int .i64 14] 3)).drewN mm6 := ⟨_, rfl⟩
  rw [← hw6]
  have HB6 := Lib.hid (show Below w.heap.size w w6 by rw [hw6]; exact below_drewN (HB5.out.alloc HB5.out.size _) _)
  clear hw6
  go_wp2_with fail
  refine (regs_Low _ _).mono ?_
  rintro e w' ⟨rfl, rfl⟩
  rw [xl1]
  go_wp2_with fail
  refine (regs_Low _ _).mono ?_
  rintro e w' ⟨rfl, rfl⟩
  rw [xl2]
  go_wp2
  go_ret
  exact ⟨rfl, HB6.out⟩
set_option maxRecDepth 100000 in
set_option maxHeartbeats 1000000 in
theorem law_RegsNames (r : Int) (s : ByteArray) (w : World) (hk : -9223372036854775808 ≤ r) (hk' : r ≤ 9223372036854775807) :
    Calls Try.prog 3 #[.int .i64 r, .string s] w fun e w' => e = .returned (.bool true) ∧ Below w.heap.size w w' := by
  go_enter Try.func3, Try.ntmps3
  go_wp2_with fail
  refine (regs_Name _ _ hk hk').mono ?_
  rintro e w1 ⟨rfl, hb1⟩
  have HB1 := Lib.hid hb1
  clear hb1
  go_wp2_with fail
  refine (ref05_Name _ _ hk hk').mono ?_
  rintro e w2 ⟨rfl, hb2⟩
  have HB2 := Lib.hid (HB1.out.trans (hb2.mono HB1.out.size))
  clear hb2
  go_wp2_with fail
  refine (regs_Find _ _).mono ?_
  rintro e w3 ⟨rfl, hb3⟩
  have HB3 := Lib.hid (HB2.out.trans (hb3.mono HB2.out.size))
  clear hb3
  go_wp2_with fail
  refine (ref05_Find _ _).mono ?_
  rintro e w4 ⟨rfl, hb4⟩
  have HB4 := Lib.hid (HB3.out.trans (hb4.mono HB3.out.size))
  clear hb4
  go_wp2_with fail
  refine (awake05 _).mono ?_
  rintro e w5 ⟨rfl, hb5⟩
  have HB5 := Lib.hid (HB4.out.trans (hb5.mono HB4.out.size))
  clear hb5
  go_wp2
  go_ret
  exact ⟨rfl, HB5.out⟩
set_option maxRecDepth 100000 in
set_option maxHeartbeats 1000000 in
theorem law_RegsPrints (list : Int) (w : World) :
    Calls Try.prog 5 #[.int .i64 list] w fun e w' => e = .returned (.bool true) ∧ Below w.heap.size w w' := by
  go_enter Try.func5, Try.ntmps5
  go_wp2_with fail
  refine (regs_Print _ _).mono ?_
  rintro e w1 ⟨rfl, hb1⟩
  have HB1 := Lib.hid hb1
  clear hb1
  go_wp2_with fail
  refine (ref05_Print _ _).mono ?_
  rintro e w2 ⟨rfl, hb2⟩
  have HB2 := Lib.hid (HB1.out.trans (hb2.mono HB1.out.size))
  clear hb2
  go_wp2_with fail
  refine (awake05 _).mono ?_
  rintro e w5 ⟨rfl, hb5⟩
  have HB5 := Lib.hid (HB2.out.trans (hb5.mono HB2.out.size))
  clear hb5
  go_wp2
  go_ret
  exact ⟨rfl, HB5.out⟩
set_option maxRecDepth 100000 in
set_option maxHeartbeats 1000000 in
theorem law_RegsLists (list : Int) (w : World) :
    Calls Try.prog 4 #[.int .i64 list] w fun e w' => e = .returned (.bool true) ∧ Below w.heap.size w w' := by
  have hlen := allTo_len list 16
  go_enter Try.func4, Try.ntmps4
  go_wp2_with fail
  refine (regs_Count _ _).mono ?_
  rintro e w1 ⟨rfl, mm, rfl⟩
  obtain ⟨w1, hw1⟩ : ∃ w1, w1 = w.drewN mm := ⟨_, rfl⟩
  rw [← hw1]
  have HB1 := Lib.hid (show Below w.heap.size w w1 by rw [hw1]; exact below_drewN (Below.refl _ _) _)
  clear hw1
  go_wp2_with fail
  refine (ref_Count _ _).mono ?_
  rintro e w2 ⟨rfl, hb2⟩
  have HB2 := Lib.hid (HB1.out.trans (hb2.mono HB1.out.size))
  clear hb2
  go_wp2_with fail
  refine (regs_All _ _).mono ?_
  rintro e w3 ⟨v, rfl, hown, hb3⟩
  obtain ⟨A1, cp1, rfl, _, hcp⟩ := own_shape hown
  have HI := Lib.hid (Ints.of_own hown)
  have HB3 := Lib.hid (HB2.out.trans (hb3.mono HB2.out.size))
  clear hown hb3
  go_wp2_with fail
  refine (ref_All _ _).mono ?_
  rintro e w4 ⟨v, rfl, hown, hb4⟩
  obtain ⟨A2, cp2, rfl, _, hcp2⟩ := own_shape hown
  have HI2 := Lib.hid (Ints.of_own hown)
  have HI1 := Lib.hid ((HI.out.below hb4).more hb4.size)
  have HB4 := Lib.hid (HB3.out.trans (hb4.mono HB3.out.size))
  clear hown hb4
  go_wp2_with fail
  refine (ref_Ints _ _ _ _ _ _ _ _ _ _ HI1.out HI2.out (by omega) (by omega)).mono ?_
  rintro e w5 ⟨rfl, m5, rfl⟩
  obtain ⟨w5, hw5⟩ : ∃ w5, w5 = w4.drewN m5 := ⟨_, rfl⟩
  rw [← hw5]
  have HB5 := Lib.hid (show Below w.heap.size w w5 by rw [hw5]; exact below_drewN HB4.out _)
  clear hw5
  go_wp2_with (first | (go_at_call 22; refine (regs_Low _ _).mono ?_; rintro e w' ⟨rfl, rfl⟩) | (go_at_call 23; refine (ref_Low _ _).mono ?_; rintro e w' ⟨rfl, rfl⟩))
  refine (awake05 _).mono ?_
  rintro e w6 ⟨rfl, hb6⟩
  have HB6 := Lib.hid (HB5.out.trans (hb6.mono HB5.out.size))
  clear hb6
  go_wp2
  go_ret
  exact ⟨rfl, HB6.out⟩
theorem back_reg {r : Int} (h0 : 0 ≤ r) (h1 : r ≤ 15) : regFind (regName r) = r := by
  rcases all_regs h0 h1 with rfl | rfl | rfl | rfl | rfl | rfl | rfl | rfl | rfl | rfl | rfl | rfl | rfl | rfl | rfl | rfl <;> decide
set_option maxRecDepth 100000 in
set_option maxHeartbeats 1000000 in
theorem law_RegsBack (r : Int) (w : World) (hk : -9223372036854775808 ≤ r) (hk' : r ≤ 9223372036854775807) :
    Calls Try.prog 6 #[.int .i64 r] w fun e w' => e = .returned (.bool true) ∧ Below w.heap.size w w' := by
  by_cases h : r < 0 ∨ 15 < r
  · have HE := Lib.hid (regName_none h)
    rcases h with h | h
    all_goals
      go_enter Try.func6, Try.ntmps6
      go_wp2_with fail
      refine (regs_Name _ _ hk hk').mono ?_
      rintro e w1 ⟨rfl, hb1⟩
      rw [HE.out]
      have HB1 := Lib.hid hb1
      clear hb1
      go_wp2_with fail
      refine (awake05 _).mono ?_
      rintro e w5 ⟨rfl, hb5⟩
      have HB5 := Lib.hid (HB1.out.trans (hb5.mono HB1.out.size))
      clear hb5
      go_wp2
      go_ret
      exact ⟨rfl, HB5.out⟩
  · have h0 : 0 ≤ r := by omega
    have h1 : r ≤ 15 := by omega
    have HE := Lib.hid (back_reg h0 h1)
    clear h
    go_enter Try.func6, Try.ntmps6
    go_wp2_with fail
    refine (regs_Name _ _ hk hk').mono ?_
    rintro e w1 ⟨rfl, hb1⟩
    have HB1 := Lib.hid hb1
    clear hb1
    go_wp2_with fail
    refine (regs_Find _ _).mono ?_
    rintro e w2 ⟨rfl, hb2⟩
    rw [HE.out]
    have HB2 := Lib.hid (HB1.out.trans (hb2.mono HB1.out.size))
    clear hb2
    go_wp2_with fail
    refine (awake05 _).mono ?_
    rintro e w5 ⟨rfl, hb5⟩
    have HB5 := Lib.hid (HB2.out.trans (hb5.mono HB2.out.size))
    clear hb5
    go_wp2
    go_ret
    exact ⟨rfl, HB5.out⟩
end Go.Proofs.Ytnngmpimobolpaa
