/- The walk of layer 1's statement BitsBack: it returns true, and the world keeps all that was there. -/
import Derived.Test.YtolkpoohpimkhaaBitsLaws
import Derived.Deep.QuietTactic
import Derived.BigQuiet
namespace Go.Proofs.Ytolkpoohpimkhaa
open Go.RowKit Mem
set_option linter.unusedVariables false
theorem back_facts (x v : Nat) (a b : Nat) (h : b ≤ a) (h1 : a ≤ 31) (hx : x < 4294967296) :
    Num.putW (Num.putW x a b v) a b (Num.getW x a b) = x ∧ Num.getW (Num.putW x a b v) a b = Num.getW v ((a : Int) - b) 0 ∧
    (0 < b → Num.getW (Num.putW x a b v) ((b : Int) - 1) 0 = Num.getW x ((b : Int) - 1) 0) ∧ (a < 31 → Num.getW (Num.putW x a b v) 31 ((a : Int) + 1) = Num.getW x 31 ((a : Int) + 1)) := by
  have hy := Num.put_lt x a b v h h1 hx
  rw [putW_in x a b v h h1, getW_in x a b h h1, putW_in _ a b _ h h1, getW_in _ a b h h1]
  refine ⟨by rw [Num.put_put x a b v h h1 hx], ?_, fun h2 => ?_, fun h2 => ?_⟩
  · rw [show (a : Int) - b = ((a - b : Nat) : Int) by omega, show (0 : Int) = ((0 : Nat) : Int) from rfl, getW_in v (a - b) 0 (by omega) (by omega), Num.get_put x a b v h h1 hx]
  · rw [show (b : Int) - 1 = ((b - 1 : Nat) : Int) by omega, show (0 : Int) = ((0 : Nat) : Int) from rfl, getW_in _ (b - 1) 0 (by omega) (by omega), getW_in _ (b - 1) 0 (by omega) (by omega), Num.get_put_low x a b v h h1 hx h2]
  · rw [show (a : Int) + 1 = ((a + 1 : Nat) : Int) by omega, show (31 : Int) = ((31 : Nat) : Int) from rfl, getW_in _ 31 (a + 1) (by omega) (by omega), getW_in _ 31 (a + 1) (by omega) (by omega), Num.get_put_high x a b v h h2 hx]
theorem back_ints (x v hi lo : Int) (h0 : 0 ≤ x) (h1 : x < 4294967296) (hv : 0 ≤ v) (h : Num.inW hi lo = true) :
    Num.putW (Num.putW x hi lo v) hi lo (Num.getW x hi lo) = x ∧ Num.getW (Num.putW x hi lo v) hi lo = Num.getW v (hi - lo) 0 ∧
    (0 < lo → Num.getW (Num.putW x hi lo v) (lo - 1) 0 = Num.getW x (lo - 1) 0) ∧ (hi < 31 → Num.getW (Num.putW x hi lo v) 31 (hi + 1) = Num.getW x 31 (hi + 1)) := by
  obtain ⟨a, b, rfl, rfl, h2, h3⟩ := nats h
  obtain ⟨x, rfl⟩ := Int.eq_ofNat_of_zero_le h0
  obtain ⟨v, rfl⟩ := Int.eq_ofNat_of_zero_le hv
  obtain ⟨f1, f2, f3, f4⟩ := back_facts x v a b h2 h3 (by omega)
  exact ⟨f1, f2, fun h => f3 (by omega), fun h => f4 (by omega)⟩
theorem bne_of {a b : Int} (h : a = b) : (a != b) = false := by simp [h]
theorem beq_of_eq {a b : Int} (h : a = b) : (a == b) = true := by simp [h]
set_option maxRecDepth 100000 in
set_option maxHeartbeats 2000000 in
theorem law_BitsBack (x v n0 n1 : Int) (w : World) (h0 : 0 ≤ x) (h1 : x < 4294967296) (hv : 0 ≤ v) (hv' : v < 4294967296) (ha : -9223372036854775808 ≤ n0) (ha' : n0 ≤ 9223372036854775807) (hb : -9223372036854775808 ≤ n1) (hb' : n1 ≤ 9223372036854775807) :
    Calls Try.prog 11 #[.int .u32 x, .int .u32 v, .agg #[.int .i64 n0, .int .i64 n1]] w fun e w' => e = .returned (.bool true) ∧ Below w.heap.size w w' := by
  cases h : Num.inW n0 n1 with
  | false =>
    have e1 := putW_out (x := x) (v := v) h
    have e2 := getW_out (x := x) h
    rcases out_cases h with h | ⟨h, h3⟩ | ⟨h, h3, h4⟩
    all_goals
      go_enter Try.func11, Try.ntmps11
      go_wp2
      go_quiet (fail)
      go_wp2_with (first | (go_at_call 21; refine (bits_Get _ _ _ _ (by omega) (by omega) (by omega) (by omega) (by omega) (by omega)).mono ?_; rintro e w' ⟨rfl, rfl⟩) | (go_at_call 23; refine (bits_Put _ _ _ _ _ (by omega) (by omega) (by omega) (by omega) (by omega) (by omega) (by omega) (by omega)).mono ?_; rintro e w' ⟨rfl, rfl⟩) | (go_at_call 25; refine (awake1 _).mono ?_; rintro e w1 ⟨rfl, hbw⟩))
      go_ret
      exact ⟨rfl, (below_drewN ((Below.refl _ _).alloc (Nat.le_refl _) _) _).trans (hbw.mono (by simp))⟩
  | true =>
    obtain ⟨f1, f2, f3, f4⟩ := back_ints x v n0 n1 h0 h1 hv h
    obtain ⟨i1, i2, i3⟩ := (Num.inW_iff n0 n1).1 h
    clear h
    have hyb := putW_bd x n0 n1 v h0 h1 hv
    have hgb := getW_bd x n0 n1 h0 h1
    have g1 := bne_of f1
    have g2 := bne_of f2
    clear f1 f2
    by_cases hb0 : 0 < n1
    · have g3 := bne_of (f3 hb0)
      clear f3
      by_cases ha31 : n0 < 31
      · have g4 := beq_of_eq (f4 ha31)
        have q1 : (n0 == 31) = false := by simp; omega
        clear f4
        go_enter Try.func11, Try.ntmps11
        go_wp2
        go_quiet (fail)
        go_wp2_with (first | (go_at_call 21; refine (bits_Get _ _ _ _ (by omega) (by omega) (by omega) (by omega) (by omega) (by omega)).mono ?_; rintro e w' ⟨rfl, rfl⟩) | (go_at_call 23; refine (bits_Put _ _ _ _ _ (by omega) (by omega) (by omega) (by omega) (by omega) (by omega) (by omega) (by omega)).mono ?_; rintro e w' ⟨rfl, rfl⟩) | (go_at_call 25; refine (awake1 _).mono ?_; rintro e w1 ⟨rfl, hbw⟩))
        go_ret
        exact ⟨rfl, (below_drewN ((Below.refl _ _).alloc (Nat.le_refl _) _) _).trans (hbw.mono (by simp))⟩
      · have q1 : (n0 == 31) = true := by simp; omega
        clear f4
        go_enter Try.func11, Try.ntmps11
        go_wp2
        go_quiet (fail)
        go_wp2_with (first | (go_at_call 21; refine (bits_Get _ _ _ _ (by omega) (by omega) (by omega) (by omega) (by omega) (by omega)).mono ?_; rintro e w' ⟨rfl, rfl⟩) | (go_at_call 23; refine (bits_Put _ _ _ _ _ (by omega) (by omega) (by omega) (by omega) (by omega) (by omega) (by omega) (by omega)).mono ?_; rintro e w' ⟨rfl, rfl⟩) | (go_at_call 25; refine (awake1 _).mono ?_; rintro e w1 ⟨rfl, hbw⟩))
        go_ret
        exact ⟨rfl, (below_drewN ((Below.refl _ _).alloc (Nat.le_refl _) _) _).trans (hbw.mono (by simp))⟩
    · clear f3
      by_cases ha31 : n0 < 31
      · have g4 := beq_of_eq (f4 ha31)
        have q1 : (n0 == 31) = false := by simp; omega
        clear f4
        go_enter Try.func11, Try.ntmps11
        go_wp2
        go_quiet (fail)
        go_wp2_with (first | (go_at_call 21; refine (bits_Get _ _ _ _ (by omega) (by omega) (by omega) (by omega) (by omega) (by omega)).mono ?_; rintro e w' ⟨rfl, rfl⟩) | (go_at_call 23; refine (bits_Put _ _ _ _ _ (by omega) (by omega) (by omega) (by omega) (by omega) (by omega) (by omega) (by omega)).mono ?_; rintro e w' ⟨rfl, rfl⟩) | (go_at_call 25; refine (awake1 _).mono ?_; rintro e w1 ⟨rfl, hbw⟩))
        go_ret
        exact ⟨rfl, (below_drewN ((Below.refl _ _).alloc (Nat.le_refl _) _) _).trans (hbw.mono (by simp))⟩
      · have q1 : (n0 == 31) = true := by simp; omega
        clear f4
        go_enter Try.func11, Try.ntmps11
        go_wp2
        go_quiet (fail)
        go_wp2_with (first | (go_at_call 21; refine (bits_Get _ _ _ _ (by omega) (by omega) (by omega) (by omega) (by omega) (by omega)).mono ?_; rintro e w' ⟨rfl, rfl⟩) | (go_at_call 23; refine (bits_Put _ _ _ _ _ (by omega) (by omega) (by omega) (by omega) (by omega) (by omega) (by omega) (by omega)).mono ?_; rintro e w' ⟨rfl, rfl⟩) | (go_at_call 25; refine (awake1 _).mono ?_; rintro e w1 ⟨rfl, hbw⟩))
        go_ret
        exact ⟨rfl, (below_drewN ((Below.refl _ _).alloc (Nat.le_refl _) _) _).trans (hbw.mono (by simp))⟩
end Go.Proofs.Ytolkpoohpimkhaa
