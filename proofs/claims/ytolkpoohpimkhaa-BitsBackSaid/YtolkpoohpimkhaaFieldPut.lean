/- The contract of the reference's Put: other bits in a word; the world stays as it was. Conditions: the arguments fit their kinds. -/
import Derived.Test.YtolkpoohpimkhaaFieldWalks
namespace Go.Proofs.Ytolkpoohpimkhaa
open Go.RowKit
set_option linter.unusedVariables false
def PutRel (x a b v : Nat) (u vv iv : Value) : Prop := ∃ (i X V : Nat), b ≤ i ∧ i ≤ a + 1 ∧ iv = .int .i64 (i : Int) ∧ u = .int .u32 (X : Int) ∧ vv = .int .u32 (V : Int) ∧ (X : Int) < 4294967296 ∧ (V : Int) < 4294967296 ∧ V = v / 2 ^ (i - b) ∧ ∀ t, X.testBit t = if b ≤ t ∧ t < i then v.testBit (t - b) else x.testBit t
theorem step_bit {x b v i X X' : Nat} (h : ∀ t, X.testBit t = if b ≤ t ∧ t < i then v.testBit (t - b) else x.testBit t) (hb : b ≤ i)
    (hX : ∀ t, X'.testBit t = if t = i then v.testBit (i - b) else X.testBit t) : ∀ t, X'.testBit t = if b ≤ t ∧ t < i + 1 then v.testBit (t - b) else x.testBit t := by
  intro t
  rw [hX t]
  by_cases e : t = i
  · subst e; rw [if_pos rfl, if_pos ⟨hb, by omega⟩]
  · rw [if_neg e, h t]
    by_cases c : b ≤ t ∧ t < i
    · rw [if_pos c, if_pos ⟨c.1, by omega⟩]
    · rw [if_neg c, if_neg (by omega)]
theorem clear_bit (X i : Nat) (hX : X < 4294967296) (hi : i < 32) (t : Nat) : (X &&& (4294967295 - 2 ^ i)).testBit t = if t = i then false else X.testBit t := by
  have hp : 2 ^ i < 2 ^ 32 := Nat.pow_lt_pow_right (by decide) hi
  rw [Nat.testBit_and, Num.not_bit _ _ hp, Nat.testBit_two_pow]
  by_cases e : t = i
  · subst e; simp
  · have e' : ¬ i = t := fun h => e h.symm
    by_cases h3 : t < 32
    · simp [e, e', h3]
    · have : X.testBit t = false := Nat.testBit_lt_two_pow (Nat.lt_of_lt_of_le (show X < 2 ^ 32 by omega) (Nat.pow_le_pow_right (by decide) (by omega)))
      simp [e, this]
theorem set_bit (X i : Nat) (hX : X < 4294967296) (hi : i < 32) (t : Nat) : ((X &&& (4294967295 - 2 ^ i)) ||| 2 ^ i).testBit t = if t = i then true else X.testBit t := by
  rw [Nat.testBit_or, clear_bit X i hX hi t, Nat.testBit_two_pow]
  by_cases e : t = i
  · subst e; simp
  · have e' : ¬ i = t := fun h => e h.symm
    simp [e, e']
theorem pow_mod (i : Nat) (hi : i < 32) : (2 : Int) ^ i % 4294967296 = ((2 ^ i : Nat) : Int) := by
  have hp : (2 : Nat) ^ i < 2 ^ 32 := Nat.pow_lt_pow_right (by decide) hi
  have e : ((2 ^ i : Nat) : Int) = (2 : Int) ^ i := by simp
  rw [← e]; exact Int.emod_eq_of_lt (Int.natCast_nonneg _) (Int.ofNat_lt.2 (show 2 ^ i < 4294967296 from hp))
theorem low_bit (v j : Nat) : v.testBit j = decide (v / 2 ^ j % 2 = 1) := by
  rw [Nat.testBit_eq_decide_div_mod_eq]
set_option maxRecDepth 100000 in
set_option maxHeartbeats 400000 in
theorem ref_Put (x hi lo v : Int) (w : World) (h0 : 0 ≤ x) (h1 : x < 4294967296) (hv : 0 ≤ v) (hv' : v < 4294967296) (hl : -9223372036854775808 ≤ lo) (hl' : lo ≤ 9223372036854775807) (hh : -9223372036854775808 ≤ hi) (hh' : hi ≤ 9223372036854775807) :
    Calls Try.prog 24 #[.int .u32 x, .int .i64 hi, .int .i64 lo, .int .u32 v] w fun e w' => e = .returned (.int .u32 (Num.putW x hi lo v)) ∧ w = w' := by
  cases h : Num.inW hi lo with
  | false =>
    rw [putW_out h]
    rcases out_cases h with h | ⟨h, h1⟩ | ⟨h, h1, h2⟩
    all_goals
      go_enter Try.func24, Try.ntmps24
      go_wp2
      go_ret
      exact ⟨rfl, rfl⟩
  | true =>
    obtain ⟨a, b, rfl, rfl, h2, h3⟩ := nats h
    obtain ⟨x, rfl⟩ := Int.eq_ofNat_of_zero_le h0
    obtain ⟨v, rfl⟩ := Int.eq_ofNat_of_zero_le hv
    clear h hl hl' hh hh'
    have HG := Lib.hid (putW_in x a b v h2 h3)
    have d1 : decide ((b : Int) < 0) = false := by simp
    have d2 : decide ((a : Int) < (b : Int)) = false := by simp; omega
    have d3 : decide (31 < (a : Int)) = false := by simp; omega
    have d4 : decide (a < b) = false := by simp; omega
    go_enter Try.func24, Try.ntmps24
    go_wp2
    go_loop [0, 3, 9] (fun u vv iv => PutRel x a b v u vv iv) (fun _ _ iv => a + 1 - (intOf iv).toNat)
    case atStart => exact ⟨b, x, v, by omega, by omega, rfl, rfl, rfl, h1, hv', by simp, fun t => by rw [if_neg (by omega)]⟩
    case round =>
      obtain ⟨i, X, V, hk1, hk2, rfl, rfl, rfl, hX, hV, hVe, hbit⟩ := hrel
      have HV := Lib.hid hVe; have HB := Lib.hid hbit
      clear hVe hbit
      by_cases hlt : i ≤ a
      · have hp : (2 : Nat) ^ i < 2 ^ 32 := Nat.pow_lt_pow_right (by decide) (by omega)
        obtain ⟨P, hP⟩ : ∃ P : Nat, P = 2 ^ i := ⟨_, rfl⟩
        have hPi : (2 : Int) ^ i % 4294967296 = (P : Int) := by rw [hP]; exact pow_mod i (by omega)
        have hPl : (P : Int) < 4294967296 := by omega
        have HP := Lib.hid hP
        clear hp hP
        have ha1 := u32_andNot_nat X P (by omega) (by omega)
        have ha2 := u32_or_nat (X &&& (4294967295 - P)) P (by have := Nat.and_le_left (n := X) (m := 4294967295 - P); omega) (by omega)
        obtain ⟨X1, hX1⟩ : ∃ X1 : Nat, X1 = X &&& (4294967295 - P) := ⟨_, rfl⟩
        obtain ⟨X2, hX2⟩ : ∃ X2 : Nat, X2 = X1 ||| P := ⟨_, rfl⟩
        rw [← hX1] at ha1 ha2
        rw [← hX2] at ha2
        have HX1 := Lib.hid hX1; have HX2 := Lib.hid hX2
        clear hX1 hX2
        have hb1 := Num.u32_and1 (V : Int)
        have HVN := Lib.hid (show V / 2 = v / 2 ^ (i + 1 - b) by
          rw [HV.out, Nat.div_div_eq_div_mul, ← Nat.pow_succ, show (i - b).succ = i + 1 - b by omega])
        cases hq : ((V : Int) % 2 == 1) with
        | true =>
          have HS := Lib.hid (show ∀ t, X2.testBit t = if b ≤ t ∧ t < i + 1 then v.testBit (t - b) else x.testBit t from
            step_bit HB.out hk1 (fun t => by
              rw [HX2.out, HX1.out, HP.out, set_bit X i (by omega) (by omega) t, low_bit v (i - b), ← HV.out]
              have : V % 2 = 1 := by simp at hq; omega
              simp [this]))
          have HXL := Lib.hid (show (X2 : Int) < 4294967296 by
            have : X2 < 2 ^ 32 := by
              rw [HX2.out]; exact Nat.or_lt_two_pow (by rw [HX1.out]; have := Nat.and_le_left (n := X) (m := 4294967295 - P); omega) (by omega)
            omega)
          go_wp2
          go_round
          case rel => exact ⟨i + 1, X2, V / 2, by omega, by omega, by go_num, rfl, by go_num, HXL.out, by omega, HVN.out, HS.out⟩
          case measure => simp [intOf]; omega
        | false =>
          have HS := Lib.hid (show ∀ t, X1.testBit t = if b ≤ t ∧ t < i + 1 then v.testBit (t - b) else x.testBit t from
            step_bit HB.out hk1 (fun t => by
              rw [HX1.out, HP.out, clear_bit X i (by omega) (by omega) t, low_bit v (i - b), ← HV.out]
              have : ¬ V % 2 = 1 := by simp at hq; omega
              simp [this]))
          have HXL := Lib.hid (show (X1 : Int) < 4294967296 by
            rw [HX1.out]; have := Nat.and_le_left (n := X) (m := 4294967295 - P); omega)
          go_wp2
          go_round
          case rel => exact ⟨i + 1, X1, V / 2, by omega, by omega, by go_num, rfl, by go_num, HXL.out, by omega, HVN.out, HS.out⟩
          case measure => simp [intOf]; omega
      · have HR := Lib.hid (show (X : Int) = Num.putW x a b v by
          rw [HG.out]
          congr 1
          refine Nat.eq_of_testBit_eq fun t => ?_
          rw [HB.out t, Num.put_bit x a b v t h2 h3 (by omega)]
          by_cases c : b ≤ t ∧ t < i
          · rw [if_pos c, if_pos (by omega)]
          · rw [if_neg c, if_neg (by omega)])
        go_wp2
        go_ret
        exact ⟨ret_int HR.out, rfl⟩
end Go.Proofs.Ytolkpoohpimkhaa
