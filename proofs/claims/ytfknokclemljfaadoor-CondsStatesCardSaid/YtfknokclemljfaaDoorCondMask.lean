/- Contracts of conds.Mask and of its reference. -/
import Derived.Test.YtfknokclemljfaaDoorCondWalk
import Derived.Test.YtfknokclemljfaaDoorBools
namespace Go.Proofs.YtfknokclemljfaaDoor
open Go.RowKit Mem
set_option linter.unusedVariables false
theorem maskGo_snoc (c : Int) : ∀ (l : List Bool) (t : Bool) (m : Int), maskGo c (l ++ [t]) m = 2 * maskGo c l m - 1 + 2 * bitOf c t
  | [], t, m => rfl
  | x :: l, t, m => by show maskGo c (l ++ [t]) _ = _; rw [maskGo_snoc c l t]; rfl
theorem bitOf_bd (c : Int) (t : Bool) : 0 ≤ bitOf c t ∧ bitOf c t ≤ 1 := by unfold bitOf; cases t <;> simp <;> omega
theorem maskGo_take {c : Int} {l : List Bool} {k : Nat} {t : Bool} (h : l[k]? = some t) : maskGo c (l.take (k + 1)) 1 = 2 * maskGo c (l.take k) 1 - 1 + 2 * bitOf c t := by
  rw [List.take_add_one, h]; exact maskGo_snoc c _ t 1
theorem mask_no {c : Int} {l : List Bool} (h : c < 0 ∨ 14 < c ∨ 3 < l.length ∨ (c = 14 ∧ false ∈ l)) : mask c l = 0 := if_pos h
theorem mask_yes {c : Int} {l : List Bool} (h : ¬ (c < 0 ∨ 14 < c ∨ 3 < l.length ∨ (c = 14 ∧ false ∈ l))) : mask c l = maskGo c l 1 * 2 ^ (3 - l.length) := if_neg h
theorem mem_take_false {l : List Bool} {k : Nat} (h : false ∈ l.take k) : false ∈ l := List.mem_of_mem_take h
theorem xor1 (c : Int) : bits .xor .i64 (c % 2) 1 = 1 - c % 2 := by
  rcases (show c % 2 = 0 ∨ c % 2 = 1 by omega) with h | h <;> rw [h] <;> decide
theorem andNot1 {m : Int} (h : m = 1 ∨ m = 3 ∨ m = 5 ∨ m = 7) : bits .andNot .i64 m 1 = m - 1 := by
  rcases h with rfl | rfl | rfl | rfl <;> decide
/-- A step of the mask, as the program does it. -/
structure Step (m b : Int) : Prop where
  an : bits .andNot .i64 m 1 = m - 1
  o1 : bits .or .i64 (m - 1) b = m - 1 + b
  o2 : bits .or .i64 ((m - 1 + b) * 2) 1 = (m - 1 + b) * 2 + 1
theorem step_of {m b : Int} (hm : m = 1 ∨ m = 3 ∨ m = 5 ∨ m = 7) (h0 : 0 ≤ b) (h1 : b ≤ 1) : Step m b :=
  ⟨andNot1 hm, Num.i64_join 1 _ _ (by omega) (by simp only [Int.reducePow]; omega) (by omega) (by omega) (by simp only [Int.reducePow]; omega) (by omega),
    Num.i64_join 1 _ _ (by omega) (by simp only [Int.reducePow]; omega) (by omega) (by omega) (by simp only [Int.reducePow]; omega) (by omega)⟩
def oddTo (m : Int) (k : Nat) : Prop := m % 2 = 1 ∧ 1 ≤ m ∧ m < 2 ^ (k + 1)
theorem oddTo_next {m b : Int} {k : Nat} (h : oddTo m k) (h0 : 0 ≤ b) (h1 : b ≤ 1) : oddTo (2 * m - 1 + 2 * b) (k + 1) := by
  obtain ⟨a, c, d⟩ := h
  refine ⟨by omega, by omega, ?_⟩
  have : (2 : Int) ^ (k + 1 + 1) = 2 * 2 ^ (k + 1) := by rw [Int.pow_succ]; omega
  omega
theorem oddTo_small {m : Int} {k : Nat} (h : oddTo m k) (hk : k < 3) : m = 1 ∨ m = 3 ∨ m = 5 ∨ m = 7 := by
  obtain ⟨a, c, d⟩ := h
  have : k = 0 ∨ k = 1 ∨ k = 2 := by omega
  rcases this with rfl | rfl | rfl <;> simp at d <;> omega
theorem oddTo_le {m : Int} {k : Nat} (h : oddTo m k) (hk : k ≤ 3) : 1 ≤ m ∧ m ≤ 15 := by
  obtain ⟨a, c, d⟩ := h
  have : k = 0 ∨ k = 1 ∨ k = 2 ∨ k = 3 := by omega
  rcases this with rfl | rfl | rfl | rfl <;> simp at d <;> omega
set_option maxRecDepth 100000 in
set_option maxHeartbeats 1000000 in
theorem conds_Mask (c : Int) (A : Option Addr) (n cp B : Nat) (l : List Bool) (w : World) (hx : Bools w B A n l) (hk : -9223372036854775808 ≤ c) (hk' : c ≤ 9223372036854775807) (hn : n ≤ 9223372036854775807) :
    Calls Tryd.prog 19 #[.int .i64 c, .slice A n cp] w fun e w' => e = .returned (.int .i64 (mask c l)) ∧ w = w' := by
  have HX := Lib.hid hx
  have HL := Lib.hid hx.len
  clear hx
  by_cases h1 : c < 0
  · go_enter Tryd.func19, Tryd.ntmps19
    go_wp2
    go_ret
    exact ⟨ret_int (mask_no (.inl h1)).symm, rfl⟩
  by_cases h2 : 14 < c
  · go_enter Tryd.func19, Tryd.ntmps19
    go_wp2
    go_ret
    exact ⟨ret_int (mask_no (.inr (.inl h2))).symm, rfl⟩
  by_cases h3 : 3 < n
  · go_enter Tryd.func19, Tryd.ntmps19
    go_wp2
    go_ret
    exact ⟨ret_int (mask_no (.inr (.inr (.inl (by rw [HL.out]; exact h3))))).symm, rfl⟩
  have hd3 : decide ((3 : Int) < (n : Int)) = false := by simp; omega
  have e1 : bits .and .i64 c 1 = c % 2 := Num.and_low .i64 1 (by decide) c
  have e2 := xor1 c
  have g0 : 0 ≤ c % 2 := by omega
  have g1 : c % 2 ≤ 1 := by omega
  obtain ⟨r, hr⟩ : ∃ r, r = mask c l := ⟨_, rfl⟩
  rw [← hr]
  have HR := Lib.hid hr
  clear hr
  go_enter Tryd.func19, Tryd.ntmps19
  go_wp2
  go_loop [5, 22] (fun mv iv => ∃ (k : Nat) (m : Int), k ≤ n ∧ iv = .int .i64 k ∧ mv = .int .i64 m ∧ m = maskGo c (l.take k) 1 ∧ oddTo m k ∧ ¬ (c = 14 ∧ false ∈ l.take k)) (fun _ iv => n - (intOf iv).toNat)
  case atStart => exact ⟨0, 1, by omega, rfl, rfl, rfl, ⟨by omega, by omega, by decide⟩, by simp⟩
  case round =>
    obtain ⟨k, m, hk1, rfl, rfl, hm, hodd, hno⟩ := hrel
    have HM := Lib.hid hm; have HO := Lib.hid hodd; have HN := Lib.hid hno
    clear hm hodd hno
    by_cases hlt : k < n
    · obtain ⟨ad, t, rfl, hb1, hz, hc⟩ := HX.out.get hlt
      have HZ := Lib.hid hz
      clear hz
      have h7 := oddTo_small HO.out (by omega)
      have hmb : 1 ≤ m ∧ m ≤ 7 := by omega
      obtain ⟨m0, m1⟩ := hmb
      cases t with
      | true =>
        obtain ⟨s1, s2, s3⟩ := step_of h7 g0 g1
        clear h7
        have HS := Lib.hid (show (m - 1 + c % 2) * 2 + 1 = 2 * m - 1 + 2 * bitOf c true by simp only [bitOf, if_true]; omega)
        cases h14 : (c == 14)
        all_goals
          go_wp2
          go_round
          case rel => exact ⟨k + 1, (m - 1 + c % 2) * 2 + 1, by omega, by go_num, rfl, by rw [maskGo_take HZ.out, HS.out, HM.out], by rw [HS.out]; exact oddTo_next HO.out (bitOf_bd _ _).1 (bitOf_bd _ _).2, fun ⟨ha, hb⟩ => HN.out ⟨ha, by rw [List.take_add_one, HZ.out] at hb; simpa using hb⟩⟩
          case measure => simp [intOf]; omega
      | false =>
        cases h14 : (c == 14) with
        | true =>
          have HC := Lib.hid (show mask c l = 0 from mask_no (.inr (.inr (.inr ⟨by simpa using h14, List.mem_of_getElem? HZ.out⟩))))
          clear h7
          go_wp2
          go_ret
          exact ⟨ret_int (by rw [HR.out, HC.out]), rfl⟩
        | false =>
          obtain ⟨s1, s2, s3⟩ := step_of (b := 1 - c % 2) h7 (by omega) (by omega)
          clear h7
          have HS := Lib.hid (show (m - 1 + (1 - c % 2)) * 2 + 1 = 2 * m - 1 + 2 * bitOf c false by simp only [bitOf]; simp; omega)
          have H14 := Lib.hid (show c ≠ 14 by simpa using h14)
          have q0 : 0 ≤ 1 - c % 2 := by omega
          have q1 : 1 - c % 2 ≤ 1 := by omega
          go_wp2
          go_round
          case rel => exact ⟨k + 1, (m - 1 + (1 - c % 2)) * 2 + 1, by omega, by go_num, rfl, by rw [maskGo_take HZ.out, HS.out, HM.out], by rw [HS.out]; exact oddTo_next HO.out (bitOf_bd _ _).1 (bitOf_bd _ _).2, fun ⟨ha, hb⟩ => H14.out ha⟩
          case measure => simp [intOf]; omega
    · obtain rfl : k = n := by omega
      have HT := Lib.hid (show mask c l = m * 2 ^ (3 - k) by
        have ht : l.take k = l := List.take_of_length_le (by rw [HL.out]; exact Nat.le_refl _)
        have h := HN.out; rw [ht] at h
        rw [mask_yes (by rw [HL.out]; rintro (hh | hh | hh | hh); omega; omega; omega; exact h hh), HM.out, ht, HL.out])
      obtain ⟨m0, m1⟩ := oddTo_le HO.out (by omega)
      have : k = 0 ∨ k = 1 ∨ k = 2 ∨ k = 3 := by omega
      rcases this with rfl | rfl | rfl | rfl
      all_goals
        go_wp2
        go_ret
        exact ⟨ret_int (by rw [HR.out, HT.out]; simp), rfl⟩
/-- The weight at a place. -/
def atOf (k : Nat) : Int := 8 / 2 ^ k
theorem at_step {k : Nat} (hk : k < 3) (c : Int) (t : Bool) (m M : Int) (h : m + atOf k = M * 2 ^ (3 - k)) : m + bitOf c t * atOf k + atOf (k + 1) = (2 * M - 1 + 2 * bitOf c t) * 2 ^ (3 - (k + 1)) := by
  have : k = 0 ∨ k = 1 ∨ k = 2 := by omega
  rcases this with rfl | rfl | rfl
  all_goals
    simp only [atOf, Nat.reduceAdd, Nat.reduceSub, Int.reducePow, Int.reduceDiv] at h ⊢
    omega
theorem at_bd {k : Nat} (hk : k ≤ 3) : 1 ≤ atOf k ∧ atOf k ≤ 8 ∧ atOf k / 2 = atOf (k + 1) := by
  have : k = 0 ∨ k = 1 ∨ k = 2 ∨ k = 3 := by omega
  rcases this with rfl | rfl | rfl | rfl <;> decide
theorem bit_at (c : Int) (t : Bool) {k : Nat} (hk : k ≤ 3) : 0 ≤ bitOf c t * atOf k ∧ bitOf c t * atOf k ≤ 8 := by
  obtain ⟨h1, h2, _⟩ := at_bd hk
  rcases (show bitOf c t = 0 ∨ bitOf c t = 1 by have := bitOf_bd c t; omega) with h | h <;> rw [h] <;> omega
set_option maxRecDepth 100000 in
set_option maxHeartbeats 1000000 in
theorem ref_Mask (c : Int) (A : Option Addr) (n cp B : Nat) (l : List Bool) (w : World) (hx : Bools w B A n l) (hk : -9223372036854775808 ≤ c) (hk' : c ≤ 9223372036854775807) (hn : n ≤ 9223372036854775807) :
    Calls Tryd.prog 20 #[.int .i64 c, .slice A n cp] w fun e w' => e = .returned (.int .i64 (mask c l)) ∧ w = w' := by
  have HX := Lib.hid hx
  have HL := Lib.hid hx.len
  clear hx
  by_cases h1 : c < 0
  · go_enter Tryd.func20, Tryd.ntmps20
    go_wp2
    go_ret
    exact ⟨ret_int (mask_no (.inl h1)).symm, rfl⟩
  by_cases h2 : 14 < c
  · go_enter Tryd.func20, Tryd.ntmps20
    go_wp2
    go_ret
    exact ⟨ret_int (mask_no (.inr (.inl h2))).symm, rfl⟩
  by_cases h3 : 3 < n
  · go_enter Tryd.func20, Tryd.ntmps20
    go_wp2
    go_ret
    exact ⟨ret_int (mask_no (.inr (.inr (.inl (by rw [HL.out]; exact h3))))).symm, rfl⟩
  have hd3 : decide ((3 : Int) < (n : Int)) = false := by simp; omega
  have g0 : 0 ≤ c % 2 := by omega
  have g1 : c % 2 ≤ 1 := by omega
  obtain ⟨r, hr⟩ : ∃ r, r = mask c l := ⟨_, rfl⟩
  rw [← hr]
  have HR := Lib.hid hr
  clear hr
  go_enter Tryd.func20, Tryd.ntmps20
  go_wp2
  go_loop [5, 6, 7] (fun mv av iv => ∃ (k : Nat) (m a : Int), k ≤ n ∧ iv = .int .i64 k ∧ mv = .int .i64 m ∧ av = .int .i64 a ∧ a = atOf k ∧ m + atOf k = maskGo c (l.take k) 1 * 2 ^ (3 - k) ∧ oddTo (maskGo c (l.take k) 1) k ∧ 0 ≤ m ∧ m ≤ 8 * (k : Int) ∧ ¬ (c = 14 ∧ false ∈ l.take k)) (fun _ _ iv => n - (intOf iv).toNat)
  case atStart => exact ⟨0, 0, 8, by omega, rfl, rfl, rfl, by decide, by rfl, ⟨by rfl, show (1 : Int) ≤ 1 by decide, show (1 : Int) < 2 by decide⟩, by omega, by omega, by simp⟩
  case round =>
    obtain ⟨k, m, a, hk1, rfl, rfl, rfl, ha, hm, hodd, m0, m1, hno⟩ := hrel
    have HM := Lib.hid hm; have HO := Lib.hid hodd; have HN := Lib.hid hno; have HA := Lib.hid ha
    clear hm hodd hno ha
    obtain ⟨a0, a1, a2⟩ := at_bd (k := k) (by omega)
    rw [← HA.out] at a0 a1 a2
    have H2 := Lib.hid a2
    clear a2
    by_cases hlt : k < n
    · obtain ⟨ad, t, rfl, hb1, hz, hc⟩ := HX.out.get hlt
      have HZ := Lib.hid hz
      clear hz
      cases t with
      | true =>
        have hbt : c % 2 * a = bitOf c true * atOf k := by rw [HA.out]; simp only [bitOf, if_true]
        have HBT := Lib.hid hbt
        have b0 : 0 ≤ c % 2 * a := by rw [hbt]; exact (bit_at c true (by omega)).1
        have b1 : c % 2 * a ≤ 8 := by rw [hbt]; exact (bit_at c true (by omega)).2
        clear hbt
        cases h14 : (c == 14)
        all_goals
          go_wp2
          go_round
          case rel =>
            refine ⟨k + 1, m + c % 2 * a, a / 2, by omega, by go_num, rfl, rfl, H2.out, ?_, ?_, by omega, by simp; omega, fun ⟨ha, hb⟩ => HN.out ⟨ha, by rw [List.take_add_one, HZ.out] at hb; simpa using hb⟩⟩
            · rw [maskGo_take HZ.out, HBT.out]; exact at_step (by omega) _ _ _ _ HM.out
            · rw [maskGo_take HZ.out]; exact oddTo_next HO.out (bitOf_bd _ _).1 (bitOf_bd _ _).2
          case measure => simp [intOf]; omega
      | false =>
        cases h14 : (c == 14) with
        | true =>
          have HC := Lib.hid (show mask c l = 0 from mask_no (.inr (.inr (.inr ⟨by simpa using h14, List.mem_of_getElem? HZ.out⟩))))
          go_wp2
          go_ret
          exact ⟨ret_int (by rw [HR.out, HC.out]), rfl⟩
        | false =>
          have H14 := Lib.hid (show c ≠ 14 by simpa using h14)
          have hbt : (1 - c % 2) * a = bitOf c false * atOf k := by rw [HA.out]; simp [bitOf]
          have HBT := Lib.hid hbt
          have b0 : 0 ≤ (1 - c % 2) * a := by rw [hbt]; exact (bit_at c false (by omega)).1
          have b1 : (1 - c % 2) * a ≤ 8 := by rw [hbt]; exact (bit_at c false (by omega)).2
          clear hbt
          go_wp2
          go_round
          case rel =>
            refine ⟨k + 1, m + (1 - c % 2) * a, a / 2, by omega, by go_num, rfl, rfl, H2.out, ?_, ?_, by omega, by simp; omega, fun ⟨ha, hb⟩ => H14.out ha⟩
            · rw [maskGo_take HZ.out, HBT.out]; exact at_step (by omega) _ _ _ _ HM.out
            · rw [maskGo_take HZ.out]; exact oddTo_next HO.out (bitOf_bd _ _).1 (bitOf_bd _ _).2
          case measure => simp [intOf]; omega
    · obtain rfl : k = n := by omega
      have HT := Lib.hid (show mask c l = m + a by
        have ht : l.take k = l := List.take_of_length_le (by rw [HL.out]; exact Nat.le_refl _)
        have h := HN.out; rw [ht] at h
        have h2 := HM.out; rw [ht] at h2
        rw [mask_yes (by rw [HL.out]; rintro (hh | hh | hh | hh); omega; omega; omega; exact h hh), HL.out, HA.out, h2])
      go_wp2
      go_ret
      exact ⟨ret_int (by rw [HR.out, HT.out]), rfl⟩
end Go.Proofs.YtfknokclemljfaaDoor
