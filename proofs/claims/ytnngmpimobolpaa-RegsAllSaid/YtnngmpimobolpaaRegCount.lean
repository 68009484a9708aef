/- Contract of regs.Count: how many registers are in a list. -/
import Derived.Test.YtnngmpimobolpaaRegList
import Derived.Lib.Tables
import Derived.Lib.BitFns
namespace Go.Proofs.Ytnngmpimobolpaa
open Go.RowKit Mem
set_option linter.unusedVariables false
theorem pop_fin : ∀ n : Fin 256, Lib.pop8 (n.val : Int) = (((List.range 8).filter (has (n.val : Int))).length : Int) := by decide +kernel
theorem pop_eq {n : Int} (h0 : 0 ≤ n) (h1 : n ≤ 255) : Lib.pop8 n = (((List.range 8).filter (has n)).length : Int) := by
  have := pop_fin ⟨n.toNat, by omega⟩
  simp only at this
  rwa [show ((n.toNat : Nat) : Int) = n by omega] at this
theorem has_low (x : Int) {r : Nat} (hr : r < 8) : has x r = has (x % 256) r := by
  unfold has
  have : r = 0 ∨ r = 1 ∨ r = 2 ∨ r = 3 ∨ r = 4 ∨ r = 5 ∨ r = 6 ∨ r = 7 := by omega
  rw [Bool.eq_iff_iff]
  rcases this with rfl | rfl | rfl | rfl | rfl | rfl | rfl | rfl <;> simp only [Int.reducePow, beq_iff_eq] <;> omega
theorem has_high (x : Int) {r : Nat} (hr : r < 8) : has x (8 + r) = has (x / 256 % 256) r := by
  unfold has
  have : r = 0 ∨ r = 1 ∨ r = 2 ∨ r = 3 ∨ r = 4 ∨ r = 5 ∨ r = 6 ∨ r = 7 := by omega
  rw [Bool.eq_iff_iff]
  rcases this with rfl | rfl | rfl | rfl | rfl | rfl | rfl | rfl <;> simp only [Nat.reduceAdd, Int.reducePow, beq_iff_eq] <;> omega
theorem count_eq (x : Int) : Lib.pop8 (x / 256 % 256) + Lib.pop8 (x % 256) = ((allTo x 16).length : Int) := by
  rw [pop_eq (by omega) (by omega), pop_eq (by omega) (by omega)]
  unfold allTo
  rw [List.length_map, show List.range 16 = List.range 8 ++ (List.range 8).map (8 + ·) by decide, List.filter_append, List.length_append, List.filter_map, List.length_map]
  have e1 : (List.range 8).filter (has x) = (List.range 8).filter (has (x % 256)) := List.filter_congr fun r hr => has_low x (by simpa using hr)
  have e2 : (List.range 8).filter (has x ∘ (8 + ·)) = (List.range 8).filter (has (x / 256 % 256)) := List.filter_congr fun r hr => has_high x (by simpa using hr)
  rw [e1, e2]; omega
theorem pop_bd {n : Int} (h0 : 0 ≤ n) (h1 : n ≤ 255) : 0 ≤ Lib.pop8 n ∧ Lib.pop8 n ≤ 8 := by
  rw [pop_eq h0 h1]
  have := List.length_filter_le (has n) (List.range 8)
  simp at this
  omega
theorem u16_and255 (x : Int) : bits .and .u16 x 255 = x % 256 := Num.and_low .u16 8 (by decide) x
set_option maxRecDepth 100000 in
theorem ones16 (x : Int) (w : World) (h0 : 0 ≤ x) (h1 : x < 65536) :
    Calls Try.prog 37 #[.int .u16 x] w fun e w' => e = .returned (.int .i64 ((allTo x 16).length : Int)) ∧ ∃ m, w' = w.drewN m := by
  have HC := Lib.hid (count_eq x)
  have e1 := u16_and255 x
  have b1 := pop_bd (n := x / 256) (by omega) (by omega)
  have b2 := pop_bd (n := x % 256) (by omega) (by omega)
  have hx : x / 256 % 256 = x / 256 := by omega
  have HX := Lib.hid hx
  clear hx
  have q1 : 0 ≤ x / 256 := by omega
  have q2 : x / 256 ≤ 255 := by omega
  have q3 : 0 ≤ x % 256 := by omega
  have q4 : x % 256 ≤ 255 := by omega
  go_enter Try.func37, Try.ntmps37
  go_wp2
  generalize hT : ByteArray.mk (List.toArray (List.append _ _)) = T
  have hT2 : T = Lib.pop8tab := by rw [← hT]; kernel_rfl
  subst hT2
  clear hT
  go_quiet (fail)
  go_wp2
  go_ret
  exact ⟨ret_int (by rw [← HC.out, HX.out]), _, rfl⟩
theorem allTo_mod (list : Int) : allTo (list % 65536) 16 = allTo list 16 := by
  unfold allTo
  rw [List.filter_congr fun r hr => ?_]
  have hr : r < 16 := by simpa using hr
  unfold has
  rw [Bool.eq_iff_iff]
  have : r = 0 ∨ r = 1 ∨ r = 2 ∨ r = 3 ∨ r = 4 ∨ r = 5 ∨ r = 6 ∨ r = 7 ∨ r = 8 ∨ r = 9 ∨ r = 10 ∨ r = 11 ∨ r = 12 ∨ r = 13 ∨ r = 14 ∨ r = 15 := by omega
  rcases this with rfl | rfl | rfl | rfl | rfl | rfl | rfl | rfl | rfl | rfl | rfl | rfl | rfl | rfl | rfl | rfl <;> simp only [Int.reducePow, beq_iff_eq] <;> omega
theorem regs_Count (list : Int) (w : World) :
    Calls Try.prog 17 #[.int .i64 list] w fun e w' => e = .returned (.int .i64 ((allTo list 16).length : Int)) ∧ ∃ m, w' = w.drewN m := by
  have HM := Lib.hid (allTo_mod list)
  have hw := IntKind.wrap_u16 list
  go_enter Try.func17, Try.ntmps17
  go_wp2_with fail
  refine (ones16 _ _ (by omega) (by omega)).mono ?_
  rintro e w1 ⟨rfl, m, rfl⟩
  rw [HM.out]
  go_wp2
  go_ret
  exact ⟨rfl, _, rfl⟩
end Go.Proofs.Ytnngmpimobolpaa
