/- Contracts of alu.Shift, of its reference, and of math/bits.RotateLeft32: the shifted word and its carry; the world stays as it was. -/
import Derived.Test.YtoippgiahldkmaaProg
import Derived.Test.YtoippgiahldkmaaShiftPlain
import Derived.Test.YtoippgiahldkmaaBase
import Derived.Outline
namespace Go.Proofs.Ytoippgiahldkmaa
open Go.RowKit
set_option linter.unusedVariables false
def shV (x : Int) (c : Bool) : Value := .tuple #[.int .u32 x, .bool c]
theorem ret_sh {a a' : Int} {b b' : Bool} (h : a = a') (h1 : b = b') : Ending.returned (.tuple #[.int .u32 a, .bool b]) = .returned (shV a' b') := by rw [h, h1]; rfl
theorem val_bool {a b : Bool} (h : a = b) : Value.bool a = .bool b := by rw [h]
theorem op_cases {op : Int} (h : 16 ≤ op) (h1 : op ≤ 19) : op = 16 ∨ op = 17 ∨ op = 18 ∨ op = 19 := by omega
theorem times_big (op n : Int) (h : 64 < n) (ho : op ≠ 19) : (64 : Int).toNat = Num.times op n := by
  unfold Num.times; rw [if_neg (by omega), if_neg ho]; omega
theorem times_ror (n : Int) (h : 64 < n) : (32 + n % 32).toNat = Num.times 19 n := by
  unfold Num.times; rw [if_neg (by omega), if_pos rfl, if_pos (by omega)]
theorem times_small (op n : Int) (h : ¬ 64 < n) : n.toNat = Num.times op n := by
  unfold Num.times
  split
  · omega
  · split
    · rfl
    · omega
def ShRel (op x N : Int) (c : Bool) (xv nv cv : Value) : Prop := ∃ (i : Int) (j : Nat), nv = .int .i64 i ∧ xv = .int .u32 (Num.shW op x j) ∧ cv = .bool (Num.shC op x c j) ∧ i + j = N ∧ (j = 0 ∨ 0 ≤ i)
theorem sh_end {op x n N i : Int} {c : Bool} {j : Nat} (hN : N.toNat = Num.times op n) (h1 : i + j = N) (h2 : j = 0 ∨ 0 ≤ i) (hi : i ≤ 0) (ho : 16 ≤ op) (ho' : op ≤ 19) : Num.shW op x j = Num.shiftW op x n ∧ Num.shC op x c j = Num.shiftC op x n c := by
  have e : j = Num.times op n := by omega
  unfold Num.shiftW Num.shiftC
  rw [if_pos ⟨ho, ho'⟩, if_pos ⟨ho, ho'⟩, e]
  exact ⟨rfl, rfl⟩
theorem one_turn' (x : Int) (h0 : 0 ≤ x) (h1 : x < 4294967296) : bits .or .u32 (x / 2) (x / 2147483648 * 2147483648) = x / 2 + x / 2147483648 * 2147483648 := by
  rw [Num.bits_or_comm, Num.u32_join 31 _ _ (by omega) (by simp only [Int.reducePow]; omega) (by omega) (by omega) (by simp only [Int.reducePow]; omega) (by omega)]
  omega
theorem beq_decide (a b : Int) : (a == b) = decide (a = b) := by rw [Bool.eq_iff_iff]; simp
set_option maxRecDepth 100000 in
set_option maxHeartbeats 1000000 in
theorem ref_Shift (op x n : Int) (c : Bool) (w : World) (h0 : 0 ≤ x) (h1 : x < 4294967296) (hn : -9223372036854775808 ≤ n) (hn' : n ≤ 9223372036854775807) :
    Calls Try.prog 17 #[.int .i64 op, .int .u32 x, .int .i64 n, .bool c] w fun e w' => e = .returned (shV (Num.shiftW op x n) (Num.shiftC op x n c)) ∧ w = w' := by
  by_cases hin : 16 ≤ op ∧ op ≤ 19
  · obtain ⟨ho, ho'⟩ := hin
    have hx0 := Num.shW_0 op x h0 h1 ho ho'
    have HX0 := Lib.hid hx0
    clear hx0
    rcases op_cases ho ho' with rfl | rfl | rfl | rfl
    · by_cases hbig : 64 < n
      · have HN := Lib.hid (times_big 16 n hbig (by decide))
        go_enter Try.func17, Try.ntmps17
        go_wp2
        go_loop [1, 2, 3] (fun xv nv cv => ShRel 16 x 64 c xv nv cv) (fun _ nv _ => (intOf nv).toNat)
        case atStart => exact ⟨64, 0, rfl, val_int HX0.out.symm, rfl, by omega, .inl rfl⟩
        case round =>
          obtain ⟨i, j, rfl, rfl, rfl, hij, hor0⟩ := hrel
          have HIJ := Lib.hid hij; have HOR := Lib.hid hor0
          have hib : i ≤ 9223372036854775807 := by omega
          have hib2 : -9223372036854775808 ≤ i := by omega
          clear hij hor0
          have hb := Num.shW_bd 16 x j h0 h1
          have HS := Lib.hid (Num.lsl_succ x j)
          by_cases hlt : 0 < i
          · go_wp2
            go_round
            case rel => exact ⟨i - 1, j + 1, rfl, val_int (by rw [HS.out]), val_bool (by rw [beq_decide]; rfl), by have := HIJ.out; omega, .inr (by omega)⟩
            case measure => simp [intOf]; omega
          · have he := sh_end (op := 16) (x := x) (c := c) HN.out HIJ.out HOR.out (by omega) (by omega) (by omega)
            have HE := Lib.hid he
            clear he
            go_wp2
            go_ret2
            exact ⟨ret_sh HE.out.1 HE.out.2, rfl⟩
      · have HN := Lib.hid (times_small 16 n hbig)
        go_enter Try.func17, Try.ntmps17
        go_wp2
        go_loop [1, 2, 3] (fun xv nv cv => ShRel 16 x n c xv nv cv) (fun _ nv _ => (intOf nv).toNat)
        case atStart => exact ⟨n, 0, rfl, val_int HX0.out.symm, rfl, by omega, .inl rfl⟩
        case round =>
          obtain ⟨i, j, rfl, rfl, rfl, hij, hor0⟩ := hrel
          have HIJ := Lib.hid hij; have HOR := Lib.hid hor0
          have hib : i ≤ 9223372036854775807 := by omega
          have hib2 : -9223372036854775808 ≤ i := by omega
          clear hij hor0
          have hb := Num.shW_bd 16 x j h0 h1
          have HS := Lib.hid (Num.lsl_succ x j)
          by_cases hlt : 0 < i
          · go_wp2
            go_round
            case rel => exact ⟨i - 1, j + 1, rfl, val_int (by rw [HS.out]), val_bool (by rw [beq_decide]; rfl), by have := HIJ.out; omega, .inr (by omega)⟩
            case measure => simp [intOf]; omega
          · have he := sh_end (op := 16) (x := x) (c := c) HN.out HIJ.out HOR.out (by omega) (by omega) (by omega)
            have HE := Lib.hid he
            clear he
            go_wp2
            go_ret2
            exact ⟨ret_sh HE.out.1 HE.out.2, rfl⟩
    · by_cases hbig : 64 < n
      · have HN := Lib.hid (times_big 17 n hbig (by decide))
        go_enter Try.func17, Try.ntmps17
        go_wp2
        go_loop [1, 2, 3] (fun xv nv cv => ShRel 17 x 64 c xv nv cv) (fun _ nv _ => (intOf nv).toNat)
        case atStart => exact ⟨64, 0, rfl, val_int HX0.out.symm, rfl, by omega, .inl rfl⟩
        case round =>
          obtain ⟨i, j, rfl, rfl, rfl, hij, hor0⟩ := hrel
          have HIJ := Lib.hid hij; have HOR := Lib.hid hor0
          have hib : i ≤ 9223372036854775807 := by omega
          have hib2 : -9223372036854775808 ≤ i := by omega
          clear hij hor0
          have hb := Num.shW_bd 17 x j h0 h1
          have hand := Num.u32_and1 (Num.shW 17 x j)
          have HS := Lib.hid (Num.lsr_succ x j)
          by_cases hlt : 0 < i
          · go_wp2
            go_round
            case rel => exact ⟨i - 1, j + 1, rfl, val_int (by rw [HS.out]), val_bool (by rw [beq_decide]; rfl), by have := HIJ.out; omega, .inr (by omega)⟩
            case measure => simp [intOf]; omega
          · have he := sh_end (op := 17) (x := x) (c := c) HN.out HIJ.out HOR.out (by omega) (by omega) (by omega)
            have HE := Lib.hid he
            clear he
            go_wp2
            go_ret2
            exact ⟨ret_sh HE.out.1 HE.out.2, rfl⟩
      · have HN := Lib.hid (times_small 17 n hbig)
        go_enter Try.func17, Try.ntmps17
        go_wp2
        go_loop [1, 2, 3] (fun xv nv cv => ShRel 17 x n c xv nv cv) (fun _ nv _ => (intOf nv).toNat)
        case atStart => exact ⟨n, 0, rfl, val_int HX0.out.symm, rfl, by omega, .inl rfl⟩
        case round =>
          obtain ⟨i, j, rfl, rfl, rfl, hij, hor0⟩ := hrel
          have HIJ := Lib.hid hij; have HOR := Lib.hid hor0
          have hib : i ≤ 9223372036854775807 := by omega
          have hib2 : -9223372036854775808 ≤ i := by omega
          clear hij hor0
          have hb := Num.shW_bd 17 x j h0 h1
          have hand := Num.u32_and1 (Num.shW 17 x j)
          have HS := Lib.hid (Num.lsr_succ x j)
          by_cases hlt : 0 < i
          · go_wp2
            go_round
            case rel => exact ⟨i - 1, j + 1, rfl, val_int (by rw [HS.out]), val_bool (by rw [beq_decide]; rfl), by have := HIJ.out; omega, .inr (by omega)⟩
            case measure => simp [intOf]; omega
          · have he := sh_end (op := 17) (x := x) (c := c) HN.out HIJ.out HOR.out (by omega) (by omega) (by omega)
            have HE := Lib.hid he
            clear he
            go_wp2
            go_ret2
            exact ⟨ret_sh HE.out.1 HE.out.2, rfl⟩
    · by_cases hbig : 64 < n
      · have HN := Lib.hid (times_big 18 n hbig (by decide))
        go_enter Try.func17, Try.ntmps17
        go_wp2
        go_loop [1, 2, 3] (fun xv nv cv => ShRel 18 x 64 c xv nv cv) (fun _ nv _ => (intOf nv).toNat)
        case atStart => exact ⟨64, 0, rfl, val_int HX0.out.symm, rfl, by omega, .inl rfl⟩
        case round =>
          obtain ⟨i, j, rfl, rfl, rfl, hij, hor0⟩ := hrel
          have HIJ := Lib.hid hij; have HOR := Lib.hid hor0
          have hib : i ≤ 9223372036854775807 := by omega
          have hib2 : -9223372036854775808 ≤ i := by omega
          clear hij hor0
          have hb := Num.shW_bd 18 x j h0 h1
          have hand := Num.u32_and1 (Num.shW 18 x j)
          have hor := one_turn' (Num.shW 18 x j) hb.1 hb.2
          have HS := Lib.hid (Num.asr_succ x j h0 h1)
          by_cases hlt : 0 < i
          · go_wp2
            go_round
            case rel => exact ⟨i - 1, j + 1, rfl, val_int (by rw [HS.out]), val_bool (by rw [beq_decide]; rfl), by have := HIJ.out; omega, .inr (by omega)⟩
            case measure => simp [intOf]; omega
          · have he := sh_end (op := 18) (x := x) (c := c) HN.out HIJ.out HOR.out (by omega) (by omega) (by omega)
            have HE := Lib.hid he
            clear he
            go_wp2
            go_ret2
            exact ⟨ret_sh HE.out.1 HE.out.2, rfl⟩
      · have HN := Lib.hid (times_small 18 n hbig)
        go_enter Try.func17, Try.ntmps17
        go_wp2
        go_loop [1, 2, 3] (fun xv nv cv => ShRel 18 x n c xv nv cv) (fun _ nv _ => (intOf nv).toNat)
        case atStart => exact ⟨n, 0, rfl, val_int HX0.out.symm, rfl, by omega, .inl rfl⟩
        case round =>
          obtain ⟨i, j, rfl, rfl, rfl, hij, hor0⟩ := hrel
          have HIJ := Lib.hid hij; have HOR := Lib.hid hor0
          have hib : i ≤ 9223372036854775807 := by omega
          have hib2 : -9223372036854775808 ≤ i := by omega
          clear hij hor0
          have hb := Num.shW_bd 18 x j h0 h1
          have hand := Num.u32_and1 (Num.shW 18 x j)
          have hor := one_turn' (Num.shW 18 x j) hb.1 hb.2
          have HS := Lib.hid (Num.asr_succ x j h0 h1)
          by_cases hlt : 0 < i
          · go_wp2
            go_round
            case rel => exact ⟨i - 1, j + 1, rfl, val_int (by rw [HS.out]), val_bool (by rw [beq_decide]; rfl), by have := HIJ.out; omega, .inr (by omega)⟩
            case measure => simp [intOf]; omega
          · have he := sh_end (op := 18) (x := x) (c := c) HN.out HIJ.out HOR.out (by omega) (by omega) (by omega)
            have HE := Lib.hid he
            clear he
            go_wp2
            go_ret2
            exact ⟨ret_sh HE.out.1 HE.out.2, rfl⟩
    · by_cases hbig : 64 < n
      · have HN := Lib.hid (times_ror n hbig)
        go_enter Try.func17, Try.ntmps17
        go_wp2
        go_loop [1, 2, 3] (fun xv nv cv => ShRel 19 x (32 + n % 32) c xv nv cv) (fun _ nv _ => (intOf nv).toNat)
        case atStart => exact ⟨(32 + n % 32), 0, rfl, val_int HX0.out.symm, rfl, by omega, .inl rfl⟩
        case round =>
          obtain ⟨i, j, rfl, rfl, rfl, hij, hor0⟩ := hrel
          have HIJ := Lib.hid hij; have HOR := Lib.hid hor0
          have hib : i ≤ 9223372036854775807 := by omega
          have hib2 : -9223372036854775808 ≤ i := by omega
          clear hij hor0
          have hb := Num.shW_bd 19 x j h0 h1
          have hand := Num.u32_and1 (Num.shW 19 x j)
          have hor := Num.one_turn (Num.shW 19 x j) hb.1 hb.2
          have HS := Lib.hid (Num.ror_succ x j h0 h1)
          by_cases hlt : 0 < i
          · go_wp2
            go_round
            case rel => exact ⟨i - 1, j + 1, rfl, val_int (by rw [HS.out]), val_bool (by rw [beq_decide]; rfl), by have := HIJ.out; omega, .inr (by omega)⟩
            case measure => simp [intOf]; omega
          · have he := sh_end (op := 19) (x := x) (c := c) HN.out HIJ.out HOR.out (by omega) (by omega) (by omega)
            have HE := Lib.hid he
            clear he
            go_wp2
            go_ret2
            exact ⟨ret_sh HE.out.1 HE.out.2, rfl⟩
      · have HN := Lib.hid (times_small 19 n hbig)
        go_enter Try.func17, Try.ntmps17
        go_wp2
        go_loop [1, 2, 3] (fun xv nv cv => ShRel 19 x n c xv nv cv) (fun _ nv _ => (intOf nv).toNat)
        case atStart => exact ⟨n, 0, rfl, val_int HX0.out.symm, rfl, by omega, .inl rfl⟩
        case round =>
          obtain ⟨i, j, rfl, rfl, rfl, hij, hor0⟩ := hrel
          have HIJ := Lib.hid hij; have HOR := Lib.hid hor0
          have hib : i ≤ 9223372036854775807 := by omega
          have hib2 : -9223372036854775808 ≤ i := by omega
          clear hij hor0
          have hb := Num.shW_bd 19 x j h0 h1
          have hand := Num.u32_and1 (Num.shW 19 x j)
          have hor := Num.one_turn (Num.shW 19 x j) hb.1 hb.2
          have HS := Lib.hid (Num.ror_succ x j h0 h1)
          by_cases hlt : 0 < i
          · go_wp2
            go_round
            case rel => exact ⟨i - 1, j + 1, rfl, val_int (by rw [HS.out]), val_bool (by rw [beq_decide]; rfl), by have := HIJ.out; omega, .inr (by omega)⟩
            case measure => simp [intOf]; omega
          · have he := sh_end (op := 19) (x := x) (c := c) HN.out HIJ.out HOR.out (by omega) (by omega) (by omega)
            have HE := Lib.hid he
            clear he
            go_wp2
            go_ret2
            exact ⟨ret_sh HE.out.1 HE.out.2, rfl⟩
  · have HW := Lib.hid (show Num.shiftW op x n = x by unfold Num.shiftW; rw [if_neg hin])
    have HC := Lib.hid (show Num.shiftC op x n c = c by unfold Num.shiftC; rw [if_neg hin])
    by_cases hlt : op < 16
    · clear hin
      go_enter Try.func17, Try.ntmps17
      go_wp2
      go_ret2
      exact ⟨ret_sh HW.out.symm HC.out.symm, rfl⟩
    · have hgt : 19 < op := by omega
      clear hin
      go_enter Try.func17, Try.ntmps17
      go_wp2
      go_ret2
      exact ⟨ret_sh HW.out.symm HC.out.symm, rfl⟩
set_option maxHeartbeats 800000 in
theorem whole_left (x : Int) (k : Nat) (hk : k < 32) (h0 : 0 ≤ x) (h1 : x < 4294967296) : bits .or .u32 (x * 2 ^ k % 4294967296) (x / 2 ^ (32 - k)) = Num.turn x ((32 - k) % 32) := by
  refine Num.each32 (fun k => bits .or .u32 (x * 2 ^ k % 4294967296) (x / 2 ^ (32 - k)) = Num.turn x ((32 - k) % 32)) ?_ k hk
  simp only [Num.small, List.forall_mem_cons, Num.turn, Nat.reduceSub, Int.reducePow, Nat.reduceMod]
  and_intros
  · rw [show x / 4294967296 = 0 by omega, Num.u32_join 0 _ _ (by omega) (by simp only [Int.reducePow]; omega) (by omega) (by omega) (by simp only [Int.reducePow]; omega) (by omega)]; omega
  · rw [Num.u32_join 1 _ _ (by omega) (by simp only [Int.reducePow]; omega) (by omega) (by omega) (by simp only [Int.reducePow]; omega) (by omega)]; omega
  · rw [Num.u32_join 2 _ _ (by omega) (by simp only [Int.reducePow]; omega) (by omega) (by omega) (by simp only [Int.reducePow]; omega) (by omega)]; omega
  · rw [Num.u32_join 3 _ _ (by omega) (by simp only [Int.reducePow]; omega) (by omega) (by omega) (by simp only [Int.reducePow]; omega) (by omega)]; omega
  · rw [Num.u32_join 4 _ _ (by omega) (by simp only [Int.reducePow]; omega) (by omega) (by omega) (by simp only [Int.reducePow]; omega) (by omega)]; omega
  · rw [Num.u32_join 5 _ _ (by omega) (by simp only [Int.reducePow]; omega) (by omega) (by omega) (by simp only [Int.reducePow]; omega) (by omega)]; omega
  · rw [Num.u32_join 6 _ _ (by omega) (by simp only [Int.reducePow]; omega) (by omega) (by omega) (by simp only [Int.reducePow]; omega) (by omega)]; omega
  · rw [Num.u32_join 7 _ _ (by omega) (by simp only [Int.reducePow]; omega) (by omega) (by omega) (by simp only [Int.reducePow]; omega) (by omega)]; omega
  · rw [Num.u32_join 8 _ _ (by omega) (by simp only [Int.reducePow]; omega) (by omega) (by omega) (by simp only [Int.reducePow]; omega) (by omega)]; omega
  · rw [Num.u32_join 9 _ _ (by omega) (by simp only [Int.reducePow]; omega) (by omega) (by omega) (by simp only [Int.reducePow]; omega) (by omega)]; omega
  · rw [Num.u32_join 10 _ _ (by omega) (by simp only [Int.reducePow]; omega) (by omega) (by omega) (by simp only [Int.reducePow]; omega) (by omega)]; omega
  · rw [Num.u32_join 11 _ _ (by omega) (by simp only [Int.reducePow]; omega) (by omega) (by omega) (by simp only [Int.reducePow]; omega) (by omega)]; omega
  · rw [Num.u32_join 12 _ _ (by omega) (by simp only [Int.reducePow]; omega) (by omega) (by omega) (by simp only [Int.reducePow]; omega) (by omega)]; omega
  · rw [Num.u32_join 13 _ _ (by omega) (by simp only [Int.reducePow]; omega) (by omega) (by omega) (by simp only [Int.reducePow]; omega) (by omega)]; omega
  · rw [Num.u32_join 14 _ _ (by omega) (by simp only [Int.reducePow]; omega) (by omega) (by omega) (by simp only [Int.reducePow]; omega) (by omega)]; omega
  · rw [Num.u32_join 15 _ _ (by omega) (by simp only [Int.reducePow]; omega) (by omega) (by omega) (by simp only [Int.reducePow]; omega) (by omega)]; omega
  · rw [Num.u32_join 16 _ _ (by omega) (by simp only [Int.reducePow]; omega) (by omega) (by omega) (by simp only [Int.reducePow]; omega) (by omega)]; omega
  · rw [Num.u32_join 17 _ _ (by omega) (by simp only [Int.reducePow]; omega) (by omega) (by omega) (by simp only [Int.reducePow]; omega) (by omega)]; omega
  · rw [Num.u32_join 18 _ _ (by omega) (by simp only [Int.reducePow]; omega) (by omega) (by omega) (by simp only [Int.reducePow]; omega) (by omega)]; omega
  · rw [Num.u32_join 19 _ _ (by omega) (by simp only [Int.reducePow]; omega) (by omega) (by omega) (by simp only [Int.reducePow]; omega) (by omega)]; omega
  · rw [Num.u32_join 20 _ _ (by omega) (by simp only [Int.reducePow]; omega) (by omega) (by omega) (by simp only [Int.reducePow]; omega) (by omega)]; omega
  · rw [Num.u32_join 21 _ _ (by omega) (by simp only [Int.reducePow]; omega) (by omega) (by omega) (by simp only [Int.reducePow]; omega) (by omega)]; omega
  · rw [Num.u32_join 22 _ _ (by omega) (by simp only [Int.reducePow]; omega) (by omega) (by omega) (by simp only [Int.reducePow]; omega) (by omega)]; omega
  · rw [Num.u32_join 23 _ _ (by omega) (by simp only [Int.reducePow]; omega) (by omega) (by omega) (by simp only [Int.reducePow]; omega) (by omega)]; omega
  · rw [Num.u32_join 24 _ _ (by omega) (by simp only [Int.reducePow]; omega) (by omega) (by omega) (by simp only [Int.reducePow]; omega) (by omega)]; omega
  · rw [Num.u32_join 25 _ _ (by omega) (by simp only [Int.reducePow]; omega) (by omega) (by omega) (by simp only [Int.reducePow]; omega) (by omega)]; omega
  · rw [Num.u32_join 26 _ _ (by omega) (by simp only [Int.reducePow]; omega) (by omega) (by omega) (by simp only [Int.reducePow]; omega) (by omega)]; omega
  · rw [Num.u32_join 27 _ _ (by omega) (by simp only [Int.reducePow]; omega) (by omega) (by omega) (by simp only [Int.reducePow]; omega) (by omega)]; omega
  · rw [Num.u32_join 28 _ _ (by omega) (by simp only [Int.reducePow]; omega) (by omega) (by omega) (by simp only [Int.reducePow]; omega) (by omega)]; omega
  · rw [Num.u32_join 29 _ _ (by omega) (by simp only [Int.reducePow]; omega) (by omega) (by omega) (by simp only [Int.reducePow]; omega) (by omega)]; omega
  · rw [Num.u32_join 30 _ _ (by omega) (by simp only [Int.reducePow]; omega) (by omega) (by omega) (by simp only [Int.reducePow]; omega) (by omega)]; omega
  · rw [Num.u32_join 31 _ _ (by omega) (by simp only [Int.reducePow]; omega) (by omega) (by omega) (by simp only [Int.reducePow]; omega) (by omega)]; omega
  · intro _ h; cases h
theorem rotl (x r : Int) (w : World) (h0 : 0 ≤ x) (h1 : x < 4294967296) :
    Calls Try.prog 34 #[.int .u32 x, .int .i64 r] w fun e w' => e = .returned (.int .u32 (Num.ror x (-r))) ∧ w = w' := by
  have hk := Num.u64_ror r
  go_enter Try.func34, Try.ntmps34
  go_wp2
  go_ret
  refine ⟨ret_int ?_, rfl⟩
  have e : (32 - r % 32).toNat = 32 - (r % 32).toNat := by omega
  rw [e, whole_left x (r % 32).toNat (by omega) h0 h1]
  unfold Num.ror
  rw [show ((-r) % 32).toNat = (32 - (r % 32).toNat) % 32 by omega]
theorem shift_prog {op x n : Int} {c : Bool} (h0 : 0 ≤ x) (h1 : x < 4294967296) (ho : 16 ≤ op) (ho' : op ≤ 18) (hn : 0 < n) : Num.shiftW op x n = Num.shW op x (min n (33 : Int)).toNat ∧ Num.shiftC op x n c = Num.shC op x c (min n (33 : Int)).toNat := by
  have e : Num.times op n = (min n (64 : Int)).toNat := by unfold Num.times; rw [if_neg (by omega), if_neg (by omega)]
  unfold Num.shiftW Num.shiftC
  rw [if_pos (by omega), if_pos (by omega), e]
  by_cases h : n ≤ 33
  · rw [show (min n (64 : Int)).toNat = (min n (33 : Int)).toNat by omega]; exact ⟨rfl, rfl⟩
  · obtain ⟨e1, e2⟩ := Num.sh_far op x c (min n (64 : Int)).toNat h0 h1 ho ho' (by omega)
    rw [e1, e2, show (min n (33 : Int)).toNat = 33 by omega]; exact ⟨rfl, rfl⟩
theorem lsl_form (x : Int) (c : Bool) (k : Nat) (hk : 0 < k) (h0 : 0 ≤ x) (h1 : x < 4294967296) : x * 2 ^ k % 18446744073709551616 % 4294967296 = Num.shW 16 x k ∧ (x * 2 ^ k % 18446744073709551616 / 4294967296 % 2 == 1) = Num.shC 16 x c k := by
  obtain ⟨j, rfl⟩ : ∃ j, k = j + 1 := ⟨k - 1, by omega⟩
  simp only [Num.shC, if_pos, Num.shW]
  rw [Int.pow_succ, ← Int.mul_assoc, beq_decide]
  generalize x * 2 ^ j = q
  refine ⟨by omega, ?_⟩
  rw [Bool.eq_iff_iff]; simp; omega
theorem lsr_form (x : Int) (c : Bool) (k : Nat) (hk : 0 < k) (h0 : 0 ≤ x) (h1 : x < 4294967296) : x * 2 / 2 ^ k / 2 % 4294967296 = Num.shW 17 x k ∧ (x * 2 / 2 ^ k % 2 == 1) = Num.shC 17 x c k := by
  obtain ⟨j, rfl⟩ : ∃ j, k = j + 1 := ⟨k - 1, by omega⟩
  have hb := Num.shW_bd 17 x j h0 h1
  have hp := Num.two_pos j
  have e : x * 2 / 2 ^ (j + 1) = x / 2 ^ j := by
    rw [Int.pow_succ, Int.mul_comm x 2, Int.mul_comm (2 ^ j) 2, Int.mul_ediv_mul_of_pos _ _ (by decide)]
  rw [e, Num.lsr_succ, beq_decide]
  simp only [Num.shC, Num.shW, if_neg (show ¬ (17 : Int) = 16 by decide), if_pos] at hb ⊢
  generalize x / 2 ^ j = q at *
  exact ⟨by omega, trivial⟩
theorem asr_form (x : Int) (c : Bool) (k : Nat) (hk : 0 < k) (h0 : 0 ≤ x) (h1 : x < 4294967296) : Num.s32 x * 2 / 2 ^ k / 2 % 4294967296 = Num.shW 18 x k ∧ (Num.s32 x * 2 / 2 ^ k % 2 == 1) = Num.shC 18 x c k := by
  obtain ⟨j, rfl⟩ : ∃ j, k = j + 1 := ⟨k - 1, by omega⟩
  have hp := Num.two_pos j
  have e : Num.s32 x * 2 / 2 ^ (j + 1) = Num.s32 x / 2 ^ j := by
    rw [Int.pow_succ, Int.mul_comm _ 2, Int.mul_comm (2 ^ j) 2, Int.mul_ediv_mul_of_pos _ _ (by decide)]
  rw [e, beq_decide]
  simp only [Num.shC, Num.shW, if_neg (show ¬ (18 : Int) = 16 by decide), if_neg (show ¬ (18 : Int) = 17 by decide), if_pos]
  rw [Num.div_succ]
  generalize Num.s32 x / 2 ^ j = q at *
  refine ⟨rfl, ?_⟩
  rw [Bool.eq_iff_iff]; simp
theorem ror_form (x n : Int) (c : Bool) (h0 : 0 ≤ x) (h1 : x < 4294967296) (hn : 0 < n) : Num.shiftW 19 x n = Num.ror x n ∧ Num.shiftC 19 x n c = decide (Num.ror x n / 2147483648 = 1) := by
  have key : ∀ T : Nat, 0 < T → (T : Int) % 32 = n % 32 → Num.shW 19 x T = Num.ror x n ∧ Num.shC 19 x c T = decide (Num.ror x n / 2147483648 = 1) := by
    intro T hT hm
    have e : Num.shW 19 x T = Num.ror x n := by
      simp only [Num.shW, if_neg (show ¬ (19 : Int) = 16 by decide), if_neg (show ¬ (19 : Int) = 17 by decide), if_neg (show ¬ (19 : Int) = 18 by decide)]
      unfold Num.ror; rw [hm]
    obtain ⟨j, rfl⟩ : ∃ j, T = j + 1 := ⟨T - 1, by omega⟩
    exact ⟨e, by rw [Num.ror_carry x c j h0 h1, e]⟩
  unfold Num.shiftW Num.shiftC
  rw [if_pos (by omega), if_pos (by omega)]
  have et : Num.times 19 n = if n > 64 then (32 + n % 32).toNat else n.toNat := by unfold Num.times; rw [if_neg (by omega), if_pos rfl]
  rw [et]
  split
  · exact key _ (by omega) (by omega)
  · exact key _ (by omega) (by omega)
theorem shift_none {op x n : Int} {c : Bool} (h0 : 0 ≤ x) (h1 : x < 4294967296) (hn : n ≤ 0 ∨ op < 16 ∨ 19 < op) : Num.shiftW op x n = x ∧ Num.shiftC op x n c = c := by
  unfold Num.shiftW Num.shiftC
  by_cases hin : 16 ≤ op ∧ op ≤ 19
  · have e : Num.times op n = 0 := by unfold Num.times; rw [if_pos (by omega)]
    rw [if_pos hin, if_pos hin, e]
    refine ⟨Num.shW_0 op x h0 h1 hin.1 hin.2, ?_⟩
    first | rfl | trivial
  · rw [if_neg hin, if_neg hin]; exact ⟨rfl, rfl⟩
end Go.Proofs.Ytoippgiahldkmaa
