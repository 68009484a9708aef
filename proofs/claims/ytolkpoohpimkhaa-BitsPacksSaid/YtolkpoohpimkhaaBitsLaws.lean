/- The examples of chapter 1 (awake), and the walks of layer 1's six statements: each returns true, and the world keeps all that was there. -/
import Derived.Test.YtolkpoohpimkhaaFieldPut
import Derived.Test.YtolkpoohpimkhaaFieldSign
import Derived.Test.YtolkpoohpimkhaaPackWalk
import Derived.Test.YtolkpoohpimkhaaIntsWalk
namespace Go.Proofs.Ytolkpoohpimkhaa
open Go.RowKit Mem
set_option linter.unusedVariables false
theorem ex_get : Num.getW 43981 11 4 = 188 := by decide +kernel
theorem ex_sign : Num.sign 255 8 = -1 := by decide +kernel
theorem ex_put : Num.putW 0 7 4 31 = 240 := by decide +kernel
theorem ex_ror : Num.ror 1 1 = 2147483648 := by decide +kernel
theorem ex_pack : strOfNums (Num.octets [8193]) = ⟨#[1, 32]⟩ := by decide +kernel
theorem ex_halves : Num.halves [1, 32, 5] = [8193, 5] := by decide +kernel
theorem ints_new (w : World) (l : List Int) (t : TypeId) : Ints (w.alloc (.cells (ints l).toArray t)) (w.heap.size + 1) (some ⟨w.heap.size, 0, none⟩) l.length l := by
  refine ⟨by rw [ints_len]; omega, fun _ => ⟨_, rfl, by simp, fun j u hu => ?_⟩⟩
  have e2 : (⟨w.heap.size, 0, none⟩ : Addr).add j = ⟨w.heap.size, j, none⟩ := by
    unfold Addr.add; by_cases hi0 : j = 0 <;> simp [hi0]
  rw [e2, new_cell]
  simpa using hu
set_option maxRecDepth 100000 in
set_option maxHeartbeats 1000000 in
theorem awake1 (w : World) :
    Calls Try.prog 25 #[] w fun e w' => e = .returned (.bool true) ∧ Below w.heap.size w w' := by
  have e1 := ex_get
  have e2 := ex_sign
  have e3 := ex_put
  have e4 := ex_ror
  have e5 := ex_pack
  go_enter Try.func25, Try.ntmps25
  go_wp2_with fail
  refine (bits_Get _ _ _ _ (by omega) (by omega) (by omega) (by omega) (by omega) (by omega)).mono ?_
  rintro e w' ⟨rfl, rfl⟩
  go_wp2_with fail
  refine (bits_Sign _ _ _ (by omega) (by omega) (by omega) (by omega)).mono ?_
  rintro e w' ⟨rfl, rfl⟩
  go_wp2_with fail
  refine (bits_Pack _ 1 1 (w.heap.size + 1) [8193] _ (ints_new w [8193] 3) (by simp) (by omega)).mono ?_
  rintro e w1 ⟨rfl, hb1⟩
  rw [e5]
  go_wp2_with fail
  refine (bits_Put _ _ _ _ _ (by omega) (by omega) (by omega) (by omega) (by omega) (by omega) (by omega) (by omega)).mono ?_
  rintro e w' ⟨rfl, rfl⟩
  go_wp2_with fail
  refine (bits_Ror _ _ _ (by omega) (by omega)).mono ?_
  rintro e w' ⟨rfl, rfl⟩
  go_wp2_with fail
  refine (bits_Unpack _ _ (by decide)).mono ?_
  rintro e w2 ⟨v, rfl, hown, hb2⟩
  have hbel : Below w.heap.size w w2 := ((Below.refl _ _).alloc (Nat.le_refl _) _).trans ((hb1.mono (by simp)).trans (hb2.mono (by have := hb1.size; simp at this; omega)))
  obtain ⟨A, c, rfl, hc1, hc2⟩ := own_shape hown
  have HO := Lib.hid hown
  clear hown e1 e2 e3 e4 e5
  go_wp2_with fail
  refine (ref_Ints A _ _ 2 c 2 (w2.heap.size + 1) _ [8193, 5] _ (((Ints.of_own HO.out).alloc (Nat.le_refl _) _).more (Nat.le_succ _)) (ints_new w2 [8193, 5] 3) (by simp [Num.halves]) (by omega)).mono ?_
  rintro e w3 ⟨rfl, m, rfl⟩
  have hd : decide (Num.halves [1, 32, 5] = [8193, 5]) = true := by decide +kernel
  rw [hd]
  go_wp2
  go_ret
  exact ⟨rfl, below_drewN (hbel.alloc hbel.size _) _⟩
set_option maxRecDepth 100000 in
set_option maxHeartbeats 1000000 in
theorem law_BitsSigns (x n : Int) (w : World) (h0 : 0 ≤ x) (h1 : x < 4294967296) (hn : -9223372036854775808 ≤ n) (hn' : n ≤ 9223372036854775807) :
    Calls Try.prog 9 #[.int .u32 x, .int .i64 n] w fun e w' => e = .returned (.bool true) ∧ Below w.heap.size w w' := by
  go_enter Try.func9, Try.ntmps9
  go_wp2_with (first | (go_at_call 26; refine (bits_Sign _ _ _ (by omega) (by omega) (by omega) (by omega)).mono ?_; rintro e w' ⟨rfl, rfl⟩) | (go_at_call 27; refine (ref_Sign _ _ _ (by omega) (by omega) (by omega) (by omega)).mono ?_; rintro e w' ⟨rfl, rfl⟩) | (go_at_call 28; refine (bits_Ror _ _ _ (by omega) (by omega)).mono ?_; rintro e w' ⟨rfl, rfl⟩) | (go_at_call 29; refine (ref_Ror _ _ _ (by omega) (by omega) (by omega) (by omega)).mono ?_; rintro e w' ⟨rfl, rfl⟩) | (go_at_call 25; refine (awake1 _).mono ?_; rintro e w' ⟨rfl, hb⟩))
  go_ret
  exact ⟨rfl, hb⟩
theorem ror_bd (x n : Int) (h0 : 0 ≤ x) (h1 : x < 4294967296) : 0 ≤ Num.ror x n ∧ Num.ror x n < 4294967296 := Num.turn_bd x _ (by omega) h0 h1
theorem ror_step (x n : Int) (h0 : 0 ≤ x) (h1 : x < 4294967296) : Num.ror x (n + 1) = Num.ror x n / 2 + Num.ror x n % 2 * 2147483648 := by
  unfold Num.ror
  by_cases h : n % 32 = 31
  · rw [show (n + 1) % 32 = 0 by omega, h]
    rw [show (31 : Int).toNat = 31 from rfl, Num.turn_31 x h0 h1, show (0 : Int).toNat = 0 from rfl, Num.turn_0]
  · rw [show ((n + 1) % 32).toNat = (n % 32).toNat + 1 by omega]
    exact Num.turn_succ x _ (by omega) h0 h1
theorem ror_add_nat (x a : Int) (h0 : 0 ≤ x) (h1 : x < 4294967296) (b : Nat) : Num.ror (Num.ror x a) b = Num.ror x (a + b) := by
  have hb := ror_bd x a h0 h1
  induction b with
  | zero => simp; unfold Num.ror; rw [show ((0 : Int) % 32).toNat = 0 from rfl, Num.turn_0]
  | succ b ih =>
    rw [show ((b + 1 : Nat) : Int) = (b : Int) + 1 by omega, ror_step _ _ hb.1 hb.2, ih, ← Int.add_assoc, ror_step x _ h0 h1]
theorem ror_mod (x n : Int) : Num.ror x n = Num.ror x (n % 32) := by unfold Num.ror; rw [show n % 32 % 32 = n % 32 by omega]
/-- A word turned by two numbers is turned by their sum. -/
theorem ror_add (x a b : Int) (h0 : 0 ≤ x) (h1 : x < 4294967296) : Num.ror (Num.ror x a) b = Num.ror x (a + b) := by
  rw [ror_mod _ b, show b % 32 = (((b % 32).toNat : Nat) : Int) by omega, ror_add_nat x a h0 h1, ror_mod x (a + _), ror_mod x (a + b)]
  congr 1; omega
theorem ror_32 (x : Int) : Num.ror x 32 = x := by unfold Num.ror; rw [show ((32 : Int) % 32).toNat = 0 from rfl, Num.turn_0]
set_option maxRecDepth 100000 in
set_option maxHeartbeats 1000000 in
theorem law_BitsTurns (x a b : Int) (w : World) (h0 : 0 ≤ x) (h1 : x < 4294967296) (ha : -128 ≤ a) (ha' : a ≤ 127) (hb : -128 ≤ b) (hb' : b ≤ 127) :
    Calls Try.prog 12 #[.int .u32 x, .int .i8 a, .int .i8 b] w fun e w' => e = .returned (.bool true) ∧ Below w.heap.size w w' := by
  have hr := ror_bd x a h0 h1
  have e1 := ror_add x a b h0 h1
  have e2 := ror_32 x
  go_enter Try.func12, Try.ntmps12
  go_wp2_with (first | (go_at_call 28; refine (bits_Ror _ _ _ (by omega) (by omega)).mono ?_; rintro e w' ⟨rfl, rfl⟩) | (go_at_call 25; refine (awake1 _).mono ?_; rintro e w' ⟨rfl, hb⟩))
  go_ret
  exact ⟨rfl, hb⟩
end Go.Proofs.Ytolkpoohpimkhaa
