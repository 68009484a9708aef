/- The contract of the reference's Put. -/
import Derived.Test.YtapenhbfpcmpnaaDoorOffsPut
namespace Go.Proofs.YtapenhbfpcmpnaaDoor
open Go.RowKit
set_option linter.unusedVariables false
theorem ref_bit (off i : Int) (w : World) (h0 : 0 ≤ i) (h1 : i ≤ 63) :
    Calls Tryd.prog 16 #[.int .i64 off, .int .i64 i] w fun e w' => e = .returned (.int .i64 (off / 2 ^ i.toNat % 2)) ∧ w = w' := by
  have h := i64_and1 (off / 2 ^ i.toNat)
  go_enter Tryd.func16, Tryd.ntmps16
  go_wp2
  go_ret
  exact ⟨rfl, rfl⟩
theorem i64_join (i : Nat) (hi : i ≤ 40) (x y : Int) (hx0 : 0 ≤ x) (hx : x % 2 ^ i = 0) (hx1 : x < 1099511627776) (hy0 : 0 ≤ y) (hy : y < 2 ^ i) : bits .or .i64 x y = x + y := by
  have hy1 : y < 1099511627776 := by
    have : (2 : Nat) ^ i ≤ 2 ^ 40 := Nat.pow_le_pow_right (by decide) hi
    have e : ((2 ^ i : Nat) : Int) = (2 : Int) ^ i := by simp
    omega
  have hx2 : (x.toNat) % 2 ^ i = 0 := by
    have e : ((x.toNat % 2 ^ i : Nat) : Int) = ((0 : Nat) : Int) := by
      rw [Int.natCast_emod, Int.toNat_of_nonneg hx0]; simpa using hx
    exact_mod_cast e
  have hy2 : y.toNat < 2 ^ i := by
    have e : ((y.toNat : Nat) : Int) < ((2 ^ i : Nat) : Int) := by rw [Int.toNat_of_nonneg hy0]; simpa using hy
    exact_mod_cast e
  have hor : x.toNat ||| y.toNat = x.toNat + y.toNat := nat_join i _ _ hx2 hy2
  have ha : (BitVec.ofInt 64 x).toNat = x.toNat := by rw [Num.ofInt_toNat]; omega
  have hb : (BitVec.ofInt 64 y).toNat = y.toNat := by rw [Num.ofInt_toNat]; omega
  show IntKind.i64.wrap ((BitVec.ofInt 64 x ||| BitVec.ofInt 64 y).toNat : Int) = _
  rw [BitVec.toNat_or, ha, hb, hor, IntKind.wrap_i64]; omega
theorem xor_i64 (a b : Int) (h0 : 0 ≤ a) (h1 : a ≤ 1) (h2 : 0 ≤ b) (h3 : b ≤ 1) : bits .xor .i64 a b = 1 - Num.nxor a b := by
  have ha : a = 0 ∨ a = 1 := by omega
  have hb : b = 0 ∨ b = 1 := by omega
  rcases ha with rfl | rfl <;> rcases hb with rfl | rfl <;> decide +kernel
theorem i64_and2047 (x : Int) : bits .and .i64 x 2047 = x % 2048 := Num.and_low .i64 11 (by decide) x
theorem i64_and63 (x : Int) : bits .and .i64 x 63 = x % 64 := Num.and_low .i64 6 (by decide) x
theorem i64_and1023 (x : Int) : bits .and .i64 x 1023 = x % 1024 := Num.and_low .i64 10 (by decide) x
theorem iJ (i : Nat) (hi : i ≤ 40) (P x y : Int) (hP : (2 : Int) ^ i = P) (hx0 : 0 ≤ x) (hx : x % P = 0) (hx1 : x < 1099511627776) (hy0 : 0 ≤ y) (hy : y < P) : bits .or .i64 x y = x + y :=
  i64_join i hi x y hx0 (by rw [hP]; exact hx) hx1 hy0 (by rw [hP]; exact hy)
theorem or3i (x y z : Int) (h0 : 0 ≤ x) (h1 : x % 8192 = 0) (h2 : x < 2147483648) (h3 : 0 ≤ y) (h4 : y % 2048 = 0) (h5 : y < 8192) (h6 : 0 ≤ z) (h7 : z < 2048) : bits .or .i64 (bits .or .i64 x y) z = x + y + z := by
  rw [iJ 13 (by decide) 8192 x y rfl (by omega) (by omega) (by omega) (by omega) (by omega), iJ 11 (by decide) 2048 (x + y) z rfl (by omega) (by omega) (by omega) (by omega) (by omega)]
theorem rp3a (off t : Int) (hf : Num.fits 3 off = true) (ht : t = Num.sgn off * 1024) : bits .or .i64 t (off / 4096 % 64) = Num.putA 3 off := by
  have hs := sgn_bd off
  rw [iJ 10 (by decide) 1024 _ _ rfl (by omega) (by omega) (by omega) (by omega) (by omega)]; simp [Num.putA, hf]; omega
theorem rp4a (off t : Int) (hf : Num.fits 4 off = true) (ht : t = Num.sgn off * 1024) : bits .or .i64 t (off / 4096 % 1024) = Num.putA 4 off := by
  have hs := sgn_bd off
  rw [iJ 10 (by decide) 1024 _ _ rfl (by omega) (by omega) (by omega) (by omega) (by omega)]; simp [Num.putA, hf]; omega
theorem rp3b (off : Int) (hf : Num.fits 3 off = true) : bits .or .i64 (bits .or .i64 (off / 262144 % 2 * 8192) (off / 524288 % 2 * 2048)) (off / 2 % 2048) = Num.putB 3 off := by
  rw [or3i _ _ _ (by omega) (by omega) (by omega) (by omega) (by omega) (by omega) (by omega) (by omega)]; simp [Num.putB, hf]
theorem rp4b (off t : Int) (hf : Num.fits 4 off = true) (ht : t = Num.sgn off) : bits .or .i64 (bits .or .i64 (wrap64 (wrap64 (1 - bits .xor .i64 (off / 8388608 % 2) t) * 8192)) (wrap64 (wrap64 (1 - bits .xor .i64 (off / 4194304 % 2) t) * 2048))) (off / 2 % 2048) = Num.putB 4 off := by
  have hs := sgn_bd off
  subst ht
  have n1 := Num.nxor_bd (off / 8388608 % 2) (Num.sgn off)
  have n2 := Num.nxor_bd (off / 4194304 % 2) (Num.sgn off)
  rw [xor_i64 _ _ (by omega) (by omega) hs.1 hs.2, xor_i64 _ _ (by omega) (by omega) hs.1 hs.2]
  rw [show (1 : Int) - (1 - Num.nxor (off / 8388608 % 2) (Num.sgn off)) = Num.nxor (off / 8388608 % 2) (Num.sgn off) by omega, show (1 : Int) - (1 - Num.nxor (off / 4194304 % 2) (Num.sgn off)) = Num.nxor (off / 4194304 % 2) (Num.sgn off) by omega]
  rw [IntWalk.wrap64_in (Num.nxor (off / 8388608 % 2) (Num.sgn off)) (by omega), IntWalk.wrap64_in (Num.nxor (off / 4194304 % 2) (Num.sgn off)) (by omega), IntWalk.wrap64_in (Num.nxor (off / 8388608 % 2) (Num.sgn off) * 8192) (by omega), IntWalk.wrap64_in (Num.nxor (off / 4194304 % 2) (Num.sgn off) * 2048) (by omega)]
  rw [or3i _ _ _ (by omega) (by omega) (by omega) (by omega) (by omega) (by omega) (by omega) (by omega)]; simp [Num.putB, hf]
theorem rp5 (off : Int) (hf : Num.fits 5 off = true) : bits .or .i64 (off / 64 % 2 * 512) (off / 2 % 32 * 8) = Num.putA 5 off := by
  rw [iJ 9 (by decide) 512 _ _ rfl (by omega) (by omega) (by omega) (by omega) (by omega)]; simp [Num.putA, hf]
theorem sgn_neg {off : Int} (h : off < 0) : Num.sgn off = 1 := by unfold Num.sgn; rw [if_pos h]
theorem sgn_pos {off : Int} (h : ¬ off < 0) : Num.sgn off = 0 := by unfold Num.sgn; rw [if_neg h]
set_option maxRecDepth 100000 in
set_option maxHeartbeats 1000000 in
theorem ref_PutO (k off : Int) (w : World) (hk : -9223372036854775808 ≤ k) (hk' : k ≤ 9223372036854775807) (ho : -9223372036854775808 ≤ off) (ho' : off ≤ 9223372036854775807) :
    Calls Tryd.prog 9 #[.int .i64 k, .int .i64 off] w fun e w' => e = .returned (putV k off) ∧ w = w' := by
  cases hf : Num.fits k off with
  | false =>
    have HV := Lib.hid (show putV k off = .tuple #[.int .i64 0, .int .i64 0] by unfold putV Num.putA Num.putB; simp [hf])
    go_enter Tryd.func9, Tryd.ntmps9
    go_wp2_with (go_at_call 11; refine (ref_Fits _ _ _ hk hk' ho ho').mono ?_; rintro e w' ⟨rfl, rfl⟩)
    go_ret2
    exact ⟨ret_of HV.out, rfl⟩
  | true =>
    have a1 := Num.i64_and255 (off / 2)
    have a2 := i64_and2047 (off / 2)
    have a3 := i64_and63 (off / 4096)
    have a4 := i64_and1023 (off / 4096)
    have a5 := Num.i64_and31 (off / 2)
    rcases Num.fits_kind hf with ⟨rfl, h1, h2, h3⟩ | ⟨rfl, h1, h2, h3⟩ | ⟨rfl, h1, h2, h3⟩ | ⟨rfl, h1, h2, h3⟩ | ⟨rfl, h1, h2, h3⟩
    · have H1 := Lib.hid h1
      clear h1
      by_cases hneg : off < 0
      all_goals
        go_enter Tryd.func9, Tryd.ntmps9
        go_wp2_with (first | (go_at_call 11; refine (ref_Fits _ _ _ hk hk' ho ho').mono ?_; rintro e w' ⟨rfl, rfl⟩) | (go_at_call 16; refine (ref_bit _ _ _ (by omega) (by omega)).mono ?_; rintro e w' ⟨rfl, rfl⟩))
        go_ret2
      all_goals exact ⟨ret_pair (by simp [Num.putA, hf]) (by simp [Num.putB, hf]), rfl⟩
    · have H1 := Lib.hid h1
      clear h1
      by_cases hneg : off < 0
      all_goals
        go_enter Tryd.func9, Tryd.ntmps9
        go_wp2_with (first | (go_at_call 11; refine (ref_Fits _ _ _ hk hk' ho ho').mono ?_; rintro e w' ⟨rfl, rfl⟩) | (go_at_call 16; refine (ref_bit _ _ _ (by omega) (by omega)).mono ?_; rintro e w' ⟨rfl, rfl⟩))
        go_ret2
      all_goals exact ⟨ret_pair (by simp [Num.putA, hf]) (by simp [Num.putB, hf]), rfl⟩
    · have H1 := Lib.hid h1
      clear h1
      by_cases hneg : off < 0
      all_goals
        go_enter Tryd.func9, Tryd.ntmps9
        go_wp2_with (first | (go_at_call 11; refine (ref_Fits _ _ _ hk hk' ho ho').mono ?_; rintro e w' ⟨rfl, rfl⟩) | (go_at_call 16; refine (ref_bit _ _ _ (by omega) (by omega)).mono ?_; rintro e w' ⟨rfl, rfl⟩))
        go_ret2
      · exact ⟨ret_pair (rp3a off _ hf (by rw [sgn_neg hneg]; rfl)) (rp3b off hf), rfl⟩
      · exact ⟨ret_pair (rp3a off _ hf (by rw [sgn_pos (show ¬ off < 0 by omega)]; rfl)) (rp3b off hf), rfl⟩
    · have H1 := Lib.hid h1
      clear h1
      by_cases hneg : off < 0
      all_goals
        go_enter Tryd.func9, Tryd.ntmps9
        go_wp2_with (first | (go_at_call 11; refine (ref_Fits _ _ _ hk hk' ho ho').mono ?_; rintro e w' ⟨rfl, rfl⟩) | (go_at_call 16; refine (ref_bit _ _ _ (by omega) (by omega)).mono ?_; rintro e w' ⟨rfl, rfl⟩))
        go_ret2
      · exact ⟨ret_pair (rp4a off _ hf (by rw [sgn_neg hneg]; rfl)) (rp4b off _ hf (sgn_neg hneg).symm), rfl⟩
      · exact ⟨ret_pair (rp4a off _ hf (by rw [sgn_pos (show ¬ off < 0 by omega)]; rfl)) (rp4b off _ hf (sgn_pos (show ¬ off < 0 by omega)).symm), rfl⟩
    · have H1 := Lib.hid h1
      clear h1
      by_cases hneg : off < 0
      all_goals
        go_enter Tryd.func9, Tryd.ntmps9
        go_wp2_with (first | (go_at_call 11; refine (ref_Fits _ _ _ hk hk' ho ho').mono ?_; rintro e w' ⟨rfl, rfl⟩) | (go_at_call 16; refine (ref_bit _ _ _ (by omega) (by omega)).mono ?_; rintro e w' ⟨rfl, rfl⟩))
        go_ret2
      all_goals exact ⟨ret_pair (rp5 off hf) (by simp [Num.putB, hf]), rfl⟩
end Go.Proofs.YtapenhbfpcmpnaaDoor
