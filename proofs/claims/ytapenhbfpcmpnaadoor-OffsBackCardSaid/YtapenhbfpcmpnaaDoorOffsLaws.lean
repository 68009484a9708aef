/- The examples of chapter 3 (awake), and the walks of layer 3's five statements: each returns true, and the world keeps all that was there. -/
import Derived.Test.YtapenhbfpcmpnaaDoorOffsRefGet
import Derived.Test.YtapenhbfpcmpnaaDoorOffsBits
namespace Go.Proofs.YtapenhbfpcmpnaaDoor
open Go.RowKit Mem
set_option linter.unusedVariables false
theorem Kinds.keep {w w' : World} (h : Kinds w) (hk : ∀ p : Addr, p.block < w.heap.size → w'.cell? p = w.cell? p) : Kinds w' := by
  have hb : 0 < w.heap.size := World.block_lt_of_cell? w _ h.b1
  obtain ⟨b1, s1, b2, s2, b3, s3, b4, s4, b5, s5⟩ := h
  exact ⟨(hk _ hb).trans b1, (hk _ hb).trans s1, (hk _ hb).trans b2, (hk _ hb).trans s2, (hk _ hb).trans b3, (hk _ hb).trans s3, (hk _ hb).trans b4, (hk _ hb).trans s4, (hk _ hb).trans b5, (hk _ hb).trans s5⟩
theorem Kinds.below {w w' : World} (h : Kinds w) (hb : Below w.heap.size w w') : Kinds w' := h.keep fun _ hp => hb.cell hp
theorem putV_eq (k off : Int) : putV k off = .tuple #[.int .i64 (Num.putA k off), .int .i64 (Num.putB k off)] := rfl
theorem x1 : putV 1 (-4) = .tuple #[.int .i64 254, .int .i64 0] := by
  rw [putV_eq, show Num.putA 1 (-4) = 254 by decide +kernel, show Num.putB 1 (-4) = 0 by decide +kernel]
theorem x2 : putV 4 0 = .tuple #[.int .i64 0, .int .i64 10240] := by
  rw [putV_eq, show Num.putA 4 0 = 0 by decide +kernel, show Num.putB 4 0 = 10240 by decide +kernel]
theorem x3 : Num.getO 4 0 10240 = 0 := by decide +kernel
theorem x4 : Num.fits 5 126 = true := by decide +kernel
theorem x5 : Num.fits 5 128 = false := by decide +kernel
theorem x6 : Num.fits 2 3 = false := by decide +kernel
set_option maxRecDepth 100000 in
set_option maxHeartbeats 1000000 in
theorem awake3 (w : World) (hK : Kinds w) :
    Calls Tryd.prog 12 #[] w fun e w' => e = .returned (.bool true) ∧ w = w' := by
  have HK := Lib.hid hK
  clear hK
  have e1 := x1
  have e2 := x2
  have e3 := x3
  have e4 := x4
  have e5 := x5
  have e6 := x6
  go_enter Tryd.func12, Tryd.ntmps12
  go_wp2_with (first | (go_at_call 8; refine (offs_Put _ _ _ HK.out (by omega) (by omega) (by omega) (by omega)).mono ?_; rintro e w' ⟨rfl, rfl⟩; simp only [e1, e2]) | (go_at_call 13; refine (offs_Get _ _ _ _ HK.out (by omega) (by omega)).mono ?_; rintro e w' ⟨rfl, rfl⟩) | (go_at_call 10; refine (offs_Fits _ _ _ HK.out (by omega) (by omega) (by omega) (by omega)).mono ?_; rintro e w' ⟨rfl, rfl⟩))
  go_ret
  exact ⟨rfl, rfl⟩
set_option maxRecDepth 100000 in
set_option maxHeartbeats 1000000 in
theorem law_OffsPuts (k off : Int) (w : World) (hK : Kinds w) (hk : -9223372036854775808 ≤ k) (hk' : k ≤ 9223372036854775807) (ho : -9223372036854775808 ≤ off) (ho' : off ≤ 9223372036854775807) :
    Calls Tryd.prog 3 #[.int .i64 k, .int .i64 off] w fun e w' => e = .returned (.bool true) ∧ w = w' := by
  have HK := Lib.hid hK
  clear hK
  obtain ⟨A, hA⟩ : ∃ A, A = Num.putA k off := ⟨_, rfl⟩
  obtain ⟨B, hB⟩ : ∃ B, B = Num.putB k off := ⟨_, rfl⟩
  have e1 : putV k off = .tuple #[.int .i64 A, .int .i64 B] := by rw [hA, hB]; rfl
  clear hA hB
  go_enter Tryd.func3, Tryd.ntmps3
  go_wp2_with (first | (go_at_call 8; refine (offs_Put _ _ _ HK.out (by omega) (by omega) (by omega) (by omega)).mono ?_; rintro e w' ⟨rfl, rfl⟩; simp only [e1]) | (go_at_call 9; refine (ref_PutO _ _ _ (by omega) (by omega) (by omega) (by omega)).mono ?_; rintro e w' ⟨rfl, rfl⟩; simp only [e1]) | (go_at_call 10; refine (offs_Fits _ _ _ HK.out (by omega) (by omega) (by omega) (by omega)).mono ?_; rintro e w' ⟨rfl, rfl⟩) | (go_at_call 11; refine (ref_Fits _ _ _ (by omega) (by omega) (by omega) (by omega)).mono ?_; rintro e w' ⟨rfl, rfl⟩) | (go_at_call 12; refine (awake3 _ HK.out).mono ?_; rintro e w' ⟨rfl, rfl⟩))
  go_ret
  exact ⟨rfl, rfl⟩
set_option maxRecDepth 100000 in
set_option maxHeartbeats 1000000 in
theorem law_OffsGets (k a b : Int) (w : World) (hK : Kinds w) (hk : -9223372036854775808 ≤ k) (hk' : k ≤ 9223372036854775807) :
    Calls Tryd.prog 4 #[.int .i64 k, .int .i64 a, .int .i64 b] w fun e w' => e = .returned (.bool true) ∧ w = w' := by
  have HK := Lib.hid hK
  clear hK
  go_enter Tryd.func4, Tryd.ntmps4
  go_wp2_with (first | (go_at_call 13; refine (offs_Get _ _ _ _ HK.out (by omega) (by omega)).mono ?_; rintro e w' ⟨rfl, rfl⟩) | (go_at_call 14; refine (ref_GetO _ _ _ _ (by omega) (by omega)).mono ?_; rintro e w' ⟨rfl, rfl⟩) | (go_at_call 12; refine (awake3 _ HK.out).mono ?_; rintro e w' ⟨rfl, rfl⟩))
  go_ret
  exact ⟨rfl, rfl⟩
theorem getO_bd (k a b : Int) : -4611686018427387904 ≤ Num.getO k a b ∧ Num.getO k a b ≤ 4611686018427387904 := by
  have h1 := sign_bd (a % 4294967296) 8 (by omega) (by omega)
  have h2 := sign_bd (a % 4294967296) 11 (by omega) (by omega)
  have h3 := sign_bd (Num.get3 a b) 20 (by omega) (by omega)
  have h4 := sign_bd (Num.get4 a b) 24 (by omega) (by omega)
  unfold Num.getO
  repeat' split
  all_goals omega
theorem get_put (k a b : Int) (h : 1 ≤ k) (h1 : k ≤ 5) : Num.getO k (Num.putA k (Num.getO k a b)) (Num.putB k (Num.getO k a b)) = Num.getO k a b := by
  have hf := Num.get_fits k a b h h1
  generalize Num.getO k a b = off at *
  have zz : ∀ A M : Int, 0 ≤ A → A < 65536 → bits .or .i64 A (bits .andNot .i64 0 M) = A := by
    intro A M hA hA'
    have e1 : Num.u (bits .or .i64 A (bits .andNot .i64 0 M)) = A.toNat := by
      rw [Num.u_or, Num.u_andNot, Num.u_small A hA (by omega), show Num.u 0 = 0 from rfl]; simp
    have e2 : bits .andNot .i64 0 M = 0 := by
      show IntKind.i64.wrap ((BitVec.ofInt 64 0 &&& ~~~ BitVec.ofInt 64 M).toNat : Int) = 0
      have : (BitVec.ofInt 64 0 &&& ~~~ BitVec.ofInt 64 M) = 0#64 := by
        rw [show BitVec.ofInt 64 0 = 0#64 from rfl, BitVec.zero_and]
      rw [this]; rfl
    rw [e2]
    show IntKind.i64.wrap ((BitVec.ofInt 64 A ||| BitVec.ofInt 64 0).toNat : Int) = A
    rw [show BitVec.ofInt 64 0 = 0#64 from rfl, BitVec.or_zero, Num.ofInt_u, Num.u_small A hA (by omega), IntKind.wrap_i64]; omega
  have key : ∀ m0 m1, Num.Back k off 0 0 m0 m1 → 0 ≤ Num.putA k off → Num.putA k off < 65536 → 0 ≤ Num.putB k off → Num.putB k off < 65536 → Num.getO k (Num.putA k off) (Num.putB k off) = off := by
    intro m0 m1 hb p1 p2 p3 p4
    have := hb.g
    rw [zz _ _ p1 p2, zz _ _ p3 p4] at this
    exact this
  have hs := Num.sgn01 off
  have b1 := Num.nxor_bd (off / 8388608 % 2) (Num.sgn off)
  have b2 := Num.nxor_bd (off / 4194304 % 2) (Num.sgn off)
  rcases kind_cases h h1 with rfl | rfl | rfl | rfl | rfl
  · exact key _ _ (Num.bk1 off 0 0 hf) (by simp [Num.putA, hf]; omega) (by simp [Num.putA, hf]; omega) (by simp [Num.putB, hf]) (by simp [Num.putB, hf])
  · exact key _ _ (Num.bk2 off 0 0 hf) (by simp [Num.putA, hf]; omega) (by simp [Num.putA, hf]; omega) (by simp [Num.putB, hf]) (by simp [Num.putB, hf])
  · exact key _ _ (Num.bk3 off 0 0 hf) (by simp [Num.putA, hf]; omega) (by simp [Num.putA, hf]; omega) (by simp [Num.putB, hf]; omega) (by simp [Num.putB, hf]; omega)
  · exact key _ _ (Num.bk4 off 0 0 hf) (by simp [Num.putA, hf]; omega) (by simp [Num.putA, hf]; omega) (by simp [Num.putB, hf]; omega) (by simp [Num.putB, hf]; omega)
  · exact key _ _ (Num.bk5 off 0 0 hf) (by simp [Num.putA, hf]; omega) (by simp [Num.putA, hf]; omega) (by simp [Num.putB, hf]) (by simp [Num.putB, hf])
set_option maxRecDepth 100000 in
set_option maxHeartbeats 1000000 in
theorem law_OffsAll (k a b : Int) (w : World) (hK : Kinds w) (hk : -9223372036854775808 ≤ k) (hk' : k ≤ 9223372036854775807) :
    Calls Tryd.prog 6 #[.int .i64 k, .int .i64 a, .int .i64 b] w fun e w' => e = .returned (.bool true) ∧ w = w' := by
  have HK := Lib.hid hK
  clear hK
  by_cases hin : 1 ≤ k ∧ k ≤ 5
  · obtain ⟨h1, h2⟩ := hin
    have hf := Num.get_fits k a b h1 h2
    have hg := get_put k a b h1 h2
    have hb := getO_bd k a b
    obtain ⟨off, hoff⟩ : ∃ off, off = Num.getO k a b := ⟨_, rfl⟩
    rw [← hoff] at hf hg hb
    obtain ⟨A, hA⟩ : ∃ A, A = Num.putA k off := ⟨_, rfl⟩
    obtain ⟨B, hB⟩ : ∃ B, B = Num.putB k off := ⟨_, rfl⟩
    rw [← hA, ← hB] at hg
    have e1 : putV k off = .tuple #[.int .i64 A, .int .i64 B] := by rw [hA, hB]; rfl
    have HO := Lib.hid hoff
    clear hA hB hoff
    go_enter Tryd.func6, Tryd.ntmps6
    go_wp2_with fail
    refine (offs_Get _ _ _ _ HK.out (by omega) (by omega)).mono ?_
    rintro e w' ⟨rfl, rfl⟩
    rw [← HO.out]
    go_wp2_with (first | (go_at_call 8; refine (offs_Put _ _ _ HK.out (by omega) (by omega) (by omega) (by omega)).mono ?_; rintro e w' ⟨rfl, rfl⟩; simp only [e1]) | (go_at_call 13; refine (offs_Get _ _ _ _ HK.out (by omega) (by omega)).mono ?_; rintro e w' ⟨rfl, rfl⟩) | (go_at_call 10; refine (offs_Fits _ _ _ HK.out (by omega) (by omega) (by omega) (by omega)).mono ?_; rintro e w' ⟨rfl, rfl⟩) | (go_at_call 12; refine (awake3 _ HK.out).mono ?_; rintro e w' ⟨rfl, rfl⟩))
    go_ret
    exact ⟨rfl, rfl⟩
  · have hg := getO_none (a := a) (b := b) (show k < 1 ∨ 5 < k by omega)
    by_cases h1 : k < 1
    all_goals
      go_enter Tryd.func6, Tryd.ntmps6
      go_wp2_with (first | (go_at_call 13; refine (offs_Get _ _ _ _ HK.out (by omega) (by omega)).mono ?_; rintro e w' ⟨rfl, rfl⟩) | (go_at_call 12; refine (awake3 _ HK.out).mono ?_; rintro e w' ⟨rfl, rfl⟩))
      go_ret
      exact ⟨rfl, rfl⟩
end Go.Proofs.YtapenhbfpcmpnaaDoor
