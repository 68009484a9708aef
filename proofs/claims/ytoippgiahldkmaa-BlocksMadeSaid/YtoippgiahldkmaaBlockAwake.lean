/- Law 21's awake: chapter 21's example. -/
import Derived.Test.YtoippgiahldkmaaBlockFour
namespace Go.Proofs.Ytoippgiahldkmaa
open Go.RowKit Mem
set_option linter.unusedVariables false
set_option maxRecDepth 100000 in
set_option maxHeartbeats 4000000 in
theorem law21_awake (w : World) : Calls Try.prog 23 #[] w fun e w' => e = .returned (.bool true) ∧ Below w.heap.size w w' := by
  go_enter Try.func23, Try.ntmps23
  go_wp2_with fail
  refine (law_it 0 b0 _).mono ?_
  rintro e w1 ⟨rfl, hb1⟩
  obtain ⟨X1, hX1⟩ : ∃ X, X = (itL 0 8).cells.toArray := ⟨_, rfl⟩
  rw [← hX1]
  have HX1 := Lib.hid hX1
  clear hX1
  go_wp2_with fail
  refine (law_mov 0 b0 _).mono ?_
  rintro e w2 ⟨rfl, hb2⟩
  obtain ⟨X2, hX2⟩ : ∃ X, X = (movL 0).cells.toArray := ⟨_, rfl⟩
  rw [← hX2]
  have HX2 := Lib.hid hX2
  clear hX2
  go_wp2_with fail
  refine (law_mov 14 b14 _).mono ?_
  rintro e w3 ⟨rfl, hb3⟩
  obtain ⟨X3, hX3⟩ : ∃ X, X = (movL 14).cells.toArray := ⟨_, rfl⟩
  rw [← hX3]
  have HX3 := Lib.hid hX3
  clear hX3
  obtain ⟨r, hr, hl⟩ := build3 w3
  rw [← HX1.out, ← HX2.out, ← HX3.out] at hr
  have HB := Lib.hid (hb1.trans ((hb2.mono hb1.size).trans (hb3.mono (Nat.le_trans hb1.size hb2.size))))
  have HL := Lib.hid hl
  clear hl hb1 hb2 hb3
  go_wp2_with (first | fail | refine wpList_build_any rfl 40 3 _ rfl #[(0, .agg X1), (1, .agg X2), (2, .agg X3)] (by simp [go_sem]) _ hr ?_)
  clear hr
  have hz4 : (w3.alloc (.cells r 56)).heap.size = w3.heap.size + 1 := World.size_alloc' _ _
  have HB4 := Lib.hid (HB.out.trans ((Below.refl _ _).alloc HB.out.size (.cells r 56)))
  generalize w3.alloc (.cells r 56) = w4 at HL HB4 hz4 ⊢
  refine (blocks_Inside _ _ _ _ l3 _ HL.out (by omega) (by omega)).mono ?_
  rintro e w5 ⟨A5, c5, rfl, hbo, hb5⟩
  obtain ⟨ad, z0, rfl, hblk, hi0, hc0⟩ := hbo.get (k := 0) (by omega)
  obtain ⟨ad1, z1, e1, _, hi1, hc1⟩ := hbo.get (k := 1) (by omega)
  obtain ⟨ad2, z2, e2, _, hi2, hc2⟩ := hbo.get (k := 2) (by omega)
  cases e1; cases e2
  rw [in3] at hi0 hi1 hi2
  cases hi0; cases hi1; cases hi2
  have HL5 := Lib.hid (HL.out.below (hb5.mono (by omega)))
  have HB5 := Lib.hid (HB4.out.trans (hb5.mono HB4.out.size))
  have hz5 := hb5.size
  clear hbo hb5
  go_wp2_with fail
  refine (blocks_Check _ _ _ _ l3 _ HL5.out (by omega) (by omega)).mono ?_
  rintro e w6 ⟨rfl, hb6⟩
  rw [ck3]
  have HL6 := Lib.hid (HL5.out.below (hb6.mono (by omega)))
  have HB6 := Lib.hid (HB5.out.trans (hb6.mono HB5.out.size))
  have hz6 := hb6.size
  replace hc0 := (hb6.cell (p := ad.add 0) (by rw [add_block]; exact hblk)).trans hc0
  replace hc1 := (hb6.cell (p := ad.add 1) (by rw [add_block]; exact hblk)).trans hc1
  replace hc2 := (hb6.cell (p := ad.add 2) (by rw [add_block]; exact hblk)).trans hc2
  rw [Mem.add_zero] at hc0
  rw [show ad.add 1 = ⟨ad.block, ad.off + 1, none⟩ from rfl] at hc1
  rw [show ad.add 2 = ⟨ad.block, ad.off + 2, none⟩ from rfl] at hc2
  clear hb6
  go_wp2_with fail
  refine (blocks_Cond _ _ _ _ l3 1 _ HL6.out (by omega) (by omega) (by omega) (by omega)).mono ?_
  rintro e w7 ⟨rfl, hb7⟩
  rw [c31]
  have HL7 := Lib.hid (HL6.out.below (hb7.mono (by omega)))
  have HB7 := Lib.hid (HB6.out.trans (hb7.mono HB6.out.size))
  have hz7 := hb7.size
  clear hb7
  go_wp2_with fail
  refine (blocks_Cond _ _ _ _ l3 2 _ HL7.out (by omega) (by omega) (by omega) (by omega)).mono ?_
  rintro e w8 ⟨rfl, hb8⟩
  rw [c32]
  have HB8 := Lib.hid (HB7.out.trans (hb8.mono HB7.out.size))
  clear hb8 hc0 hc1 hc2
  go_wp2_with fail
  refine (law_it 0 b0 _).mono ?_
  rintro e w9 ⟨rfl, hb9⟩
  rw [← HX1.out]
  have HB9 := Lib.hid (HB8.out.trans (hb9.mono HB8.out.size))
  clear hb9
  go_wp2_with fail
  refine (law_mov 1 b1 _).mono ?_
  rintro e w10 ⟨rfl, hb10⟩
  obtain ⟨X4, hX4⟩ : ∃ X, X = (movL 1).cells.toArray := ⟨_, rfl⟩
  rw [← hX4]
  have HX4 := Lib.hid hX4
  have HB10 := Lib.hid (HB9.out.trans (hb10.mono HB9.out.size))
  clear hb10 hX4
  obtain ⟨r2, hr2, hl2⟩ := build2 w10
  rw [← HX1.out, ← HX4.out] at hr2
  have HL2 := Lib.hid hl2
  clear hl2
  go_wp2_with (refine wpList_build_g (by rfl) 40 2 _ rfl #[(0, .agg X1), (1, .agg X4)] (by simp [go_sem]) _ hr2 ?_)
  clear hr2
  have hz11 : (w10.alloc (.cells r2 56)).heap.size = w10.heap.size + 1 := World.size_alloc' _ _
  have HB11 := Lib.hid (HB10.out.trans ((Below.refl _ _).alloc HB10.out.size (.cells r2 56)))
  generalize w10.alloc (.cells r2 56) = w11 at HL2 HB11 hz11 ⊢
  refine (blocks_Check _ _ _ _ l2 _ HL2.out (by omega) (by omega)).mono ?_
  rintro e w12 ⟨rfl, hb12⟩
  rw [ck2]
  have HB12 := Lib.hid (HB11.out.trans (hb12.mono HB11.out.size))
  clear hb12
  go_wp2_with fail
  refine (law_it 0 b0 _).mono ?_
  rintro e w13 ⟨rfl, hb13⟩
  rw [← HX1.out]
  have HB13 := Lib.hid (HB12.out.trans (hb13.mono HB12.out.size))
  clear hb13
  obtain ⟨r3, hr3, hl3⟩ := build1 w13
  rw [← HX1.out] at hr3
  have HL3 := Lib.hid hl3
  clear hl3
  go_wp2_with (refine wpList_build_g (by rfl) 40 1 _ rfl #[(0, .agg X1)] (by simp [go_sem]) _ hr3 ?_)
  clear hr3
  have hz14 : (w13.alloc (.cells r3 56)).heap.size = w13.heap.size + 1 := World.size_alloc' _ _
  have HB14 := Lib.hid (HB13.out.trans ((Below.refl _ _).alloc HB13.out.size (.cells r3 56)))
  generalize w13.alloc (.cells r3 56) = w14 at HL3 HB14 hz14 ⊢
  refine (blocks_Check _ _ _ _ l1 _ HL3.out (by omega) (by omega)).mono ?_
  rintro e w15 ⟨rfl, hb15⟩
  rw [ck1]
  have HB15 := Lib.hid (HB14.out.trans (hb15.mono HB14.out.size))
  clear hb15
  go_wp2_with fail
  go_ret
  exact ⟨rfl, HB15.out⟩
end Go.Proofs.Ytoippgiahldkmaa
