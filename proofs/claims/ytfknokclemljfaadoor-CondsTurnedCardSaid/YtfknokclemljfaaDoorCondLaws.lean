/- The examples of chapter 4 (awake), and the walks of layer 4's statements: each returns true, and the world keeps all that was there. -/
import Derived.Test.YtfknokclemljfaaDoorCondWords
import Derived.Test.YtfknokclemljfaaDoorCondConds
import Derived.Test.YtfknokclemljfaaDoorIntsWalk
import Derived.Deep.RegionHeld3
import Derived.Deep.DrawnRows
namespace Go.Proofs.YtfknokclemljfaaDoor
open Go.RowKit Mem
set_option linter.unusedVariables false
theorem xm1 : mask 0 [] = 8 := by decide
theorem xm2 : mask 0 [true, false] = 6 := by decide
theorem xc1 : condsL 1 8 = [1] := by decide
theorem xh1 : hold 0 false true false false = true := by decide
theorem xh2 : hold 1 false true false false = false := by decide
theorem xn1 : nameOf 13 = ⟨#[108, 101]⟩ := by decide
theorem xf1 : findC ⟨#[104, 115]⟩ = 2 := by decide
theorem xt1 : other 10 = 11 := by decide
theorem xx1 : nextIt 6 = 12 := by decide
theorem xd1 : condIt 22 = 1 := by decide
theorem xd2 : condIt 0 = 14 := by decide
theorem lit_bools (w : World) : Bools (w.alloc (.cells #[.bool true, .bool false] 4)) (w.heap.size + 1) (some ⟨w.heap.size, 0, none⟩) 2 [true, false] := by
  refine ⟨rfl, fun _ => ⟨_, rfl, by simp, fun j u hu => ?_⟩⟩
  match j, hu with
  | 0, hu => cases hu; simp [go_sem]
  | 1, hu => cases hu; simp [go_sem]
theorem lit_int (w : World) (x : Int) : Ints (w.alloc (.cells #[.int .i64 x] 3)) (w.heap.size + 1) (some ⟨w.heap.size, 0, none⟩) 1 [x] := by
  refine ⟨rfl, fun _ => ⟨_, rfl, by simp, fun j u hu => ?_⟩⟩
  match j, hu with
  | 0, hu => cases hu; simp [go_sem]
set_option maxRecDepth 100000 in
set_option maxHeartbeats 2000000 in
theorem awake04 (w : World) (ht : Tab w) :
    Calls Tryd.prog 16 #[] w fun e w' => e = .returned (.bool true) ∧ Below w.heap.size w w' := by
  have HT := Lib.hid ht
  clear ht
  go_enter Tryd.func16, Tryd.ntmps16
  go_wp2_with fail
  refine (conds_Mask 0 none 0 0 0 [] _ Bools.nil (by omega) (by omega) (by omega)).mono ?_
  rintro e w' ⟨rfl, rfl⟩
  rw [xm1]
  go_wp2_with fail
  refine (conds_Mask 0 _ 2 2 (w.heap.size + 1) [true, false] _ (lit_bools w) (by omega) (by omega) (by omega)).mono ?_
  rintro e w' ⟨rfl, rfl⟩
  rw [xm2]
  go_wp2_with fail
  refine (conds_Conds 1 8 _ (by omega) (by omega) (by omega) (by omega)).mono ?_
  rintro e w1 ⟨v, rfl, hown, hb1⟩
  rw [xc1] at hown
  obtain ⟨A, cp, rfl, _, hcp⟩ := own_shape hown
  have HB := Lib.hid (((Below.refl w.heap.size w).alloc (Nat.le_refl _) (.cells #[.bool true, .bool false] 4)).trans (hb1.mono (by simp)))
  have HI := Lib.hid (Ints.of_own hown)
  clear hown hb1
  go_wp2_with fail
  refine (ref_Ints _ _ 1 1 _ _ (w1.heap.size + 1) [1] [1] _ ((HI.out.alloc (Nat.le_refl _) _).more (by omega)) (lit_int w1 1) (by omega) (by omega)).mono ?_
  rintro e w2 ⟨rfl, mm, rfl⟩
  obtain ⟨w2, hw2⟩ : ∃ w2, w2 = (w1.alloc (.cells #[.int .i64 1] 3)).drewN mm := ⟨_, rfl⟩
  rw [← hw2]
  have HB2 := Lib.hid (show Below w.heap.size w w2 by rw [hw2]; exact below_drewN (HB.out.alloc HB.out.size _) _)
  clear hw2
  go_wp2_with fail
  refine (conds_Holds _ _ _ _ _ _ (by omega) (by omega)).mono ?_
  rintro e w' ⟨rfl, rfl⟩
  rw [xh1]
  go_wp2_with fail
  refine (conds_Holds _ _ _ _ _ _ (by omega) (by omega)).mono ?_
  rintro e w' ⟨rfl, rfl⟩
  rw [xh2]
  obtain ⟨w3, hw3⟩ : ∃ w3, w3 = (w2.alloc (.cells #[.bool false, .bool true, .bool false, .bool false] 23)).alloc (.cells #[.bool false, .bool true, .bool false, .bool false] 23) := ⟨_, rfl⟩
  rw [← hw3]
  have HB3 := Lib.hid (show Below w.heap.size w w3 by rw [hw3]; exact ((HB2.out.alloc HB2.out.size _).alloc (by have := HB2.out.size; simp; omega) _))
  have HT3 := Lib.hid (HT.out.keep HB3.out)
  clear hw3
  go_wp2_with fail
  refine (conds_Name _ _ HT3.out (by omega) (by omega)).mono ?_
  rintro e w' ⟨rfl, rfl⟩
  rw [xn1]
  go_wp2_with fail
  refine (conds_Find _ _ (HT3.out.alloc _)).mono ?_
  rintro e w4 ⟨rfl, hb4⟩
  rw [xf1]
  have HB4 := Lib.hid (show Below w.heap.size w w4 from (HB3.out.alloc HB3.out.size _).trans (hb4.mono (by have := HB3.out.size; simp; omega)))
  clear hb4
  go_wp2_with fail
  refine (conds_Turn _ _ (by omega) (by omega)).mono ?_
  rintro e w' ⟨rfl, rfl⟩
  rw [xt1]
  go_wp2_with fail
  refine (conds_Next _ _ (by omega) (by omega)).mono ?_
  rintro e w' ⟨rfl, rfl⟩
  rw [xx1]
  go_wp2_with fail
  refine (conds_Cond _ _ (by omega) (by omega)).mono ?_
  rintro e w' ⟨rfl, rfl⟩
  rw [xd1]
  go_wp2_with fail
  refine (conds_Cond _ _ (by omega) (by omega)).mono ?_
  rintro e w' ⟨rfl, rfl⟩
  rw [xd2]
  go_wp2
  go_ret
  exact ⟨rfl, HB4.out⟩
theorem Holds_b (k : Int) (n z c v : Bool) (w : World) (hk : -9223372036854775808 ≤ k) (hk' : k ≤ 9223372036854775807) :
    Calls Tryd.prog 10 #[.int .i64 k, .agg #[.bool n, .bool z, .bool c, .bool v]] w fun e w' => e = .returned (.bool (hold k n z c v)) ∧ Below w.heap.size w w' :=
  (conds_Holds k n z c v w hk hk').mono fun e w' ⟨h1, h2⟩ => ⟨h1, by rw [h2]; exact (Below.refl _ _).alloc (Nat.le_refl _) _⟩
theorem ref_Holds_b (k : Int) (n z c v : Bool) (w : World) (hk : -9223372036854775808 ≤ k) (hk' : k ≤ 9223372036854775807) :
    Calls Tryd.prog 11 #[.int .i64 k, .agg #[.bool n, .bool z, .bool c, .bool v]] w fun e w' => e = .returned (.bool (hold k n z c v)) ∧ Below w.heap.size w w' :=
  (ref_Holds k n z c v w hk hk').mono fun e w' ⟨h1, h2⟩ => ⟨h1, by rw [h2]; exact (Below.refl _ _).alloc (Nat.le_refl _) _⟩
theorem Name_b (c : Int) (w : World) (ht : Tab w) (hk : -9223372036854775808 ≤ c) (hk' : c ≤ 9223372036854775807) :
    Calls Tryd.prog 14 #[.int .i64 c] w fun e w' => e = .returned (.string (nameOf c)) ∧ Below w.heap.size w w' :=
  (conds_Name c w ht hk hk').mono fun e w' ⟨h1, h2⟩ => ⟨h1, by rw [h2]; exact (Below.refl _ _).alloc (Nat.le_refl _) _⟩
/-- What a region with calls keeps: the boxed flags, the table, all that was there. -/
def Kept (w w' : World) : Prop := w.heap.size < w'.heap.size ∧ Tab w' ∧ Below w.heap.size w w'
theorem kept_next {w w' w1 : World} {n z c v : Bool} (h : ((w'.cell? ⟨w.heap.size, 0, none⟩ = some (.bool n) ∧ w'.cell? ⟨w.heap.size, 1, none⟩ = some (.bool z)) ∧ (w'.cell? ⟨w.heap.size, 2, none⟩ = some (.bool c) ∧ w'.cell? ⟨w.heap.size, 3, none⟩ = some (.bool v))) ∧ Kept w w') (hb : Below w'.heap.size w' w1) :
    ((w1.cell? ⟨w.heap.size, 0, none⟩ = some (.bool n) ∧ w1.cell? ⟨w.heap.size, 1, none⟩ = some (.bool z)) ∧ (w1.cell? ⟨w.heap.size, 2, none⟩ = some (.bool c) ∧ w1.cell? ⟨w.heap.size, 3, none⟩ = some (.bool v))) ∧ Kept w w1 := by
  obtain ⟨⟨⟨a0, a1⟩, a2, a3⟩, k0, k1, k2⟩ := h
  exact ⟨⟨⟨(hb.cell (p := ⟨w.heap.size, 0, none⟩) k0).trans a0, (hb.cell (p := ⟨w.heap.size, 1, none⟩) k0).trans a1⟩, (hb.cell (p := ⟨w.heap.size, 2, none⟩) k0).trans a2, (hb.cell (p := ⟨w.heap.size, 3, none⟩) k0).trans a3⟩,
    Nat.lt_of_lt_of_le k0 hb.size, k1.keep hb, k2.trans (hb.mono (Nat.le_of_lt k0))⟩
theorem Kept.new {w : World} (ht : Tab w) (o : Obj) : Kept w (w.alloc o) := ⟨by simp, ht.alloc o, (Below.refl _ _).alloc (Nat.le_refl _) _⟩
theorem Kept.newd {w : World} (ht : Tab w) (o : Obj) : Kept w (w.alloc o).drew := ⟨(Kept.new ht o).1, (Kept.new ht o).2.1, (Kept.new ht o).2.2.drew⟩
theorem kept5 {w w' w1 : World} {n z c v : Bool} (a0 : w'.cell? ⟨w.heap.size, 0, none⟩ = some (.bool n)) (a1 : w'.cell? ⟨w.heap.size, 1, none⟩ = some (.bool z)) (a2 : w'.cell? ⟨w.heap.size, 2, none⟩ = some (.bool c)) (a3 : w'.cell? ⟨w.heap.size, 3, none⟩ = some (.bool v)) (k : Kept w w') (hb : Below w'.heap.size w' w1) :
    ((w1.cell? ⟨w.heap.size, 0, none⟩ = some (.bool n) ∧ w1.cell? ⟨w.heap.size, 1, none⟩ = some (.bool z)) ∧ (w1.cell? ⟨w.heap.size, 2, none⟩ = some (.bool c) ∧ w1.cell? ⟨w.heap.size, 3, none⟩ = some (.bool v))) ∧ Kept w w1 := kept_next ⟨⟨⟨a0, a1⟩, a2, a3⟩, k⟩ hb
theorem tab_held {w w' : World} {n z c v : Bool} (h : ((w'.cell? ⟨w.heap.size, 0, none⟩ = some (.bool n) ∧ w'.cell? ⟨w.heap.size, 1, none⟩ = some (.bool z)) ∧ (w'.cell? ⟨w.heap.size, 2, none⟩ = some (.bool c) ∧ w'.cell? ⟨w.heap.size, 3, none⟩ = some (.bool v))) ∧ Kept w w') : Tab w' := h.2.2.1
theorem bel_held {w w' : World} {n z c v : Bool} (h : ((w'.cell? ⟨w.heap.size, 0, none⟩ = some (.bool n) ∧ w'.cell? ⟨w.heap.size, 1, none⟩ = some (.bool z)) ∧ (w'.cell? ⟨w.heap.size, 2, none⟩ = some (.bool c) ∧ w'.cell? ⟨w.heap.size, 3, none⟩ = some (.bool v))) ∧ Kept w w') : Below w.heap.size w w' := h.2.2.2
theorem Kept.tab {w w' : World} (h : Kept w w') : Tab w' := h.2.1
theorem Kept.bel {w w' : World} (h : Kept w w') : Below w.heap.size w w' := h.2.2
attribute [local go_sem ↓] Go.wp_at_zero Go.wp_at_succ
set_option maxRecDepth 100000 in
set_option maxHeartbeats 4000000 in
theorem law_CondsHolds (k : Int) (n z c v : Bool) (w : World) (ht : Tab w) (hk : -9223372036854775808 ≤ k) (hk' : k ≤ 9223372036854775807) :
    Calls Tryd.prog 3 #[.int .i64 k, .agg #[.bool n, .bool z, .bool c, .bool v]] w fun e w' => e = .returned (.bool true) ∧ Below w.heap.size w w' := by
  obtain ⟨r, hr⟩ : ∃ r, r = hold k n z c v := ⟨_, rfl⟩
  have HR := Lib.hid hr
  clear hr
  have hK := Kept.newd ht (.cells #[.bool n, .bool z, .bool c, .bool v] 23)
  go_enter Tryd.func3, Tryd.ntmps3
  go_wp2
  go_region_held3 (fun w' => ((w'.cell? ⟨w.heap.size, 0, none⟩ = some (.bool n) ∧ w'.cell? ⟨w.heap.size, 1, none⟩ = some (.bool z)) ∧ (w'.cell? ⟨w.heap.size, 2, none⟩ = some (.bool c) ∧ w'.cell? ⟨w.heap.size, 3, none⟩ = some (.bool v))) ∧ Kept w w') (first | go_keep | (exact kept_next (by assumption) hbw)) (first | (go_at_call 10; refine (Holds_b _ _ _ _ _ _ hk hk').mono ?_; rintro e w1 ⟨rfl, hbw⟩) | (go_at_call 11; refine (ref_Holds_b _ _ _ _ _ _ hk hk').mono ?_; rintro e w1 ⟨rfl, hbw⟩) | (go_at_call 12; refine (conds_Turn _ _ hk hk').mono ?_; rintro e w1 ⟨rfl, rfl⟩) | (go_at_call 13; refine (ref_Turn _ _ hk hk').mono ?_; rintro e w1 ⟨rfl, rfl⟩) | (go_at_call 14; refine (Name_b _ _ (tab_held (w := w) (n := n) (z := z) (c := c) (v := v) (by assumption)) hk hk').mono ?_; rintro e w1 ⟨rfl, hbw⟩) | (go_at_call 15; refine (ref_Name _ _ hk hk').mono ?_; rintro e w1 ⟨rfl, hbw⟩) | (go_at_call 16; refine (awake04 _ (tab_held (w := w) (n := n) (z := z) (c := c) (v := v) (by assumption))).mono ?_; rintro e w1 ⟨rfl, hbw⟩))
  go_wp2
  go_ret
  exact ⟨rfl, bel_held (n := n) (z := z) (c := c) (v := v) (by assumption)⟩
set_option maxRecDepth 100000 in
set_option maxHeartbeats 1000000 in
theorem law_CondsNames (s : ByteArray) (w : World) (ht : Tab w) :
    Calls Tryd.prog 4 #[.string s] w fun e w' => e = .returned (.bool true) ∧ Below w.heap.size w w' := by
  have HT := Lib.hid ht
  clear ht
  go_enter Tryd.func4, Tryd.ntmps4
  go_wp2_with fail
  refine (conds_Find _ _ HT.out).mono ?_
  rintro e w1 ⟨rfl, hb1⟩
  have HB1 := Lib.hid hb1
  clear hb1
  go_wp2_with fail
  refine (ref_Find04 _ _).mono ?_
  rintro e w2 ⟨rfl, hb2⟩
  have HB2 := Lib.hid (HB1.out.trans (hb2.mono HB1.out.size))
  clear hb2
  go_wp2_with fail
  refine (awake04 _ (HT.out.keep HB2.out)).mono ?_
  rintro e w3 ⟨rfl, hb3⟩
  have HB3 := Lib.hid (HB2.out.trans (hb3.mono HB2.out.size))
  clear hb3
  go_wp2
  go_ret
  exact ⟨rfl, HB3.out⟩
set_option maxRecDepth 100000 in
set_option maxHeartbeats 1000000 in
theorem law_CondsStates (it : Int) (w : World) (ht : Tab w) (hk : -9223372036854775808 ≤ it) (hk' : it ≤ 9223372036854775807) :
    Calls Tryd.prog 6 #[.int .i64 it] w fun e w' => e = .returned (.bool true) ∧ Below w.heap.size w w' := by
  have HT := Lib.hid ht
  clear ht
  go_enter Tryd.func6, Tryd.ntmps6
  go_wp2_with (first | (go_at_call 24; refine (conds_Next _ _ hk hk').mono ?_; rintro e w1 ⟨rfl, rfl⟩) | (go_at_call 25; refine (ref_Next _ _ hk hk').mono ?_; rintro e w1 ⟨rfl, rfl⟩) | (go_at_call 26; refine (conds_Cond _ _ hk hk').mono ?_; rintro e w1 ⟨rfl, rfl⟩) | (go_at_call 27; refine (ref_Cond _ _ hk hk').mono ?_; rintro e w1 ⟨rfl, rfl⟩) | (go_at_call 16; refine (awake04 _ HT.out).mono ?_; rintro e w1 ⟨rfl, hb⟩))
  go_ret
  exact ⟨rfl, hb⟩
set_option maxRecDepth 100000 in
set_option maxHeartbeats 1000000 in
theorem law_CondsMasks (c m : Int) (A : Option Addr) (n cp : Nat) (l : List Bool) (w : World) (ht : Tab w) (hx : Bools w w.heap.size A n l) (hk : -9223372036854775808 ≤ c) (hk' : c ≤ 9223372036854775807) (hm : -9223372036854775808 ≤ m) (hm' : m ≤ 9223372036854775807) (hn : n ≤ 9223372036854775807) :
    Calls Tryd.prog 5 #[.int .i64 c, .int .i64 m, .slice A n cp] w fun e w' => e = .returned (.bool true) ∧ Below w.heap.size w w' := by
  have HT := Lib.hid ht
  have HX := Lib.hid hx
  clear ht hx
  by_cases h1 : 100 < n
  · go_enter Tryd.func5, Tryd.ntmps5
    go_wp2_with (go_at_call 16; refine (awake04 _ HT.out).mono ?_; rintro e w1 ⟨rfl, hb⟩)
    go_ret
    exact ⟨rfl, hb⟩
  have t1 : (mask c l == mask c l) = true := by simp
  go_enter Tryd.func5, Tryd.ntmps5
  go_wp2_with (first | (go_at_call 19; refine (conds_Mask _ _ _ _ _ _ _ HX.out hk hk' hn).mono ?_; rintro e w1 ⟨rfl, rfl⟩) | (go_at_call 20; refine (ref_Mask _ _ _ _ _ _ _ HX.out hk hk' hn).mono ?_; rintro e w1 ⟨rfl, rfl⟩))
  refine (conds_Conds _ _ _ hk hk' hm hm').mono ?_
  rintro e w1 ⟨v, rfl, hown, hb1⟩
  obtain ⟨A1, cp1, rfl, _, hcp⟩ := own_shape hown
  have HI := Lib.hid (Ints.of_own hown)
  have HB1 := Lib.hid hb1
  clear hown hb1
  go_wp2_with fail
  refine (ref_Conds _ _ _ hk hk' hm hm').mono ?_
  rintro e w2 ⟨v, rfl, hown, hb2⟩
  obtain ⟨A2, cp2, rfl, _, hcp2⟩ := own_shape hown
  have HI2 := Lib.hid (Ints.of_own hown)
  have HI1 := Lib.hid ((HI.out.below hb2).more hb2.size)
  have HB2 := Lib.hid (HB1.out.trans (hb2.mono HB1.out.size))
  have hlen : (condsL c m).length ≤ 9223372036854775807 := by unfold maxLen at hcp2; omega
  clear hown hb2
  go_wp2_with fail
  refine (ref_Ints _ _ _ _ _ _ _ _ _ _ HI1.out HI2.out hlen hlen).mono ?_
  rintro e w3 ⟨rfl, mm, rfl⟩
  obtain ⟨w3, hw3⟩ : ∃ w3, w3 = w2.drewN mm := ⟨_, rfl⟩
  rw [← hw3]
  have HB3 := Lib.hid (show Below w.heap.size w w3 by rw [hw3]; exact below_drewN HB2.out _)
  clear hw3
  go_wp2_with fail
  refine (awake04 _ (HT.out.keep HB3.out)).mono ?_
  rintro e w4 ⟨rfl, hb4⟩
  have HB4 := Lib.hid (HB3.out.trans (hb4.mono HB3.out.size))
  clear hb4
  go_wp2
  go_ret
  exact ⟨rfl, HB4.out⟩
end Go.Proofs.YtfknokclemljfaaDoor
