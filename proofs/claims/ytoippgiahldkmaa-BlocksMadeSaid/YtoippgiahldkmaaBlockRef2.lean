/- Contracts of the references' Inside, Cond, and of the statements' bools. -/
import Derived.Test.YtoippgiahldkmaaBlockRef
namespace Go.Proofs.Ytoippgiahldkmaa
open Go.RowKit Mem
set_option linter.unusedVariables false
theorem bls_append (a b : List Bool) : bls (a ++ b) = bls a ++ bls b := by simp [bls]
set_option maxRecDepth 100000 in
set_option maxHeartbeats 2000000 in
theorem ref21_Inside (A : Option Addr) (n c B : Nat) (ls : List Ln) (w : World) (hx : Lines w B A n ls) (hB : B ≤ w.heap.size) (hn : n ≤ 1000) :
    Calls Try.prog 26 #[.slice A n c] w fun e w' => ∃ A1 c1, e = .returned (.slice A1 n c1) ∧ Bools w' w'.heap.size A1 n (insideOf ls) ∧ Below w.heap.size w w' := by
  have HX := Lib.hid hx
  have HLL := Lib.hid hx.len
  clear hx
  obtain ⟨i0, hi, hz0, hz1, hz2⟩ := info_parts Try.infoBool
  obtain ⟨os, hos⟩ : ∃ os, os = (aSt ls).1 := ⟨_, rfl⟩
  have HOS := Lib.hid hos
  have HOL := Lib.hid (show os.length = n by rw [hos, aSt_len]; exact HLL.out)
  clear hos
  go_enter Try.func26, Try.ntmps26
  go_wp2_with fail
  refine (ref21_conds _ _ _ _ _ _ HX.out hB hn).mono ?_
  rintro e w1 ⟨v1, rfl, hown, hb1⟩
  rw [← HOS.out] at hown
  obtain ⟨A1, c1, rfl, hc1, _⟩ := own_shape hown
  have HI := Lib.hid (Ints.of_own hown); have HB1 := Lib.hid hb1
  clear hown hb1
  go_wp2_with fail
  go_loopw [3, 5] (fun v iv wr => ∃ k : Nat, k ≤ n ∧ iv = .int .i64 k ∧ wr.ownsRow w1.heap.size 4 1 v k (bls ((os.take k).map fun x => decide (0 ≤ x))) ∧ Below w1.heap.size w1 wr) (fun _ iv _ => n - (intOf iv).toNat)
  case atStart => exact ⟨0, by omega, rfl, own_nil _ _ _, Below.refl _ _⟩
  case round =>
    obtain ⟨k, hk, rfl, hown, hbel⟩ := hrel
    have HB2 := Lib.hid hbel; have HO := Lib.hid hown
    clear hbel hown
    have hsz := HB2.out.size
    by_cases hlt : k < n
    · obtain ⟨ad, x, rfl, hb, hx, hc⟩ := (HI.out.below HB2.out).get hlt
      have HT := Lib.hid (show bls ((os.take (k + 1)).map fun x => decide (0 ≤ x)) = bls ((os.take k).map fun x => decide (0 ≤ x)) ++ [.bool (decide (0 ≤ x))] by
        rw [List.take_add_one, hx]; simp [bls])
      clear hx
      go_wp2_with (at_builtin; refine wpList_append_lies _ rfl _ _ _ rfl w1.heap.size 4 i0 _ 1 1 Try.underlying42 hi hz0 hz1 hz2 rfl (by omega) _ k (bls ((os.take k).map fun x => decide (0 ≤ x))) rfl (HO.out.alloc _) ⟨wr.heap.size, 0, none⟩ 1 1 [.bool (decide (0 ≤ x))] rfl rfl (World.news_of_block (cs := #[.bool (decide (0 ≤ x))]) (t := 4) (fr := (0, 0)) (heap_alloc_new wr _)) (by simp [Value.oneCell']) (by omega) (by unfold maxLen; omega) (by omega) (by simp; omega) (wr.heap.size + 1) (by simp) ?_; intro g cap wx hown1 hgrow hat hlt1)
      have HB3 := Lib.hid ((HB2.out.alloc HB2.out.size (.cells #[.bool (decide (0 ≤ x))] 4)).grown hgrow (by simp; omega) (fun q hq => ((own_block HO.out) q hq).1))
      have HW := Lib.hid (show wx.ownsRow w1.heap.size 4 1 (.slice (some ⟨g, 0, none⟩) (k + 1) cap) (k + 1) (bls ((os.take (k + 1)).map fun x => decide (0 ≤ x))) by rw [HT.out]; exact hown1)
      clear hown1 hgrow hat
      go_wp2
      go_roundw
      case rel => exact ⟨k + 1, by omega, by go_num, HW.out, HB3.out⟩
      case measure => simp [intOf]; omega
    · obtain rfl : n = k := by omega
      obtain ⟨A2, c2, rfl, _, _⟩ := own_shape HO.out
      have HE := Lib.hid (show Bools wr wr.heap.size A2 n (insideOf ls) by
        have h1 := Sl.of_own HO.out
        rw [List.take_of_length_le (by rw [HOL.out]; exact Nat.le_refl _), HOS.out, inside_alt] at h1
        exact h1)
      go_wp2
      go_ret
      exact ⟨_, _, rfl, HE.out, HB1.out.trans (HB2.out.mono HB1.out.size)⟩
set_option maxRecDepth 100000 in
set_option maxHeartbeats 2000000 in
theorem ref21_Cond (A : Option Addr) (n c B : Nat) (ls : List Ln) (i : Int) (w : World) (hx : Lines w B A n ls) (hB : B ≤ w.heap.size) (hn : n ≤ 1000) (h0 : -9223372036854775808 ≤ i) (h1 : i ≤ 9223372036854775807) :
    Calls Try.prog 28 #[.slice A n c, .int .i64 i] w fun e w' => e = .returned (.int .i64 (condOf ls i)) ∧ Below w.heap.size w w' := by
  have HX := Lib.hid hx
  have HLL := Lib.hid hx.len
  clear hx
  by_cases hneg : i < 0
  · go_enter Try.func28, Try.ntmps28
    go_wp2_with fail
    refine (ref21_conds _ _ _ _ _ _ HX.out hB hn).mono ?_
    rintro e w1 ⟨v1, rfl, hown, hb1⟩
    have HB1 := Lib.hid hb1
    clear hown hb1
    go_wp2
    go_ret
    exact ⟨ret_int (condOf_neg hneg).symm, HB1.out⟩
  obtain ⟨k, rfl⟩ := Int.eq_ofNat_of_zero_le (show 0 ≤ i by omega)
  by_cases hbig : n ≤ k
  · have hd : decide (n ≤ k) = true := by simp; exact hbig
    go_enter Try.func28, Try.ntmps28
    go_wp2_with fail
    refine (ref21_conds _ _ _ _ _ _ HX.out hB hn).mono ?_
    rintro e w1 ⟨v1, rfl, hown, hb1⟩
    obtain ⟨A1, c1, rfl, hc1, _⟩ := own_shape hown
    have HB1 := Lib.hid hb1
    clear hown hb1
    go_wp2
    go_ret
    exact ⟨ret_int (condOf_big (by rw [HLL.out]; omega)).symm, HB1.out⟩
  have hd : decide (n ≤ k) = false := by simp; omega
  obtain ⟨x, hx⟩ : ∃ x, (aSt ls).1[k]? = some x := ⟨(aSt ls).1[k]'(by rw [aSt_len, HLL.out]; omega), List.getElem?_eq_getElem _⟩
  have hxb := (askOk_all ls).1 x (List.mem_of_getElem? hx)
  have HC := Lib.hid (condOf_at hx)
  have HXK := Lib.hid hx
  clear hx
  have hkn : (k : Int) < (n : Int) := by omega
  by_cases hx1 : x < 0
  · go_enter Try.func28, Try.ntmps28
    go_wp2_with fail
    refine (ref21_conds _ _ _ _ _ _ HX.out hB hn).mono ?_
    rintro e w1 ⟨v1, rfl, hown, hb1⟩
    obtain ⟨A1, c1, rfl, hc1, _⟩ := own_shape hown
    obtain ⟨ad, y, rfl, hb, hy, hc⟩ := (Ints.of_own hown).get (k := k) (by omega)
    obtain rfl : x = y := by rw [HXK.out] at hy; exact Option.some.inj hy
    have HB1 := Lib.hid hb1
    clear hown hb1 hy
    go_wp2
    go_ret
    exact ⟨ret_int (by rw [HC.out, if_pos (by omega)]), HB1.out⟩
  · go_enter Try.func28, Try.ntmps28
    go_wp2_with fail
    refine (ref21_conds _ _ _ _ _ _ HX.out hB hn).mono ?_
    rintro e w1 ⟨v1, rfl, hown, hb1⟩
    obtain ⟨A1, c1, rfl, hc1, _⟩ := own_shape hown
    obtain ⟨ad, y, rfl, hb, hy, hc⟩ := (Ints.of_own hown).get (k := k) (by omega)
    obtain rfl : x = y := by rw [HXK.out] at hy; exact Option.some.inj hy
    have HB1 := Lib.hid hb1
    clear hown hb1 hy
    go_wp2
    go_ret
    exact ⟨ret_int (by rw [HC.out, if_neg (by omega)]), HB1.out⟩
set_option maxRecDepth 100000 in
set_option maxHeartbeats 400000 in
theorem law_bools (A A' : Option Addr) (n n' c c' B : Nat) (xs ys : List Bool) (w : World) (ha : Bools w B A n xs) (hb : Bools w B A' n' ys) (hn : n ≤ 9223372036854775807) (hn' : n' ≤ 9223372036854775807) :
    Calls Try.prog 24 #[.slice A n c, .slice A' n' c'] w fun e w' => e = .returned (.bool (decide (xs = ys))) ∧ ∃ m, w' = w.drewN m := by
  have HA := Lib.hid ha; have HB := Lib.hid hb
  clear ha hb
  by_cases hne : n = n'
  · subst hne
    go_enter Try.func24, Try.ntmps24
    go_wp2
    go_loopw [5] (fun i wr => ∃ k m : Nat, k ≤ n ∧ i = .int .i64 k ∧ wr = w.drewN m ∧ xs.take k = ys.take k) (fun i _ => n - (intOf i).toNat)
    case atStart => exact ⟨0, 0, by omega, rfl, rfl, by simp⟩
    case round =>
      obtain ⟨k, m, hk, rfl, rfl, heq⟩ := hrel
      have HE := Lib.hid heq
      clear heq
      by_cases hlt : k < n
      · obtain ⟨ad, z, rfl, hb1, hz, hc⟩ := HA.out.get hlt
        obtain ⟨ad', z', rfl, hb2, hz', hc'⟩ := HB.out.get hlt
        have HZ := Lib.hid hz; have HZ' := Lib.hid hz'
        clear hz hz'
        cases hzz : (z == z') with
        | false =>
          have HF := Lib.hid (show decide (xs = ys) = false from decide_eq_false (fun e => by
            subst e; have := HZ.out.symm.trans HZ'.out; simp at this hzz; exact hzz this))
          go_wp2
          go_quiet (fail)
          go_wp2
          go_ret
          exact ⟨by rw [HF.out]; rfl, _, World.drewN_drewN _ _ _⟩
        | true =>
          have HT := Lib.hid (show xs.take (k + 1) = ys.take (k + 1) from by
            simp at hzz; subst hzz
            rw [List.take_add_one, List.take_add_one, HE.out, HZ.out, HZ'.out])
          go_wp2
          go_quiet (fail)
          go_wp2
          go_roundw
          case rel => exact ⟨k + 1, _, by omega, by go_num, by first | exact World.drewN_drewN _ _ _ | rfl, HT.out⟩
          case measure => simp [intOf]; omega
      · obtain rfl : k = n := by omega
        have HT := Lib.hid (show decide (xs = ys) = true from decide_eq_true (by
          have h1 := HA.out.len; have h2 := HB.out.len
          have := HE.out
          rw [List.take_of_length_le (by omega), List.take_of_length_le (by omega)] at this
          exact this))
        go_wp2
        go_ret
        exact ⟨by rw [HT.out]; rfl, _, rfl⟩
  · have HF := Lib.hid (show decide (xs = ys) = false from decide_eq_false (fun e => by
      have h1 := HA.out.len; have h2 := HB.out.len; subst e; omega))
    have hnn : ((n : Int) != (n' : Int)) = true := by simp; omega
    go_enter Try.func24, Try.ntmps24
    go_wp2
    go_ret
    exact ⟨by rw [HF.out]; rfl, 0, rfl⟩
end Go.Proofs.Ytoippgiahldkmaa
