/- The walks of layer 4's statements CondsTurned, CondsBack, CondsWalk: each returns true, and the world keeps all that was there. -/
import Derived.Test.YtfknokclemljfaaDoorCondLaws
namespace Go.Proofs.YtfknokclemljfaaDoor
open Go.RowKit Mem
set_option linter.unusedVariables false
section
attribute [local go_sem ↓] Go.wp_at_zero Go.wp_at_succ
set_option maxRecDepth 100000 in
set_option maxHeartbeats 4000000 in
theorem turned_in (k : Int) (n z c v : Bool) (w : World) (ht : Tab w) (h0 : 0 ≤ k) (h1 : k ≤ 13) :
    Calls Tryd.prog 7 #[.int .i64 k, .agg #[.bool n, .bool z, .bool c, .bool v]] w fun e w' => e = .returned (.bool true) ∧ Below w.heap.size w w' := by
  have o := other_bd k
  obtain ⟨o0, o1⟩ := o
  have hk : -9223372036854775808 ≤ k := by omega
  have hk' : k ≤ 9223372036854775807 := by omega
  have ok : -9223372036854775808 ≤ other k := by omega
  have ok' : other k ≤ 9223372036854775807 := by omega
  have t0 := hold_other h0 h1 n z c v
  have t1 : (hold k n z c v == hold (other k) n z c v) = false := by
    rw [bne] at t0; simpa using t0
  have t2 : (other (other k) == k) = true := by rw [other_other h0 h1]; simp
  have t3 : (findC (nameOf k) == k) = true := by rw [find_name h0 h1]; simp
  have hK := Kept.newd ht (.cells #[.bool n, .bool z, .bool c, .bool v] 23)
  go_enter Tryd.func7, Tryd.ntmps7
  go_wp2
  go_region_held3 (fun w' => ((w'.cell? ⟨w.heap.size, 0, none⟩ = some (.bool n) ∧ w'.cell? ⟨w.heap.size, 1, none⟩ = some (.bool z)) ∧ (w'.cell? ⟨w.heap.size, 2, none⟩ = some (.bool c) ∧ w'.cell? ⟨w.heap.size, 3, none⟩ = some (.bool v))) ∧ Kept w w') (first | go_keep | (exact kept_next (by assumption) hbw)) (first | (go_at_call 10; refine (Holds_b _ _ _ _ _ _ (by assumption) (by assumption)).mono ?_; rintro e w1 ⟨rfl, hbw⟩) | (go_at_call 12; refine (conds_Turn _ _ (by assumption) (by assumption)).mono ?_; rintro e w1 ⟨rfl, rfl⟩) | (go_at_call 14; refine (Name_b _ _ (tab_held (w := w) (n := n) (z := z) (c := c) (v := v) (by assumption)) hk hk').mono ?_; rintro e w1 ⟨rfl, hbw⟩) | (go_at_call 17; refine (conds_Find _ _ (tab_held (w := w) (n := n) (z := z) (c := c) (v := v) (by assumption))).mono ?_; rintro e w1 ⟨rfl, hbw⟩) | (go_at_call 16; refine (awake04 _ (tab_held (w := w) (n := n) (z := z) (c := c) (v := v) (by assumption))).mono ?_; rintro e w1 ⟨rfl, hbw⟩))
  all_goals
    go_wp2
    go_ret
    exact ⟨rfl, bel_held (n := n) (z := z) (c := c) (v := v) (by assumption)⟩
end
theorem turned_out (k : Int) (n z c v : Bool) (w : World) (ht : Tab w) (h : k < 0 ∨ 13 < k) (hk : -9223372036854775808 ≤ k) (hk' : k ≤ 9223372036854775807) :
    Calls Tryd.prog 7 #[.int .i64 k, .agg #[.bool n, .bool z, .bool c, .bool v]] w fun e w' => e = .returned (.bool true) ∧ Below w.heap.size w w' := by
  have HT := Lib.hid ht
  have e1 := Lib.hid (hold_none h n z c v)
  have e2 := Lib.hid (other_none h)
  clear ht
  have HB := Lib.hid (((Below.refl w.heap.size w).alloc (Nat.le_refl _) (.cells #[.bool n, .bool z, .bool c, .bool v] 23)).alloc (by simp) (.cells #[.bool n, .bool z, .bool c, .bool v] 23))
  rcases h with h | h
  all_goals
    go_enter Tryd.func7, Tryd.ntmps7
    go_wp2_with fail
    refine (conds_Holds _ _ _ _ _ _ hk hk').mono ?_
    rintro e w1 ⟨rfl, rfl⟩
    rw [e1.out]
    go_wp2_with fail
    refine (conds_Turn _ _ hk hk').mono ?_
    rintro e w1 ⟨rfl, rfl⟩
    rw [e2.out]
    go_wp2_with fail
    refine (awake04 _ (HT.out.keep HB.out)).mono ?_
    rintro e w1 ⟨rfl, hb⟩
    have HB2 := Lib.hid (HB.out.trans (hb.mono HB.out.size))
    clear hb
    go_wp2
    go_ret
    exact ⟨rfl, HB2.out⟩
theorem law_CondsTurned (k : Int) (n z c v : Bool) (w : World) (ht : Tab w) (hk : -9223372036854775808 ≤ k) (hk' : k ≤ 9223372036854775807) :
    Calls Tryd.prog 7 #[.int .i64 k, .agg #[.bool n, .bool z, .bool c, .bool v]] w fun e w' => e = .returned (.bool true) ∧ Below w.heap.size w w' := by
  by_cases h : k < 0 ∨ 13 < k
  · exact turned_out k n z c v w ht h hk hk'
  · exact turned_in k n z c v w ht (by omega) (by omega)
/-- What a block's mask tells. -/
def asks (c : Int) (l : List Bool) : List Int := l.map fun t => if t then c else other c
theorem back_fin : ∀ c : Fin 15, ∀ l ∈ [[], [true], [false], [true, true], [true, false], [false, true], [false, false], [true, true, true], [true, true, false], [true, false, true], [true, false, false], [false, true, true], [false, true, false], [false, false, true], [false, false, false]],
    mask (c.val : Int) l ≠ 0 → condsL (c.val : Int) (mask (c.val : Int) l) = (c.val : Int) :: asks (c.val : Int) l := by decide +kernel
theorem short {l : List Bool} (h : l.length ≤ 3) : l ∈ [[], [true], [false], [true, true], [true, false], [false, true], [false, false], [true, true, true], [true, true, false], [true, false, true], [true, false, false], [false, true, true], [false, true, false], [false, false, true], [false, false, false]] := by
  match l, h with
  | [], _ => decide
  | [a], _ => cases a <;> decide
  | [a, b], _ => cases a <;> cases b <;> decide
  | [a, b, c], _ => cases a <;> cases b <;> cases c <;> decide
theorem mask_in {c : Int} {l : List Bool} (h : mask c l ≠ 0) : 0 ≤ c ∧ c ≤ 14 ∧ l.length ≤ 3 := by
  by_cases hh : c < 0 ∨ 14 < c ∨ 3 < l.length ∨ (c = 14 ∧ false ∈ l)
  · exact absurd (mask_no hh) h
  · simp only [not_or] at hh; omega
theorem back {c : Int} {l : List Bool} (h : mask c l ≠ 0) : condsL c (mask c l) = c :: asks c l := by
  obtain ⟨h0, h1, h2⟩ := mask_in h
  have := back_fin ⟨c.toNat, by omega⟩ l (short h2)
  simp only at this
  rw [show ((c.toNat : Nat) : Int) = c by omega] at this
  exact this h
theorem mask_bd (c : Int) (l : List Bool) : 0 ≤ mask c l ∧ mask c l ≤ 15 := by
  by_cases h : mask c l = 0
  · omega
  · obtain ⟨h0, h1, h2⟩ := mask_in h
    have := (by decide +kernel : ∀ c : Fin 15, ∀ l ∈ [[], [true], [false], [true, true], [true, false], [false, true], [false, false], [true, true, true], [true, true, false], [true, false, true], [true, false, false], [false, true, true], [false, true, false], [false, false, true], [false, false, false]], 0 ≤ mask (c.val : Int) l ∧ mask (c.val : Int) l ≤ 15) ⟨c.toNat, by omega⟩ l (short h2)
    simp only at this
    rwa [show ((c.toNat : Nat) : Int) = c by omega] at this
set_option maxRecDepth 100000 in
set_option maxHeartbeats 2000000 in
theorem law_CondsBack (c : Int) (A : Option Addr) (n cp : Nat) (l : List Bool) (w : World) (ht : Tab w) (hx : Bools w w.heap.size A n l) (hk : -9223372036854775808 ≤ c) (hk' : c ≤ 9223372036854775807) (hn : n ≤ 9223372036854775807) :
    Calls Tryd.prog 8 #[.int .i64 c, .slice A n cp] w fun e w' => e = .returned (.bool true) ∧ Below w.heap.size w w' := by
  have HT := Lib.hid ht
  have HX := Lib.hid hx
  have HL := Lib.hid hx.len
  clear ht hx
  by_cases h1 : 100 < n
  · go_enter Tryd.func8, Tryd.ntmps8
    go_wp2_with (go_at_call 16; refine (awake04 _ HT.out).mono ?_; rintro e w1 ⟨rfl, hb⟩)
    go_ret
    exact ⟨rfl, hb⟩
  have mb := mask_bd c l
  obtain ⟨mb0, mb1⟩ := mb
  cases hm : (mask c l == 0) with
  | true =>
    have HM := Lib.hid (show condsL c (mask c l) = [] by rw [show mask c l = 0 by simpa using hm]; exact condsL_no (.inr (.inr (.inl (by omega)))))
    go_enter Tryd.func8, Tryd.ntmps8
    go_wp2_with (go_at_call 19; refine (conds_Mask _ _ _ _ _ _ _ HX.out hk hk' hn).mono ?_; rintro e w1 ⟨rfl, rfl⟩)
    refine (conds_Conds _ _ _ hk hk' (by omega) (by omega)).mono ?_
    rintro e w1 ⟨v, rfl, hown, hb1⟩
    rw [HM.out] at hown
    obtain ⟨A1, cp1, rfl, _, hcp⟩ := own_shape hown
    have HB1 := Lib.hid hb1
    clear hown hb1
    go_wp2_with fail
    refine (awake04 _ (HT.out.keep HB1.out)).mono ?_
    rintro e w2 ⟨rfl, hb2⟩
    have HB2 := Lib.hid (HB1.out.trans (hb2.mono HB1.out.size))
    clear hb2
    go_wp2
    go_ret
    exact ⟨rfl, HB2.out⟩
  | false =>
    have hm0 : mask c l ≠ 0 := by simpa using hm
    obtain ⟨c0, c1, l3⟩ := mask_in hm0
    have ob := other_bd c
    obtain ⟨ob0, ob1⟩ := ob
    have HM := Lib.hid (back hm0)
    have hn3 : n ≤ 3 := by have := HL.out; omega
    have hd : decide ((100 : Int) < (n : Int)) = false := by simp; omega
    clear hm0 l3
    go_enter Tryd.func8, Tryd.ntmps8
    go_wp2_with (go_at_call 19; refine (conds_Mask _ _ _ _ _ _ _ HX.out hk hk' hn).mono ?_; rintro e w1 ⟨rfl, rfl⟩)
    refine (conds_Conds _ _ _ hk hk' (by omega) (by omega)).mono ?_
    rintro e w1 ⟨v, rfl, hown, hb1⟩
    rw [HM.out] at hown
    have hle : (c :: asks c l).length = n + 1 := by have := HL.out; simp [asks]; omega
    rw [hle] at hown
    clear hle
    obtain ⟨A1, cp1, rfl, _, hcp⟩ := own_shape hown
    have HB1 := Lib.hid hb1
    have HI := Lib.hid (Ints.of_own hown)
    have HX1 := Lib.hid (HX.out.below hb1)
    clear hown hb1
    obtain ⟨ad, z, rfl, hbl, hz, hc0⟩ := HI.out.get (k := 0) (by omega)
    obtain rfl : c = z := by simpa using hz
    rw [add_zero] at hc0
    have q1 : (((n : Int) + 1) != (n : Int) + 1) = false := by simp
    clear hz
    go_wp2_with fail
    go_loop [7] (fun iv => ∃ k : Nat, k ≤ n ∧ iv = .int .i64 k) (fun iv => n - (intOf iv).toNat)
    case atStart => exact ⟨0, by omega, rfl⟩
    case round =>
      obtain ⟨k, hkn, rfl⟩ := hrel
      by_cases hlt : k < n
      · obtain ⟨ad1, t, rfl, hb1, hz1, hc1⟩ := HX1.out.get hlt
        obtain ⟨ad2, z, e2, hb2, hz2, hc2⟩ := HI.out.get (k := k + 1) (by omega)
        obtain rfl := Option.some.inj e2
        have hz3 : z = if t then c else other c := by
          have : (c :: asks c l)[k + 1]? = (asks c l)[k]? := rfl
          rw [this, asks, List.getElem?_map, hz1] at hz2
          simpa using hz2.symm
        clear hz1 hz2 e2 hb2 hb1
        have hN : ((k : Int) + 1).toNat = k + 1 := by omega
        have hc3 : w1.cell? ⟨ad.block, ad.off + (k + 1), none⟩ = some (.int .i64 z) := by simpa [Addr.add] using hc2
        have hN0 : (0 : Int) ≤ (k : Int) + 1 := by omega
        have hN1 : (k : Int) + 1 < (n : Int) + 1 := by omega
        cases t with
        | true =>
          have hz4 : z = c := by simpa using hz3
          subst hz4
          clear hz3
          go_wp2
          go_round
          case rel => exact ⟨k + 1, by omega, by go_num⟩
          case measure => simp [intOf]; omega
        | false =>
          have hz4 : z = other c := by simpa using hz3
          subst hz4
          clear hz3
          go_wp2_with (go_at_call 12; refine (conds_Turn _ _ (by assumption) (by assumption)).mono ?_; rintro e w1 ⟨rfl, rfl⟩)
          go_round
          case rel => exact ⟨k + 1, by omega, by go_num⟩
          case measure => simp [intOf]; omega
      · obtain rfl : k = n := by omega
        go_wp2_with fail
        refine (awake04 _ (HT.out.keep HB1.out)).mono ?_
        rintro e w2 ⟨rfl, hb2⟩
        have HB2 := Lib.hid (HB1.out.trans (hb2.mono HB1.out.size))
        clear hb2
        go_wp2
        go_ret
        exact ⟨rfl, HB2.out⟩
theorem walk_fin : ∀ c : Fin 15, ∀ m : Fin 15, ((condsL (c.val : Int) ((m.val : Int) + 1)).isEmpty || (((List.range (condsL (c.val : Int) ((m.val : Int) + 1)).length).all fun k => condIt (itAt (c.val : Int) ((m.val : Int) + 1) k) == (condsL (c.val : Int) ((m.val : Int) + 1)).getD k 0 && itAt (c.val : Int) ((m.val : Int) + 1) k % 16 != 0) && itAt (c.val : Int) ((m.val : Int) + 1) (condsL (c.val : Int) ((m.val : Int) + 1)).length == 0)) = true := by decide +kernel
theorem conds_in {c m : Int} (h : condsL c m ≠ []) : 0 ≤ c ∧ c ≤ 14 ∧ 1 ≤ m ∧ m ≤ 15 := by
  by_cases hh : c < 0 ∨ 14 < c ∨ m < 1 ∨ 15 < m
  · exact absurd (condsL_no hh) h
  · omega
theorem walk_on {c m : Int} (h : condsL c m ≠ []) : (∀ k z, (condsL c m)[k]? = some z → condIt (itAt c m k) = z ∧ itAt c m k % 16 ≠ 0) ∧ itAt c m (condsL c m).length = 0 := by
  obtain ⟨h0, h1, h2, h3⟩ := conds_in h
  have := walk_fin ⟨c.toNat, by omega⟩ ⟨(m - 1).toNat, by omega⟩
  simp only at this
  rw [show ((c.toNat : Nat) : Int) = c by omega, show (((m - 1).toNat : Nat) : Int) + 1 = m by omega] at this
  simp only [Bool.or_eq_true, Bool.and_eq_true, List.isEmpty_iff, List.all_eq_true, List.mem_range, beq_iff_eq, bne_iff_ne] at this
  rcases this with hh | ⟨ha, hb⟩
  · exact absurd hh h
  · refine ⟨fun k z hz => ?_, hb⟩
    have hk : k < (condsL c m).length := by
      rcases Nat.lt_or_ge k (condsL c m).length with hh | hh
      · exact hh
      · rw [List.getElem?_eq_none hh] at hz; cases hz
    obtain ⟨hc, hd⟩ := ha k hk
    refine ⟨?_, hd⟩
    rw [hc, List.getD_eq_getElem?_getD, hz]; rfl
theorem it_bd {c m : Int} (h0 : 0 ≤ c) (h1 : c ≤ 14) (h2 : 1 ≤ m) (h3 : m ≤ 15) (k : Nat) : 0 ≤ itAt c m k ∧ itAt c m k ≤ 255 := by
  cases k with
  | zero => show 0 ≤ c * 16 + m ∧ c * 16 + m ≤ 255; omega
  | succ k => exact next_bd _
set_option maxRecDepth 100000 in
set_option maxHeartbeats 2000000 in
theorem law_CondsWalk (c m : Int) (w : World) (ht : Tab w) (hk : -9223372036854775808 ≤ c) (hk' : c ≤ 9223372036854775807) (hm : -9223372036854775808 ≤ m) (hm' : m ≤ 9223372036854775807) :
    Calls Tryd.prog 9 #[.int .i64 c, .int .i64 m] w fun e w' => e = .returned (.bool true) ∧ Below w.heap.size w w' := by
  have HT := Lib.hid ht
  clear ht
  by_cases hne : condsL c m = []
  · have HM := Lib.hid hne
    clear hne
    go_enter Tryd.func9, Tryd.ntmps9
    go_wp2_with fail
    refine (conds_Conds _ _ _ hk hk' hm hm').mono ?_
    rintro e w1 ⟨v, rfl, hown, hb1⟩
    rw [HM.out] at hown
    obtain ⟨A1, cp1, rfl, _, hcp⟩ := own_shape hown
    have HB1 := Lib.hid hb1
    clear hown hb1
    go_wp2_with fail
    refine (awake04 _ (HT.out.keep HB1.out)).mono ?_
    rintro e w2 ⟨rfl, hb2⟩
    have HB2 := Lib.hid (HB1.out.trans (hb2.mono HB1.out.size))
    clear hb2
    go_wp2
    go_ret
    exact ⟨rfl, HB2.out⟩
  · obtain ⟨c0, c1, m0, m1⟩ := conds_in hne
    have HW := Lib.hid (walk_on hne)
    obtain ⟨L, hL⟩ : ∃ L, L = condsL c m := ⟨_, rfl⟩
    rw [← hL] at HW hne
    obtain ⟨n, hn⟩ : ∃ n, n = L.length := ⟨_, rfl⟩
    have hn0 : 0 < n := by rw [hn]; exact List.length_pos_iff.2 hne
    have HL := Lib.hid hL; have HN := Lib.hid hn
    clear hL hn hne
    have ej := Num.i64_join 4 (c * 16) m (by omega) (by simp only [Int.reducePow]; omega) (by omega) (by omega) (by simp only [Int.reducePow]; omega) (by omega)
    go_enter Tryd.func9, Tryd.ntmps9
    go_wp2_with fail
    refine (conds_Conds _ _ _ hk hk' hm hm').mono ?_
    rintro e w1 ⟨v, rfl, hown, hb1⟩
    rw [← HL.out, ← HN.out] at hown
    obtain ⟨A1, cp1, rfl, hcl, hcp⟩ := own_shape hown
    unfold maxLen at hcp
    have HB1 := Lib.hid hb1
    have HI := Lib.hid (Ints.of_own hown)
    clear hown hb1
    have q0 : ((n : Int) == 0) = false := by simp; omega
    go_wp2_with fail
    go_loopw [6, 7] (fun tv iv wr => ∃ k : Nat, k ≤ n ∧ iv = .int .i64 k ∧ tv = .int .i64 (itAt c m k) ∧ Ints wr w1.heap.size A1 n L ∧ Below w.heap.size w wr) (fun _ iv _ => n - (intOf iv).toNat)
    case atStart => exact ⟨0, by omega, rfl, rfl, HI.out, HB1.out⟩
    case round =>
      obtain ⟨k, hkn, rfl, rfl, hi2, hb2⟩ := hrel
      have HI2 := Lib.hid hi2; have HB2 := Lib.hid hb2
      clear hi2 hb2
      have ib := it_bd c0 c1 m0 m1 k
      obtain ⟨ib0, ib1⟩ := ib
      by_cases hlt : k < n
      · obtain ⟨ad1, z, rfl, hb1, hz1, hc1⟩ := HI2.out.get hlt
        obtain ⟨g1, g2⟩ := HW.out.1 k z hz1
        have e15 : bits .and .i64 (itAt c m k) 15 = itAt c m k % 16 := Num.i64_and15 _
        have t1 : (condIt (itAt c m k) != z) = false := by rw [g1]; simp
        have t2 : (itAt c m k % 16 == 0) = false := by simpa using g2
        clear hz1 g1 g2
        go_wp2
        go_quiet ((go_at_call 26; refine Calls.quiet_of_same ((conds_Cond _ _ (by omega) (by omega)).mono (fun e w' h => ⟨h.1, h.2.symm⟩))))
        go_wp2_with (go_at_call 24; refine (conds_Next _ _ (by omega) (by omega)).mono ?_; rintro e w' ⟨rfl, rfl⟩)
        go_roundw
        case rel => exact ⟨k + 1, by omega, by go_num, rfl, HI2.out.drewN _, below_drewN HB2.out _⟩
        case measure => simp [intOf]; omega
      · obtain rfl : k = n := by omega
        have e0 : itAt c m k = 0 := by rw [HN.out]; exact HW.out.2
        rw [e0]
        go_wp2_with fail
        refine (awake04 _ (HT.out.keep HB2.out)).mono ?_
        rintro e w2 ⟨rfl, hb2⟩
        have HB3 := Lib.hid (HB2.out.trans (hb2.mono HB2.out.size))
        clear hb2
        go_wp2
        go_ret
        exact ⟨rfl, HB3.out⟩
end Go.Proofs.YtfknokclemljfaaDoor
