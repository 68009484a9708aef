/- Contracts of regs.All, Count, Low and of their references: which registers are in a list. -/
import Derived.Test.YtnngmpimobolpaaRegName
namespace Go.Proofs.Ytnngmpimobolpaa
open Go.RowKit Mem
set_option linter.unusedVariables false
theorem Try.infoInt : (Try.prog.info? 3).map (fun i => (i.zero, i.size, i.bytes)) = some (some (.int .i64 0), 1, 8) := by kernel_rfl
/-- Is a register in a list? -/
def has (list : Int) (r : Nat) : Bool := list / 2 ^ r % 2 == 1
theorem ref_Has (list : Int) (k : Nat) (w : World) (hk : k < 16) :
    Calls Try.prog 38 #[.int .i64 list, .int .i64 k] w fun e w' => e = .returned (.bool (has list k)) ∧ w = w' := by
  have e1 : bits .and .i64 (list / 2 ^ k) 1 = list / 2 ^ k % 2 := Num.and_low .i64 1 (by decide) _
  go_enter Try.func38, Try.ntmps38
  go_wp2
  go_ret
  exact ⟨rfl, rfl⟩
/-- The registers below k that are in a list. -/
def allTo (list : Int) (k : Nat) : List Int := ((List.range k).filter (has list)).map fun r : Nat => (r : Int)
theorem allTo_yes {list : Int} {k : Nat} (h : has list k = true) : allTo list (k + 1) = allTo list k ++ [(k : Int)] := by
  unfold allTo; rw [List.range_succ, List.filter_append]; simp [h]
theorem allTo_no {list : Int} {k : Nat} (h : has list k = false) : allTo list (k + 1) = allTo list k := by
  unfold allTo; rw [List.range_succ, List.filter_append]; simp [h]
theorem allTo_len (list : Int) (k : Nat) : (allTo list k).length ≤ k := by
  unfold allTo; rw [List.length_map]; have := List.length_filter_le (has list) (List.range k); simpa using this
set_option maxRecDepth 100000 in
set_option maxHeartbeats 1000000 in
theorem regs_All (list : Int) (w : World) :
    Calls Try.prog 20 #[.int .i64 list] w fun e w' => ∃ v, e = .returned v ∧ w'.ownsRow w.heap.size 3 1 v (allTo list 16).length (ints (allTo list 16)) ∧ Below w.heap.size w w' := by
  obtain ⟨i0, hi, hz0, hz1, hz2⟩ := info_parts Try.infoInt
  go_enter Try.func20, Try.ntmps20
  go_wp2
  go_loopw [3, 5] (fun v iv wr => ∃ k n : Nat, k ≤ 16 ∧ iv = .int .i64 k ∧ n = (allTo list k).length ∧ n ≤ k ∧ wr.ownsRow w.heap.size 3 1 v n (ints (allTo list k)) ∧ Below w.heap.size w wr) (fun _ iv _ => 16 - (intOf iv).toNat)
  case atStart => exact ⟨0, 0, by omega, rfl, rfl, by omega, own_nil _ _ _, Below.refl _ _⟩
  case round =>
    obtain ⟨k, n, hk, rfl, hn, hnk, hown, hbel⟩ := hrel
    have HN := Lib.hid hn
    clear hn
    have e1 : bits .and .i64 (list / 2 ^ k) 1 = list / 2 ^ k % 2 := Num.and_low .i64 1 (by decide) _
    by_cases hlt : k < 16
    · cases hv : (list / 2 ^ k % 2 == 1) with
      | true =>
        have HA := Lib.hid (allTo_yes (list := list) (k := k) hv)
        go_wp2_with (at_builtin; refine wpList_append_lies _ rfl _ _ _ rfl w.heap.size 3 i0 _ 1 8 Try.underlying28 hi hz0 hz1 hz2 rfl (by omega) _ n (ints (allTo list k)) rfl (hown.alloc _) ⟨wr.heap.size, 0, none⟩ 1 1 [.int .i64 (k : Int)] rfl rfl (World.news_of_block (cs := #[.int .i64 (k : Int)]) (t := 3) (fr := (0, 0)) (heap_alloc_new wr _)) (by simp [Value.oneCell']) (by omega) (by unfold maxLen; omega) (by omega) (by have := hbel.size; simp; omega) (wr.heap.size + 1) (by simp) ?_; intro g cap wx hown1 hgrow hat hlt1)
        have hbel1 : Below w.heap.size w wx := (hbel.alloc hbel.size _).grown hgrow (by have := hbel.size; simp; omega) (fun k hk => ((own_block hown) k hk).1)
        have HW := Lib.hid (show wx.ownsRow w.heap.size 3 1 (.slice (some ⟨g, 0, none⟩) (n + 1) cap) (n + 1) (ints (allTo list (k + 1))) by rw [HA.out, ints_append]; exact hown1)
        clear hown1 hown hgrow hat
        go_wp2
        go_roundw
        case rel => exact ⟨k + 1, n + 1, by omega, by go_num, by rw [HA.out, HN.out]; simp, by omega, HW.out, hbel1⟩
        case measure => simp [intOf]; omega
      | false =>
        have HA := Lib.hid (allTo_no (list := list) (k := k) hv)
        have HO := Lib.hid hown
        clear hown
        go_wp2
        go_roundw
        case rel => exact ⟨k + 1, n, by omega, by go_num, by rw [HA.out, HN.out], by omega, by rw [HA.out]; exact HO.out, hbel⟩
        case measure => simp [intOf]; omega
    · obtain rfl : k = 16 := by omega
      have HO := Lib.hid hown
      clear hown e1
      go_wp2
      go_ret
      exact ⟨_, rfl, by rw [← HN.out]; exact HO.out, hbel⟩
set_option maxRecDepth 100000 in
set_option maxHeartbeats 1000000 in
theorem ref_All (list : Int) (w : World) :
    Calls Try.prog 21 #[.int .i64 list] w fun e w' => ∃ v, e = .returned v ∧ w'.ownsRow w.heap.size 3 1 v (allTo list 16).length (ints (allTo list 16)) ∧ Below w.heap.size w w' := by
  obtain ⟨i0, hi, hz0, hz1, hz2⟩ := info_parts Try.infoInt
  go_enter Try.func21, Try.ntmps21
  go_wp2
  go_loopw [3, 4] (fun v iv wr => ∃ k n : Nat, k ≤ 16 ∧ iv = .int .i64 k ∧ n = (allTo list k).length ∧ n ≤ k ∧ wr.ownsRow w.heap.size 3 1 v n (ints (allTo list k)) ∧ Below w.heap.size w wr) (fun _ iv _ => 16 - (intOf iv).toNat)
  case atStart => exact ⟨0, 0, by omega, rfl, rfl, by omega, own_nil _ _ _, Below.refl _ _⟩
  case round =>
    obtain ⟨k, n, hk, rfl, hn, hnk, hown, hbel⟩ := hrel
    have HN := Lib.hid hn
    clear hn
    by_cases hlt : k < 16
    · cases hv : has list k with
      | true =>
        have HA := Lib.hid (allTo_yes (list := list) (k := k) hv)
        go_wp2_with (first | (go_at_call 38; refine (ref_Has _ _ _ hlt).mono ?_; rintro e w' ⟨rfl, rfl⟩) | (at_builtin; refine wpList_append_lies _ rfl _ _ _ rfl w.heap.size 3 i0 _ 1 8 Try.underlying28 hi hz0 hz1 hz2 rfl (by omega) _ n (ints (allTo list k)) rfl (hown.alloc _) ⟨wr.heap.size, 0, none⟩ 1 1 [.int .i64 (k : Int)] rfl rfl (World.news_of_block (cs := #[.int .i64 (k : Int)]) (t := 3) (fr := (0, 0)) (heap_alloc_new wr _)) (by simp [Value.oneCell']) (by omega) (by unfold maxLen; omega) (by omega) (by have := hbel.size; simp; omega) (wr.heap.size + 1) (by simp) ?_; intro g cap wx hown1 hgrow hat hlt1))
        have hbel1 : Below w.heap.size w wx := (hbel.alloc hbel.size _).grown hgrow (by have := hbel.size; simp; omega) (fun k hk => ((own_block hown) k hk).1)
        have HW := Lib.hid (show wx.ownsRow w.heap.size 3 1 (.slice (some ⟨g, 0, none⟩) (n + 1) cap) (n + 1) (ints (allTo list (k + 1))) by rw [HA.out, ints_append]; exact hown1)
        clear hown1 hown hgrow hat
        go_wp2
        go_roundw
        case rel => exact ⟨k + 1, n + 1, by omega, by go_num, by rw [HA.out, HN.out]; simp, by omega, HW.out, hbel1⟩
        case measure => simp [intOf]; omega
      | false =>
        have HA := Lib.hid (allTo_no (list := list) (k := k) hv)
        have HO := Lib.hid hown
        clear hown
        go_wp2_with (go_at_call 38; refine (ref_Has _ _ _ hlt).mono ?_; rintro e w' ⟨rfl, rfl⟩)
        go_roundw
        case rel => exact ⟨k + 1, n, by omega, by go_num, by rw [HA.out, HN.out], by omega, by rw [HA.out]; exact HO.out, hbel⟩
        case measure => simp [intOf]; omega
    · obtain rfl : k = 16 := by omega
      have HO := Lib.hid hown
      clear hown
      go_wp2
      go_ret
      exact ⟨_, rfl, by rw [← HN.out]; exact HO.out, hbel⟩
theorem ref_Count (list : Int) (w : World) :
    Calls Try.prog 18 #[.int .i64 list] w fun e w' => e = .returned (.int .i64 ((allTo list 16).length : Int)) ∧ Below w.heap.size w w' := by
  go_enter Try.func18, Try.ntmps18
  go_wp2_with fail
  refine (ref_All _ _).mono ?_
  rintro e w1 ⟨v, rfl, hown, hb1⟩
  obtain ⟨A1, cp1, rfl, _, hcp⟩ := own_shape hown
  clear hown
  go_wp2
  go_ret
  exact ⟨rfl, hb1⟩
/-- Are all of a list low? -/
def lowB (list : Int) : Bool := list % 65536 / 256 == 0
theorem and65280 (x : Int) : bits .and .i64 x 65280 = x % 65536 / 256 * 256 := by
  show IntKind.i64.wrap ((BitVec.ofInt IntKind.i64.bits x &&& BitVec.ofInt IntKind.i64.bits 65280).toNat : Int) = _
  rw [BitVec.toNat_and, Num.ofInt_toNat]
  have e1 : (BitVec.ofInt IntKind.i64.bits 65280).toNat = 255 <<< 8 := by decide
  have e2 : ∀ n : Nat, n &&& (255 <<< 8) = n % 65536 / 256 * 256 := by
    intro n
    have h1 : n &&& (255 <<< 8) = ((n >>> 8) &&& 255) <<< 8 := by
      apply Nat.eq_of_testBit_eq
      intro i
      simp only [Nat.testBit_and, Nat.testBit_shiftLeft, Nat.testBit_shiftRight]
      by_cases hi : 8 ≤ i
      · simp [hi]
      · simp [hi]
    rw [h1, nat_mask8, Nat.shiftLeft_eq, Nat.shiftRight_eq_div_pow]
    omega
  rw [e1, e2, Num.wrap_small .i64 16 (by decide) _ (by omega) (by omega)]
  have hx : ((x % 2 ^ IntKind.i64.bits).toNat : Int) = x % 18446744073709551616 := by
    simp only [IntKind.bits]; omega
  omega
theorem regs_Low (list : Int) (w : World) :
    Calls Try.prog 22 #[.int .i64 list] w fun e w' => e = .returned (.bool (lowB list)) ∧ w = w' := by
  have e1 := and65280 list
  have HE := Lib.hid (show (list % 65536 / 256 * 256 == 0) = lowB list by unfold lowB; rw [Bool.eq_iff_iff]; simp; omega)
  go_enter Try.func22, Try.ntmps22
  go_wp2
  go_ret
  exact ⟨ret_bool HE.out, rfl⟩
theorem low_no {list : Int} {k : Nat} (h8 : 8 ≤ k) (hk : k < 16) (h : has list k = true) : lowB list = false := by
  unfold has at h; unfold lowB
  simp only [beq_iff_eq] at h
  rw [beq_eq_false_iff_ne]
  have : k = 8 ∨ k = 9 ∨ k = 10 ∨ k = 11 ∨ k = 12 ∨ k = 13 ∨ k = 14 ∨ k = 15 := by omega
  rcases this with rfl | rfl | rfl | rfl | rfl | rfl | rfl | rfl <;> simp only [Int.reducePow] at h <;> omega
theorem low_yes {list : Int} (h : ∀ k, 8 ≤ k → k < 16 → has list k = false) : lowB list = true := by
  unfold lowB
  have f := fun k a b => h k a b
  have h8 := f 8 (by omega) (by omega)
  have h9 := f 9 (by omega) (by omega)
  have h10 := f 10 (by omega) (by omega)
  have h11 := f 11 (by omega) (by omega)
  have h12 := f 12 (by omega) (by omega)
  have h13 := f 13 (by omega) (by omega)
  have h14 := f 14 (by omega) (by omega)
  have h15 := f 15 (by omega) (by omega)
  clear f h
  simp only [has, beq_eq_false_iff_ne, Int.reducePow, beq_iff_eq] at *
  omega
theorem ref_Low (list : Int) (w : World) :
    Calls Try.prog 23 #[.int .i64 list] w fun e w' => e = .returned (.bool (lowB list)) ∧ w = w' := by
  obtain ⟨r, hr⟩ : ∃ r, r = lowB list := ⟨_, rfl⟩
  rw [← hr]
  have HR := Lib.hid hr
  clear hr
  go_enter Try.func23, Try.ntmps23
  go_wp2
  go_loop [3] (fun iv => ∃ k : Nat, 8 ≤ k ∧ k ≤ 16 ∧ iv = .int .i64 k ∧ ∀ j, 8 ≤ j → j < k → has list j = false) (fun iv => 16 - (intOf iv).toNat)
  case atStart => exact ⟨8, by omega, by omega, rfl, fun j a b => by omega⟩
  case round =>
    obtain ⟨k, hk8, hk, rfl, hno⟩ := hrel
    have HN := Lib.hid hno
    clear hno
    by_cases hlt : k < 16
    · cases hv : has list k with
      | true =>
        have HE := Lib.hid (low_no hk8 hlt hv)
        go_wp2_with (go_at_call 38; refine (ref_Has _ _ _ hlt).mono ?_; rintro e w' ⟨rfl, rfl⟩)
        go_ret
        exact ⟨ret_bool (by rw [HR.out, HE.out]), rfl⟩
      | false =>
        have HE := Lib.hid (show ∀ j, 8 ≤ j → j < k + 1 → has list j = false from fun j a b => by
          by_cases e : j = k
          · subst e; exact hv
          · exact HN.out j a (by omega))
        go_wp2_with (go_at_call 38; refine (ref_Has _ _ _ hlt).mono ?_; rintro e w' ⟨rfl, rfl⟩)
        go_round
        case rel => exact ⟨k + 1, by omega, by omega, by go_num, HE.out⟩
        case measure => simp [intOf]; omega
    · obtain rfl : k = 16 := by omega
      have HE := Lib.hid (low_yes HN.out)
      go_wp2
      go_ret
      exact ⟨ret_bool (by rw [HR.out, HE.out]), rfl⟩
end Go.Proofs.Ytnngmpimobolpaa
