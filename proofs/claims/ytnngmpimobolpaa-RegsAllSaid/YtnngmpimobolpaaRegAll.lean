/- The walk of layer 5's statement RegsAll: it returns true, and the world keeps all that was there. -/
import Derived.Test.YtnngmpimobolpaaRegLaws
namespace Go.Proofs.Ytnngmpimobolpaa
open Go.RowKit Mem
set_option linter.unusedVariables false
theorem all_at (list : Int) : ∀ (k i : Nat) (z : Int), (allTo list k)[i]? = some z → ∃ r : Nat, z = r ∧ r < k ∧ (allTo list k).take i = allTo list r ∧ allTo list (r + 1) = allTo list r ++ [z]
  | 0, i, z, h => by simp [allTo] at h
  | k + 1, i, z, h => by
    cases hk : has list k with
    | false =>
      rw [allTo_no hk] at h ⊢
      obtain ⟨r, a, b, c, d⟩ := all_at list k i z h
      exact ⟨r, a, by omega, c, d⟩
    | true =>
      rw [allTo_yes hk] at h ⊢
      rcases Nat.lt_trichotomy i (allTo list k).length with hi | hi | hi
      · rw [List.getElem?_append_left hi] at h
        obtain ⟨r, a, b, c, d⟩ := all_at list k i z h
        exact ⟨r, a, by omega, by rw [List.take_append_of_le_length (by omega)]; exact c, d⟩
      · subst hi
        rw [List.getElem?_append_right (Nat.le_refl _)] at h
        simp at h
        subst h
        exact ⟨k, rfl, by omega, by simp, allTo_yes hk⟩
      · rw [List.getElem?_eq_none (by simp; omega)] at h; cases h
theorem all_lt (list : Int) (k : Nat) {z : Int} (h : z ∈ allTo list k) : 0 ≤ z ∧ z < k := by
  unfold allTo at h
  obtain ⟨r, hr, rfl⟩ := List.mem_map.1 h
  have := List.mem_range.1 (List.mem_filter.1 hr).1
  omega
/-- The list that some registers make. -/
def sum2 (l : List Int) : Int := (l.map fun z => (2 : Int) ^ z.toNat).sum
theorem sum2_snoc (l : List Int) (z : Int) : sum2 (l ++ [z]) = sum2 l + 2 ^ z.toNat := by simp [sum2]
theorem mod_step (list : Int) {k : Nat} (hk : k < 16) : list % 2 ^ (k + 1) = list % 2 ^ k + (if has list k then 2 ^ k else 0) := by
  have : k = 0 ∨ k = 1 ∨ k = 2 ∨ k = 3 ∨ k = 4 ∨ k = 5 ∨ k = 6 ∨ k = 7 ∨ k = 8 ∨ k = 9 ∨ k = 10 ∨ k = 11 ∨ k = 12 ∨ k = 13 ∨ k = 14 ∨ k = 15 := by omega
  unfold has
  rcases this with rfl | rfl | rfl | rfl | rfl | rfl | rfl | rfl | rfl | rfl | rfl | rfl | rfl | rfl | rfl | rfl <;> simp only [Nat.reduceAdd, Int.reducePow, beq_iff_eq] <;> split <;> omega
theorem sum_all (list : Int) : ∀ k : Nat, k ≤ 16 → sum2 (allTo list k) = list % 2 ^ k
  | 0, _ => by simp [allTo, sum2]
  | k + 1, hk => by
    have ih := sum_all list k (by omega)
    rw [mod_step list (by omega)]
    cases h : has list k with
    | true => rw [allTo_yes h, sum2_snoc, ih]; simp
    | false => rw [allTo_no h, ih]; simp
theorem two_pow_le {a b : Nat} (h : a ≤ b) : (2 : Int) ^ a ≤ 2 ^ b := by
  have := Nat.pow_le_pow_right (n := 2) (by decide) h
  exact_mod_cast this
theorem sum_take {list : Int} {i : Nat} {z : Int} (h : (allTo list 16)[i]? = some z) : ∃ r : Nat, z = r ∧ r < 16 ∧ 0 ≤ sum2 ((allTo list 16).take i) ∧ sum2 ((allTo list 16).take i) < 2 ^ r ∧ sum2 ((allTo list 16).take (i + 1)) = sum2 ((allTo list 16).take i) + 2 ^ r ∧ ∀ y ∈ (allTo list 16).take i, y < z := by
  obtain ⟨r, rfl, hr, ht, _⟩ := all_at list 16 i z h
  have hp : (0 : Int) < 2 ^ r := by
    have := Nat.two_pow_pos r
    exact_mod_cast this
  refine ⟨r, rfl, hr, ?_, ?_, ?_, ?_⟩
  · rw [ht, sum_all list r (by omega)]; exact Int.emod_nonneg _ (by omega)
  · rw [ht, sum_all list r (by omega)]; exact Int.emod_lt_of_pos _ hp
  · rw [List.take_add_one, h]; exact sum2_snoc _ _
  · intro y hy; rw [ht] at hy; exact (all_lt list r hy).2
theorem or_bit {n : Int} {r : Nat} (hr : r < 16) (h0 : 0 ≤ n) (h1 : n < 2 ^ r) : bits .or .i64 n (2 ^ r) = n + 2 ^ r := by
  have hp : (0 : Int) < 2 ^ r := by
    have := Nat.two_pow_pos r
    exact_mod_cast this
  have h16 : (2 : Int) ^ r ≤ 2 ^ 16 := two_pow_le (by omega)
  simp only [Int.reducePow] at h16
  rw [Num.bits_or_comm, Num.i64_join r (2 ^ r) n (by omega) (Int.emod_self) (by omega) h0 h1 (by omega)]
  omega
set_option maxRecDepth 100000 in
set_option maxHeartbeats 4000000 in
theorem law_RegsAll (list : Int) (w : World) :
    Calls Try.prog 7 #[.int .i64 list] w fun e w' => e = .returned (.bool true) ∧ Below w.heap.size w w' := by
  have hlen := allTo_len list 16
  obtain ⟨L, hL⟩ : ∃ L, L = allTo list 16 := ⟨_, rfl⟩
  obtain ⟨n, hn⟩ : ∃ n, n = L.length := ⟨_, rfl⟩
  rw [← hL, ← hn] at hlen
  have HL := Lib.hid hL; have HN := Lib.hid hn
  clear hL hn
  have HS := Lib.hid (show sum2 L = list % 65536 by rw [HL.out]; exact sum_all list 16 (by omega))
  have e65 := Num.i64_and65535 list
  go_enter Try.func7, Try.ntmps7
  go_wp2_with fail
  refine (regs_All _ _).mono ?_
  rintro e w1 ⟨v, rfl, hown, hb1⟩
  rw [← HL.out, ← HN.out] at hown
  obtain ⟨A1, cp1, rfl, hcl, hcp⟩ := own_shape hown
  have HB1 := Lib.hid hb1
  have HI := Lib.hid (Ints.of_own hown)
  clear hown hb1
  go_wp2_with fail
  go_loopw [4, 5] (fun nv iv wr => ∃ (k : Nat) (s : Int), k ≤ n ∧ iv = .int .i64 k ∧ nv = .int .i64 s ∧ s = sum2 (L.take k) ∧ Ints wr w1.heap.size A1 n L ∧ Below w.heap.size w wr) (fun _ iv _ => n - (intOf iv).toNat)
  case atStart => exact ⟨0, 0, by omega, rfl, rfl, rfl, HI.out, HB1.out⟩
  case round =>
    obtain ⟨k, s, hkn, rfl, rfl, hs, hi2, hb2⟩ := hrel
    have HSU := Lib.hid hs
    clear hs
    have HI2 := Lib.hid hi2; have HB2 := Lib.hid hb2
    clear hi2 hb2
    by_cases hlt : k < n
    · obtain ⟨ad, z, rfl, hb1, hz1, hc1⟩ := HI2.out.get hlt
      have hz1' := hz1
      rw [HL.out] at hz1'
      obtain ⟨r, rfl, hr, g0, g1, g2, g3⟩ := sum_take hz1'
      rw [← HL.out] at g0 g1 g2 g3
      rw [← HSU.out] at g0 g1 g2
      have hor := or_bit hr g0 g1
      have HG := Lib.hid g2
      have g16 : (2 : Int) ^ r ≤ 65536 := by have := two_pow_le (a := r) (b := 16) (by omega); simp only [Int.reducePow] at this; exact this
      have hd1 : decide ((r : Int) < 0) = false := by simp
      have hd2 : decide ((15 : Int) < (r : Int)) = false := by simp; omega
      rcases Nat.eq_zero_or_pos k with h0 | h0
      · subst h0
        rw [add_zero] at hc1
        clear g2 g3 hz1 hz1'
        have hn0 : (0 : Int) < (n : Int) := by omega
        have hn1 : 0 < n := hlt
        go_wp2
        go_quiet (fail)
        go_wp2
        go_roundw
        case rel => exact ⟨1, _, by omega, by go_num, rfl, HG.out.symm, HI2.out.drewN _, below_drewN HB2.out _⟩
        case measure => simp [intOf]; omega
      · obtain ⟨ad', y, e2, hb2, hy1, hc2⟩ := HI2.out.get (k := k - 1) (by omega)
        obtain rfl := Option.some.inj e2
        have hyr := g3 y (List.mem_of_getElem? (i := k - 1) (by rw [List.getElem?_take_of_lt (by omega)]; exact hy1))
        have hd3 : decide ((0 : Int) < (k : Int)) = true := by simp; omega
        have hd4 : decide ((r : Int) ≤ y) = false := by simp; omega
        have hw1 : IntKind.i64.wrap ((k : Int) - 1) = (k : Int) - 1 := IntWalk.i64_in _ (by omega)
        have hw2 : ((k : Int) - 1).toNat = k - 1 := by omega
        have hw3 : (0 : Int) ≤ (k : Int) - 1 := by omega
        have hw4 : (k : Int) - 1 < (n : Int) := by omega
        have hw5 : (k : Int) < (n : Int) := by omega
        clear g2 g3 hz1 hz1' hy1 e2 hyr
        go_wp2
        go_quiet (fail)
        go_wp2
        go_roundw
        case rel => exact ⟨k + 1, _, by omega, by go_num, rfl, HG.out.symm, HI2.out.drewN _, below_drewN HB2.out _⟩
        case measure => simp [intOf]; omega
    · obtain rfl : k = n := by omega
      have HT := Lib.hid (show sum2 (L.take k) = list % 65536 by
        rw [List.take_of_length_le (by rw [HN.out]; exact Nat.le_refl _)]; exact HS.out)
      obtain rfl : s = list % 65536 := by rw [HSU.out, HT.out]
      have HE := Lib.hid (show (k : Int) = ((allTo list 16).length : Int) by rw [← HL.out, HN.out])
      go_wp2_with fail
      refine (regs_Count _ _).mono ?_
      rintro e w2 ⟨rfl, mm, rfl⟩
      rw [← HE.out]
      obtain ⟨w2, hw2⟩ : ∃ w2, w2 = wr.drewN mm := ⟨_, rfl⟩
      rw [← hw2]
      have HB3 := Lib.hid (show Below w.heap.size w w2 by rw [hw2]; exact below_drewN HB2.out _)
      clear hw2
      go_wp2_with fail
      refine (awake05 _).mono ?_
      rintro e w5 ⟨rfl, hb5⟩
      have HB5 := Lib.hid (HB3.out.trans (hb5.mono HB3.out.size))
      clear hb5
      go_wp2
      go_ret
      exact ⟨rfl, HB5.out⟩
end Go.Proofs.Ytnngmpimobolpaa
