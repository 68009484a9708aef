/- The walk of layer 2's statement ExpandFew: it returns true. -/
import Derived.Test.YtolkpoohpimkhaaExpandLaws
namespace Go.Proofs.Ytolkpoohpimkhaa
open Go.RowKit
set_option linter.unusedVariables false
theorem strip_go (n y : Nat) (h0 : y ≠ 0) (h1 : y % 2 = 0) : Num.strip (n + 1) y = Num.strip n (y / 2) := by
  conv => lhs; unfold Num.strip
  rw [if_neg (by omega)]
theorem strip_stop (n y : Nat) (h : n = 0 ∨ y = 0 ∨ y % 2 = 1) : Num.strip n y = y := by
  cases n with
  | zero => rfl
  | succ n => unfold Num.strip; rw [if_pos (by omega)]
theorem findV_shape (x : Nat) : ∃ a : Int, findV x = .tuple #[.int .i64 a, .bool (Num.find x).isSome] := by
  cases e : Num.find x with
  | none => exact ⟨_, findV_none e⟩
  | some k => exact ⟨_, findV_some e⟩
theorem same_of (x : Nat) : Num.same x = (((x : Int) == (x : Int) % 256 * 16843009) || ((x : Int) == (x : Int) % 256 * 65537) || ((x : Int) == (x : Int) / 256 % 256 * 16777472)) := by
  unfold Num.same; rw [Bool.eq_iff_iff]; simp; omega
set_option maxRecDepth 100000 in
set_option maxHeartbeats 1000000 in
theorem few_core (x : Nat) (w : World) (hx : x < 4294967296) (a : Int) (ok s s1 s2 s3 : Bool) (hf : findV x = .tuple #[.int .i64 a, .bool ok])
    (e1 : ((x : Int) == (x : Int) % 256 * 16843009) = s1) (e2 : ((x : Int) == (x : Int) % 256 * 65537) = s2) (e3 : ((x : Int) == (x : Int) / 256 % 256 * 16777472) = s3)
    (hs : s = (s1 || s2 || s3)) (hok : ok = (decide (Num.strip 32 x ≤ 255) || s)) :
    Calls Try.prog 7 #[.int .u32 x] w fun e w' => e = .returned (.bool true) ∧ w = w' := by
  have h255 := Num.u32_and255 (x : Int)
  have h255' := Num.u32_and255 ((x : Int) / 256)
  have HO := Lib.hid hok
  clear hok
  cases s1 <;> cases s2 <;> cases s3 <;> simp at hs <;> subst hs
  all_goals
    go_enter Try.func7, Try.ntmps7
    go_wp2_with (go_at_call 19; refine (expand_Find _ _ (by omega) (by omega)).mono ?_; rintro e w' ⟨rfl, rfl⟩; rw [hf])
    clear e1 e2 e3 hf h255 h255'
    go_loop [7, 8] (fun u i => ∃ k y : Nat, k ≤ 32 ∧ y < 4294967296 ∧ i = .int .i64 k ∧ u = .int .u32 y ∧ Num.strip 32 x = Num.strip (32 - k) y) (fun _ i => 32 - (intOf i).toNat)
    case atStart => exact ⟨0, x, by omega, hx, rfl, rfl, rfl⟩
    case round =>
      obtain ⟨k, y, hk, hy, rfl, rfl, hst⟩ := hrel
      have HS := Lib.hid hst
      clear hst
      have hand := Num.u32_and1 (y : Int)
      by_cases hgo : k < 32 ∧ y ≠ 0 ∧ y % 2 = 0
      · obtain ⟨hlt, hy0, hy2⟩ := hgo
        have t1 : ((y : Int) != 0) = true := by simp; omega
        have t2 : ((y : Int) % 2 == 0) = true := by simp; omega
        have HN := Lib.hid (show Num.strip 32 x = Num.strip (32 - (k + 1)) (y / 2) by
          rw [HS.out, show 32 - k = 32 - (k + 1) + 1 by omega]; exact strip_go _ _ hy0 hy2)
        clear hy0 hy2
        go_wp2
        go_round
        case rel => exact ⟨k + 1, y / 2, by omega, by omega, by go_num, by go_num, HN.out⟩
        case measure => simp [intOf]; omega
      · have hst : Num.strip 32 x = y := by rw [HS.out]; exact strip_stop _ _ (by omega)
        have HO2 := HO.out
        rw [hst] at HO2
        have HO3 := Lib.hid HO2
        clear HO2 hst HS
        by_cases hlt : k < 32
        · cases t1 : ((y : Int) != 0) with
          | false =>
            have hy0 : y = 0 := by simp at t1; omega
            subst hy0
            obtain rfl : ok = true := by rw [HO3.out]; simp
            go_wp2_with (go_at_call 18; refine (awake2 _).mono ?_; rintro e w' ⟨rfl, rfl⟩)
            go_ret
            exact ⟨rfl, rfl⟩
          | true =>
            have t2 : ((y : Int) % 2 == 0) = false := by simp at t1 ⊢; omega
            by_cases hgt : 255 < y
            · have hd : decide (y ≤ 255) = false := by simp; omega
              have HO4 := HO3.out; rw [hd] at HO4; simp only [Bool.false_or] at HO4; subst HO4
              clear hd HO3
              go_wp2_with (go_at_call 18; refine (awake2 _).mono ?_; rintro e w' ⟨rfl, rfl⟩)
              go_ret
              exact ⟨rfl, rfl⟩
            · have hd : decide (y ≤ 255) = true := by simp; omega
              have HO4 := HO3.out; rw [hd] at HO4; simp only [Bool.true_or] at HO4; subst HO4
              clear hd HO3
              go_wp2_with (go_at_call 18; refine (awake2 _).mono ?_; rintro e w' ⟨rfl, rfl⟩)
              go_ret
              exact ⟨rfl, rfl⟩
        · by_cases hgt : 255 < y
          · have hd : decide (y ≤ 255) = false := by simp; omega
            have HO4 := HO3.out; rw [hd] at HO4; simp only [Bool.false_or] at HO4; subst HO4
            clear hd HO3
            go_wp2_with (go_at_call 18; refine (awake2 _).mono ?_; rintro e w' ⟨rfl, rfl⟩)
            go_ret
            exact ⟨rfl, rfl⟩
          · have hd : decide (y ≤ 255) = true := by simp; omega
            have HO4 := HO3.out; rw [hd] at HO4; simp only [Bool.true_or] at HO4; subst HO4
            clear hd HO3
            go_wp2_with (go_at_call 18; refine (awake2 _).mono ?_; rintro e w' ⟨rfl, rfl⟩)
            go_ret
            exact ⟨rfl, rfl⟩
theorem law_ExpandFew (x : Int) (w : World) (h0 : 0 ≤ x) (h1 : x < 4294967296) :
    Calls Try.prog 7 #[.int .u32 x] w fun e w' => e = .returned (.bool true) ∧ w = w' := by
  obtain ⟨x, rfl⟩ := Int.eq_ofNat_of_zero_le h0
  obtain ⟨a, hf⟩ := findV_shape x
  exact few_core x w (by omega) a _ _ _ _ _ hf rfl rfl rfl rfl (by rw [Num.find_few x (by omega), same_of x])
end Go.Proofs.Ytolkpoohpimkhaa
