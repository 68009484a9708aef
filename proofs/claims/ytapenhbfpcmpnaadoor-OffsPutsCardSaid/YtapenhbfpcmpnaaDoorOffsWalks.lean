/- Contracts of package offs and of its reference: what each call returns; the world stays as it was. Conditions: the arguments fit their kinds; the table of kinds holds what its initialiser lays. -/
import Derived.Test.YtapenhbfpcmpnaaDoorGet
import Derived.Test.YtapenhbfpcmpnaaDoorRefSign
import Derived.Test.YtapenhbfpcmpnaaDoorOffsPlain
import Derived.Test.YtapenhbfpcmpnaaDoorMem
namespace Go.Proofs.YtapenhbfpcmpnaaDoor
open Go.RowKit
set_option linter.unusedVariables false
/-- The table of kinds, cell by cell. -/
structure Kinds (w : World) : Prop where
  b1 : w.cell? ⟨0, 2, none⟩ = some (.int .i64 8)
  s1 : w.cell? ⟨0, 3, none⟩ = some (.bool true)
  b2 : w.cell? ⟨0, 4, none⟩ = some (.int .i64 11)
  s2 : w.cell? ⟨0, 5, none⟩ = some (.bool true)
  b3 : w.cell? ⟨0, 6, none⟩ = some (.int .i64 20)
  s3 : w.cell? ⟨0, 7, none⟩ = some (.bool true)
  b4 : w.cell? ⟨0, 8, none⟩ = some (.int .i64 24)
  s4 : w.cell? ⟨0, 9, none⟩ = some (.bool true)
  b5 : w.cell? ⟨0, 10, none⟩ = some (.int .i64 6)
  s5 : w.cell? ⟨0, 11, none⟩ = some (.bool false)
theorem i64_and1 (x : Int) : bits .and .i64 x 1 = x % 2 := Num.and_low .i64 1 (by decide) x
theorem kind_cases {k : Int} (h : 1 ≤ k) (h1 : k ≤ 5) : k = 1 ∨ k = 2 ∨ k = 3 ∨ k = 4 ∨ k = 5 := by omega
theorem fits_no {k off : Int} (h : k < 1 ∨ 5 < k ∨ off % 2 ≠ 0) : Num.fits k off = false := by
  cases e : Num.fits k off with
  | false => rfl
  | true => obtain ⟨⟨h1, h2⟩, h3, _⟩ := (Num.fits_iff k off).1 e; omega
set_option maxHeartbeats 800000 in
theorem offs_Fits (k off : Int) (w : World) (hK : Kinds w) (hk : -9223372036854775808 ≤ k) (hk' : k ≤ 9223372036854775807) (ho : -9223372036854775808 ≤ off) (ho' : off ≤ 9223372036854775807) :
    Calls Tryd.prog 10 #[.int .i64 k, .int .i64 off] w fun e w' => e = .returned (.bool (Num.fits k off)) ∧ w = w' := by
  obtain ⟨b1, s1, b2, s2, b3, s3, b4, s4, b5, s5⟩ := hK
  have hand := i64_and1 off
  by_cases h1 : k < 1
  · have HF := Lib.hid (fits_no (off := off) (.inl h1))
    go_enter Tryd.func10, Tryd.ntmps10
    go_wp2
    go_ret
    exact ⟨ret_bool HF.out.symm, rfl⟩
  by_cases h2 : 5 < k
  · have HF := Lib.hid (fits_no (off := off) (.inr (.inl h2)))
    go_enter Tryd.func10, Tryd.ntmps10
    go_wp2
    go_ret
    exact ⟨ret_bool HF.out.symm, rfl⟩
  cases h3 : (off % 2 != 0) with
  | true =>
    have HF := Lib.hid (fits_no (k := k) (off := off) (.inr (.inr (by simpa using h3))))
    go_enter Tryd.func10, Tryd.ntmps10
    go_wp2
    go_ret
    exact ⟨ret_bool HF.out.symm, rfl⟩
  | false =>
    have HE := Lib.hid (show off % 2 = 0 by simpa using h3)
    rcases kind_cases (by omega : 1 ≤ k) (by omega) with rfl | rfl | rfl | rfl | rfl
    all_goals
      go_enter Tryd.func10, Tryd.ntmps10
      go_wp2
      all_goals go_ret
      all_goals
        refine ⟨ret_bool ?_, rfl⟩
        have := HE.out
        rw [Bool.eq_iff_iff, Num.fits_iff]
        simp [Num.lowK, Num.highK]
        omega
end Go.Proofs.YtapenhbfpcmpnaaDoor
