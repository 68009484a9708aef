/- Contracts of layer 16's signs and names, and of their references. -/
import Derived.Test.YtnngmpimobolpaaLexNumber
import Derived.Lib.IndexLaws
namespace Go.Proofs.Ytnngmpimobolpaa
open Go.RowKit Mem
set_option linter.unusedVariables false
theorem index_has (l : List UInt8) (c : UInt8) : decide ((0 : Int) ≤ Lib.indexByte l c) = l.contains c := by
  induction l with
  | nil => rfl
  | cons a t ih =>
    have hg := Lib.indexByte_ge t c
    rw [Lib.indexByte]
    by_cases h : a = c
    · subst h; simp
    · rw [List.contains_cons]
      have h2 : (c == a) = false := by simpa using fun e => h e.symm
      simp only [h2, Bool.false_or, ← ih]
      have h3 : (a == c) = false := by simpa using h
      simp only [h3, Bool.false_eq_true, if_false]
      by_cases h4 : Lib.indexByte t c = -1
      · rw [h4]; rfl
      · have h5 : (Lib.indexByte t c == -1) = false := by simpa using h4
        rw [h5]
        simp only [Bool.false_eq_true, if_false]
        rw [Bool.eq_iff_iff]
        simp only [decide_eq_true_eq]
        omega
/-- What stands ahead, as a text. -/
def headText (s : ByteArray) (n : Nat) : ByteArray := s.extract 0 n
theorem head_ba (s : ByteArray) (n : Nat) : headText s n = Lx.ba (s.data.toList.take n) := by
  unfold headText Lx.ba
  apply ByteArray.ext
  apply Array.toList_inj.1
  simp
theorem idx_sign (c : UInt8) (w : World) : Calls Try.prog 70 #[.string ⟨#[44, 58, 35, 91, 93, 123, 125, 33, 61, 40, 41, 43, 45, 42, 38, 124, 126]⟩, .int .u8 c.toNat] w fun e w' => e = .returned (.int .i64 (Lib.indexByte Lx.signs c)) ∧ w' = w := by
  have := Try.strings_IndexByte ⟨#[44, 58, 35, 91, 93, 123, 125, 33, 61, 40, 41, 43, 45, 42, 38, 124, 126]⟩ c.toNat w
  rw [Int.toNat_natCast, show c.toNat.toUInt8 = c by simp] at this
  exact this
theorem sign_pre {s : ByteArray} (h : ([60, 60].isPrefixOf s.data.toList || [62, 62].isPrefixOf s.data.toList) = true) : Lx.signLen s.data.toList = 2 ∧ 2 ≤ s.size := by
  refine ⟨by unfold Lx.signLen; rw [if_pos h], ?_⟩
  have e : s.data.toList.length = s.size := by simp
  rw [Bool.or_eq_true] at h
  rcases h with h | h
  · have := Lx.prefix_len _ _ h; simp at this; omega
  · have := Lx.prefix_len _ _ h; simp at this; omega
theorem sign_one {s : ByteArray} (hp : 0 < s.size) (h1 : [60, 60].isPrefixOf s.data.toList = false) (h2 : [62, 62].isPrefixOf s.data.toList = false) : Lx.signLen s.data.toList = if Lx.signs.contains s[0] = true then 1 else 0 := by
  unfold Lx.signLen
  rw [if_neg (by rw [h1, h2]; decide), head_at s hp]; rfl
end Go.Proofs.Ytnngmpimobolpaa
