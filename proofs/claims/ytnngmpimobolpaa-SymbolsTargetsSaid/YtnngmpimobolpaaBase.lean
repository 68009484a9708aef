/- Small facts that every walk of this seat uses. -/
import Derived.WalkKit
import Derived.ProofKit
import Derived.WalkLawsBesides
import Derived.Lib.Hide
namespace Go.Proofs.Ytnngmpimobolpaa
open Go.RowKit
set_option linter.unusedVariables false
theorem ret_int {k : IntKind} {a b : Int} (h : a = b) : Ending.returned (.int k a) = .returned (.int k b) := by rw [h]
theorem val_int {k : IntKind} {a b : Int} (h : a = b) : Value.int k a = .int k b := by rw [h]
theorem ret_bool {a b : Bool} (h : a = b) : Ending.returned (.bool a) = .returned (.bool b) := by rw [h]
theorem ret_str {a b : ByteArray} (h : a = b) : Ending.returned (.string a) = .returned (.string b) := by rw [h]
theorem str_ne {s : ByteArray} {l : List UInt8} (h : s ≠ ⟨l.toArray⟩) : (s.toList == l) = false := by
  rw [beq_eq_false_iff_ne]
  intro e
  rw [ByteArray.toList_eq] at e
  apply h
  cases s
  simp only at e
  subst e
  simp
theorem str_emp {s : ByteArray} (h : s ≠ ⟨#[]⟩) : s.toList.isEmpty = false := by
  have := str_ne (l := []) h
  rw [beq_eq_false_iff_ne] at this
  simpa using this
theorem str_eq {s t : ByteArray} (h : (s.toList == t.toList) = true) : s = t := by
  rw [beq_iff_eq, ByteArray.toList_eq, ByteArray.toList_eq] at h
  cases s; cases t
  simp only at h
  rw [Array.toList_inj.1 h]
theorem ret_of {a b : Value} (h : b = a) : Ending.returned a = .returned b := by rw [h]
theorem bne_of {a b : Int} (h : a = b) : (a != b) = false := by simp [h]
theorem beq_of_eq {a b : Int} (h : a = b) : (a == b) = true := by simp [h]
theorem bne_of_ne {a b : Int} (h : a ≠ b) : (a != b) = true := by simp [h]
theorem beq_of_ne {a b : Int} (h : a ≠ b) : (a == b) = false := by simp [h]
theorem beq_of {a b c : Int} {t : Bool} (h : (a == c) = t) (e : a = b) : (b == c) = t := by rw [← e]; exact h
end Go.Proofs.Ytnngmpimobolpaa
