/- Contracts of lex.number and of its reference (printed by mklexnum.py). -/
import Derived.Test.YtnngmpimobolpaaLexWalks
import Derived.Lib.Strings
namespace Go.Proofs.Ytnngmpimobolpaa
open Go.RowKit Mem
set_option linter.unusedVariables false
theorem ext_list (s : ByteArray) (k : Nat) : (s.extract 0 k).toList = s.data.toList.take k := by rw [Lib.extract_toList]; simp
theorem hex_two {s : ByteArray} (h : Lx.hex s.data.toList = true) : 1 < s.size := by
  have := Lx.prefix_len _ _ h
  have e : s.data.toList.length = s.size := by simp
  simp at this
  omega
theorem nat_bne {a b : Nat} (h : ¬ a = b) : ((a : Int) == (b : Int)) = false := by rw [beq_eq_false_iff_ne]; omega
theorem nat_beq {a b : Nat} (h : a = b) : ((a : Int) == (b : Int)) = true := by rw [beq_iff_eq]; omega
theorem hex_ext {s : ByteArray} (h : Lx.hex s.data.toList = true) : ((s.extract 0 2).toList == [48, 120]) = true := by
  rw [ext_list]
  unfold Lx.hex at h
  match hl : s.data.toList with
  | [] => rw [hl] at h; cases h
  | [a] => rw [hl] at h; simp [List.isPrefixOf] at h
  | a :: b :: t =>
    rw [hl] at h
    simp only [List.isPrefixOf, Bool.and_eq_true] at h
    simp only [List.take_succ_cons, List.take_zero]
    rw [← eq_of_beq h.1, ← eq_of_beq h.2.1]; decide
theorem nohex_ext {s : ByteArray} (h2 : 1 < s.size) (h : Lx.hex s.data.toList = false) : ((s.extract 0 2).toList == [48, 120]) = false := by
  rw [ext_list]
  unfold Lx.hex at h
  have hlen : s.data.toList.length = s.size := by simp
  match hl : s.data.toList with
  | [] => rw [hl] at hlen; simp at hlen; omega
  | [a] => rw [hl] at hlen; simp at hlen; omega
  | a :: b :: t =>
    rw [hl] at h
    simp only [List.take_succ_cons, List.take_zero]
    cases e : ([a, b] == [48, 120]) with
    | false => rfl
    | true =>
      have e := eq_of_beq e
      simp only [List.cons.injEq] at e
      obtain ⟨rfl, rfl, _⟩ := e
      simp [List.isPrefixOf] at h
end Go.Proofs.Ytnngmpimobolpaa
