/- Contract of the reference's sign. -/
import Derived.Test.YtnngmpimobolpaaLexSign
namespace Go.Proofs.Ytnngmpimobolpaa
open Go.RowKit Mem
set_option linter.unusedVariables false
theorem ext_pre {s : ByteArray} {a b : UInt8} (h2 : 1 < s.size) : ((s.extract 0 2).toList == [a, b]) = [a, b].isPrefixOf s.data.toList := by
  rw [ext_list]
  have hlen : s.data.toList.length = s.size := by simp
  match hl : s.data.toList with
  | [] => rw [hl] at hlen; simp at hlen; omega
  | [x] => rw [hl] at hlen; simp at hlen; omega
  | x :: y :: t =>
    simp only [List.take_succ_cons, List.take_zero, List.isPrefixOf]
    rw [Bool.eq_iff_iff]
    simp
    constructor
    · rintro ⟨rfl, rfl⟩; exact ⟨rfl, rfl⟩
    · rintro ⟨rfl, rfl⟩; exact ⟨rfl, rfl⟩
theorem no_pre {s : ByteArray} {a b : UInt8} (h2 : ¬ 1 < s.size) : [a, b].isPrefixOf s.data.toList = false := by
  cases h : [a, b].isPrefixOf s.data.toList with
  | false => rfl
  | true =>
    have := Lx.prefix_len _ _ h
    have e : s.data.toList.length = s.size := by simp
    simp at this; omega
abbrev sg : ByteArray := ⟨#[44, 58, 35, 91, 93, 123, 125, 33, 61, 40, 41, 43, 45, 42, 38, 124, 126]⟩
theorem sg_at {k : Nat} (h : k < sg.size) : Lx.signs[k]? = some sg[k] := List.getElem?_eq_getElem (l := Lx.signs) (i := k) h
theorem sg_yes {k : Nat} {c : UInt8} (h : k < sg.size) (hc : ((sg[k].toNat : Int) == (c.toNat : Int)) = true) : Lx.signs.contains c = true := by
  have e : sg[k] = c := by
    rw [beq_iff_eq] at hc
    exact UInt8.toNat_inj.1 (by omega)
  have := List.mem_of_getElem? (sg_at h)
  rw [e] at this
  simpa using this
theorem sg_no {k : Nat} {c : UInt8} (h : k < sg.size) (hc : ((sg[k].toNat : Int) == (c.toNat : Int)) = false) (hall : ∀ j x, j < k → Lx.signs[j]? = some x → x ≠ c) : ∀ j x, j < k + 1 → Lx.signs[j]? = some x → x ≠ c := by
  intro j x hj hx
  by_cases e : j = k
  · subst e
    rw [sg_at h] at hx
    obtain rfl := Option.some.inj hx
    rintro e2
    rw [e2] at hc
    simp at hc
  · exact hall j x (by omega) hx
theorem sg_end {k : Nat} {c : UInt8} (h : ¬ k < 17) (hall : ∀ j x, j < k → Lx.signs[j]? = some x → x ≠ c) : Lx.signs.contains c = false := by
  cases e : Lx.signs.contains c with
  | false => rfl
  | true =>
    have hm : c ∈ Lx.signs := by simpa using e
    obtain ⟨j, hj, hx⟩ := List.getElem_of_mem hm
    have hj2 : j < 17 := hj
    exact absurd rfl (hall j c (by omega) (by rw [List.getElem?_eq_getElem hj, hx]))
end Go.Proofs.Ytnngmpimobolpaa
