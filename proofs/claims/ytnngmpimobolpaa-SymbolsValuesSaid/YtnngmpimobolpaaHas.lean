/- Whether a text is among some. -/
import Derived.Test.YtnngmpimobolpaaNames
namespace Go.Proofs.Ytnngmpimobolpaa
set_option linter.unusedVariables false
def hasB (s : ByteArray) (l : List ByteArray) : Bool := l.any (· == s)
theorem hasB_iff {s : ByteArray} {l : List ByteArray} : hasB s l = true ↔ s ∈ l := by
  unfold hasB
  rw [List.any_eq_true]
  constructor
  · rintro ⟨x, hx, e⟩
    rw [ba_beq] at e; subst e; exact hx
  · intro h
    exact ⟨s, h, ba_beq.2 rfl⟩
theorem hasB_no {s : ByteArray} {l : List ByteArray} : hasB s l = false ↔ s ∉ l := by
  rw [← hasB_iff]; simp
theorem hasB_app (s u : ByteArray) (l : List ByteArray) : hasB s (l ++ [u]) = (hasB s l || (u == s)) := by
  unfold hasB; simp
theorem ba_self (s : ByteArray) : (s == s) = true := ba_beq.2 rfl
theorem ba_ne {s u : ByteArray} (h : s ≠ u) : (u == s) = false := by
  cases e : (u == s) with
  | false => rfl
  | true => exact absurd (ba_beq.1 e).symm h
end Go.Proofs.Ytnngmpimobolpaa
