/- How arguments that are terms and slices of texts are read. -/
import Derived.Test.YtfknokclemljfaaTerm
import Derived.Test.YtfknokclemljfaaNames
import Derived.Test.YtfknokclemljfaaTermDeep
import Derived.SliceStrings
import Derived.OpenShut
namespace Go.Proofs.Ytfknokclemljfaa
namespace Open
open Go.RowKit Go.ChangeShapes Go.WideShapes Mem
set_option linter.unusedVariables false
section
variable {H : Type} {enc : TypeId × Value → H} {P : Program} {W : World} {base : Nat} {spare : Nat → Bool} {held : Bool}
/-- A slice of texts. -/
theorem names_of {t e : TypeId} {a : Option Addr} {len cap : Nat} {d : DataW H} {p : List MemPlace} (ht : P.underlying t = some (.slice e)) (he : P.underlying e = some .string) (hc : P.cellsOf e = 1)
    (h : DataW.Trod enc P W base spare held t (.slice a len cap) d p) :
    ∃ xs, Nms W W.heap.size a len xs ∧ len ≤ 9223372036854775807 := by
  obtain ⟨fuel, hf⟩ := h
  rcases open_strings ht he hc hf with ⟨hcs, _⟩ | ⟨x, l, c, zs, hcs, _, hl, hm, hz, _, hcell, _⟩
  · simp [Value.cells] at hcs
    obtain ⟨rfl, rfl, rfl⟩ := hcs
    exact ⟨[], Nms.nil, by omega⟩
  · simp [Value.cells] at hcs
    obtain ⟨rfl, rfl, rfl⟩ := hcs
    have hzl : len ≤ zs.length := by rw [hz]; split <;> omega
    unfold maxLen at hm
    refine ⟨zs.take len, ⟨by rw [nmCells_len, List.length_take]; omega, fun hn => ⟨x, rfl, ?_, fun j u hu => ?_⟩⟩, by omega⟩
    · have := hcell 0 (by omega)
      have := World.block_lt_of_cell? W _ this
      rwa [add_block] at this
    · obtain ⟨z, hz1, rfl⟩ := nmCells_get hu
      have hj : j < len := by
        rcases Nat.lt_or_ge j len with h | h
        · exact h
        · rw [List.getElem?_eq_none (by rw [List.length_take]; omega)] at hz1; cases hz1
      rw [List.getElem?_take_of_lt hj] at hz1
      rw [hcell j (by omega), List.getD_eq_getElem?_getD, hz1]
      rfl
/-- A term. -/
theorem term_of {r : Reach} {b0 : Nat} {v : Value} {d : DataW H} {p : List MemPlace} (hv : Value.okWide Try.prog W r b0 24 v) (h : DataW.Trod enc Try.prog W base spare held 24 v d p) :
    ∃ (k : Nat) (t : Tm) (A : Option Addr) (c : Nat), v = tmV t A c ∧ Lies W W.heap.size k t (tmCells t A c) := by
  simp only [Value.okWide, Try.underlying24] at hv
  obtain ⟨cs, rfl, _⟩ := hv
  obtain ⟨fuel, hf⟩ := h
  obtain ⟨t, ht⟩ := lies_of fuel hf
  obtain ⟨_, A, c, e⟩ := ht.form
  refine ⟨fuel + 1, t, A, c, ?_, ?_⟩
  · have : cs.toList = tmCells t A c := e
    have e2 : cs = (tmCells t A c).toArray := by rw [← this]
    rw [e2]; rfl
  · rw [← e]; exact ht
end
end Open
end Go.Proofs.Ytfknokclemljfaa
