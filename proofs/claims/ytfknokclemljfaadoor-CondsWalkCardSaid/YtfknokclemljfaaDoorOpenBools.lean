/- How an argument that is a slice of bools is read. -/
import Derived.Test.YtfknokclemljfaaDoorBools
import Derived.Deep.Slices
import Derived.OpenShut
namespace Go.Proofs.YtfknokclemljfaaDoor
namespace Open
open Go.RowKit Go.ChangeShapes Go.WideShapes Go.Deep Mem
set_option linter.unusedVariables false
section
variable {H : Type} {enc : TypeId × Value → H} {P : Program} {W : World} {base : Nat} {spare : Nat → Bool} {held : Bool}
theorem bools_of {t e : TypeId} {a : Option Addr} {len cap : Nat} {d : DataW H} {p : List MemPlace} (ht : P.underlying t = some (.slice e)) (he : P.underlying e = some .bool) (hc : P.cellsOf e = 1)
    (h : DataW.Trod enc P W base spare held t (.slice a len cap) d p) :
    ∃ xs, Bools W W.heap.size a len xs ∧ len ≤ 9223372036854775807 := by
  obtain ⟨fuel, hf⟩ := h
  rcases open_slice1 ht hc hf with ⟨hcs, _⟩ | ⟨x, l, c, m, n, V, D, Pl, hcs, _, hl, hm, hmm, _, hcell⟩
  · simp [Value.cells] at hcs
    obtain ⟨rfl, rfl, rfl⟩ := hcs
    exact ⟨[], Bools.nil, by omega⟩
  · simp [Value.cells] at hcs
    obtain ⟨rfl, rfl, rfl⟩ := hcs
    have hlm : len ≤ m := by rw [hmm]; split <;> omega
    unfold maxLen at hm
    have hV : ∀ i, i < len → ∃ b, V i = .bool b := fun i hi => by
      obtain ⟨_, h2⟩ := hcell i (by omega)
      obtain ⟨b, e0, _⟩ := DataW.trod_bool he h2
      exact ⟨b, by simpa using e0⟩
    refine ⟨(List.range len).map (fun i => match V i with | .bool b => b | _ => false), ⟨by simp [bls_len], fun hn => ⟨x, rfl, ?_, fun j u hu => ?_⟩⟩, by omega⟩
    · have := (hcell 0 (by omega)).1
      have := World.block_lt_of_cell? W _ this
      rwa [add_block] at this
    · obtain ⟨z, hz1, rfl⟩ := bls_get hu
      rw [List.getElem?_map] at hz1
      have hj : j < len := by
        rcases Nat.lt_or_ge j len with h | h
        · exact h
        · rw [List.getElem?_eq_none (by simpa using h)] at hz1; cases hz1
      rw [List.getElem?_range hj] at hz1
      obtain ⟨b, hb⟩ := hV j hj
      simp [hb] at hz1
      rw [(hcell j (by omega)).1, hb, hz1]
end
end Open
end Go.Proofs.YtfknokclemljfaaDoor
