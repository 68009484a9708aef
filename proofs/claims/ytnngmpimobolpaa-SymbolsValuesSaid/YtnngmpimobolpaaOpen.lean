/- How arguments that came in are read: words, numbers, texts, slices of ints, pairs. -/
import Derived.Test.YtnngmpimobolpaaMem
import Derived.OpenShut
import Derived.ShutString
namespace Go.Proofs.Ytnngmpimobolpaa
namespace Open
open Go.RowKit Go.ChangeShapes Go.WideShapes Mem
set_option linter.unusedVariables false
section
variable {H : Type} {enc : TypeId × Value → H} {P : Program} {W : World} {base : Nat} {spare : Nat → Bool} {held : Bool}
/-- A slice of ints. -/
theorem ints_of {t e : TypeId} {a : Option Addr} {len cap : Nat} {d : DataW H} {p : List MemPlace} (ht : P.underlying t = some (.slice e)) (he : P.underlying e = some (.int .i64)) (hc : P.cellsOf e = 1)
    (h : DataW.Trod enc P W base spare held t (.slice a len cap) d p) :
    ∃ xs, Ints W W.heap.size a len xs ∧ len ≤ 9223372036854775807 ∧ ∀ z ∈ xs, -9223372036854775808 ≤ z ∧ z ≤ 9223372036854775807 := by
  obtain ⟨fuel, hf⟩ := h
  rcases open_ints ht he hc hf with ⟨hcs, _⟩ | ⟨x, l, c, zs, hcs, _, hl, hm, hz, _, hcell, hwz⟩
  · simp [Value.cells] at hcs
    obtain ⟨rfl, rfl, rfl⟩ := hcs
    exact ⟨[], Ints.nil, by omega, fun z hz => by cases hz⟩
  · simp [Value.cells] at hcs
    obtain ⟨rfl, rfl, rfl⟩ := hcs
    have hzl : len ≤ zs.length := by rw [hz]; split <;> omega
    unfold maxLen at hm
    refine ⟨zs.take len, ⟨by rw [ints_len, List.length_take]; omega, fun hn => ⟨x, rfl, ?_, fun j u hu => ?_⟩⟩, by omega, fun z hz => bounds_i64 (hwz z (List.mem_of_mem_take hz))⟩
    · have := hcell 0 (by omega)
      have := World.block_lt_of_cell? W _ this
      rwa [add_block] at this
    · obtain ⟨z, hz1, rfl⟩ := ints_get hu
      have hj : j < len := by
        rcases Nat.lt_or_ge j len with h | h
        · exact h
        · rw [List.getElem?_eq_none (by rw [List.length_take]; omega)] at hz1; cases hz1
      rw [List.getElem?_take_of_lt hj] at hz1
      rw [hcell j (by omega), List.getD_eq_getElem?_getD, hz1]
      rfl
/-- An array of two ints. -/
theorem pair_of {r : Reach} {b0 : Nat} {t e : TypeId} {v : Value} {d : DataW H} {p : List MemPlace} (ht : P.underlying t = some (.array 2 e)) (he : P.underlying e = some (.int .i64)) (hT : P.cellsOf t = 2) (hc : P.cellsOf e = 1)
    (hv : Value.okWide P W r b0 t v) (h : DataW.Trod enc P W base spare held t v d p) :
    ∃ a b : Int, v = .agg #[.int .i64 a, .int .i64 b] ∧ -9223372036854775808 ≤ a ∧ a ≤ 9223372036854775807 ∧ -9223372036854775808 ≤ b ∧ b ≤ 9223372036854775807 := by
  simp only [Value.okWide, ht] at hv
  obtain ⟨cs, rfl, hsz, _⟩ := hv
  rw [hT] at hsz
  obtain ⟨l⟩ := cs
  match l, hsz with
  | [c0, c1], _ =>
    obtain ⟨fuel, hf⟩ := h
    obtain ⟨xs, m, _, _, _, hl, hg⟩ := DataW.trod_array ht hf
    have g0 := hg 0 (by omega)
    have g1 := hg 1 (by omega)
    rw [List.getElem?_eq_getElem (by omega)] at g0 g1
    rw [hc] at g0 g1
    simp only [Value.cells, Nat.zero_mul, List.drop_zero, Nat.one_mul, List.take_succ_cons, List.take_zero, List.drop_succ_cons] at g0 g1
    obtain ⟨a, e0, _, wa⟩ := DataW.trod_int he g0
    obtain ⟨b, e1, _, wb⟩ := DataW.trod_int he g1
    simp at e0 e1
    subst e0 e1
    have ha := bounds_i64 wa
    have hb := bounds_i64 wb
    exact ⟨a, b, rfl, ha.1, ha.2, hb.1, hb.2⟩
end
end Open
end Go.Proofs.Ytnngmpimobolpaa
