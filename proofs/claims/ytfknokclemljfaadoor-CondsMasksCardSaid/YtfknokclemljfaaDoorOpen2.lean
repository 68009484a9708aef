/- How further arguments that came in are read: an array of two words, the four flags. -/
import Derived.Test.YtfknokclemljfaaDoorOpen
import Derived.Lib.SmallJoins
namespace Go.Proofs.YtfknokclemljfaaDoor
namespace Open
open Go.RowKit Go.ChangeShapes Go.WideShapes Go.Deep Mem
set_option linter.unusedVariables false
section
variable {H : Type} {enc : TypeId × Value → H} {P : Program} {W : World} {base : Nat} {spare : Nat → Bool} {held : Bool}
/-- An array of two words. -/
theorem words2_of {r : Reach} {b0 : Nat} {t e : TypeId} {v : Value} {d : DataW H} {p : List MemPlace} (ht : P.underlying t = some (.array 2 e)) (he : P.underlying e = some (.int .u32)) (hT : P.cellsOf t = 2) (hc : P.cellsOf e = 1)
    (hv : Value.okWide P W r b0 t v) (h : DataW.Trod enc P W base spare held t v d p) :
    ∃ a b : Int, v = .agg #[.int .u32 a, .int .u32 b] ∧ 0 ≤ a ∧ a ≤ 4294967295 ∧ 0 ≤ b ∧ b ≤ 4294967295 := by
  simp only [Value.okWide, ht] at hv
  obtain ⟨cs, rfl, hsz, _⟩ := hv
  rw [hT] at hsz
  obtain ⟨l⟩ := cs
  match l, hsz with
  | [c0, c1], _ =>
    obtain ⟨fuel, hf⟩ := h
    obtain ⟨xs, m, _, _, _, hl, hg⟩ := DataW.trod_array ht hf
    have g0 := hg 0 (by omega)
    have g1 := hg 1 (by omega)
    rw [List.getElem?_eq_getElem (by omega)] at g0 g1
    rw [hc] at g0 g1
    simp only [Value.cells, Nat.zero_mul, List.drop_zero, Nat.one_mul, List.take_succ_cons, List.take_zero, List.drop_succ_cons] at g0 g1
    obtain ⟨a, e0, _, wa⟩ := DataW.trod_int he g0
    obtain ⟨b, e1, _, wb⟩ := DataW.trod_int he g1
    simp at e0 e1
    subst e0 e1
    have ha := bounds_u32 wa
    have hb := bounds_u32 wb
    exact ⟨a, b, rfl, ha.1, ha.2, hb.1, hb.2⟩
/-- A struct of four bools. -/
theorem bools4_of {r : Reach} {b0 : Nat} {t : TypeId} {f0 f1 f2 f3 : Field} {v : Value} {d : DataW H} {p : List MemPlace} (hs : P.underlying t = some (.struct #[f0, f1, f2, f3])) (hone : oneCellFields P #[f0, f1, f2, f3] = true) (hC : P.cellsOf t = 4)
    (q0 : P.underlying f0.type = some .bool) (q1 : P.underlying f1.type = some .bool) (q2 : P.underlying f2.type = some .bool) (q3 : P.underlying f3.type = some .bool)
    (hv : Value.okWide P W r b0 t v) (h : DataW.Trod enc P W base spare held t v d p) :
    ∃ n z c v' : Bool, v = .agg #[.bool n, .bool z, .bool c, .bool v'] := by
  obtain ⟨v0, v1, v2, v3, y0, y1, y2, y3, m, rfl, _, _, g0, g1, g2, g3⟩ := Go.Joins.open_agg4 hs hone hC hv h
  obtain ⟨n, e0, _⟩ := DataW.trod_bool q0 g0
  obtain ⟨z, e1, _⟩ := DataW.trod_bool q1 g1
  obtain ⟨c, e2, _⟩ := DataW.trod_bool q2 g2
  obtain ⟨v', e3, _⟩ := DataW.trod_bool q3 g3
  simp at e0 e1 e2 e3
  subst e0 e1 e2 e3
  exact ⟨n, z, c, v', rfl⟩
end
end Open
end Go.Proofs.YtfknokclemljfaaDoor
