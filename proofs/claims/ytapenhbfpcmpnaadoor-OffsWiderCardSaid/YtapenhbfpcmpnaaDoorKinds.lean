/- What the tied table of kinds gives the walks: its cells. -/
import Derived.Test.YtapenhbfpcmpnaaDoorRows
import Derived.Test.YtapenhbfpcmpnaaDoorOffsWalks
import Derived.ProofKit
import Derived.LaidMore
import Derived.OpenShut
import Derived.Stop.Joined
namespace Go.Proofs.YtapenhbfpcmpnaaDoor
open Go.ChangeShapes Go.WideShapes Go.ChangeAt Go.WideMaps Go.WideElems Go.RowKit
set_option linter.unusedVariables false
theorem gKinds : Tryd.prog.globalNamed "cartouche/offs.kinds" = some 0 := by kernel_rfl
theorem tKinds : (Tryd.prog.globals[0]?).map (·.type) = some 37 := by kernel_rfl
theorem cKinds : Tryd.prog.cellsOf 37 = 12 := by kernel_rfl
theorem cKind : Tryd.prog.cellsOf 36 = 2 := by kernel_rfl
section
variable {H : Type} {enc : TypeId × Value → H} {W : World} {base : Nat} {spare : Nat → Bool} {held : Bool}
theorem kind_cells {m : Nat} {c0 c1 : Value} {b : Int} {s : Bool} {p : List MemPlace} (h : DataW.trod enc Tryd.prog W base spare held m 36 [c0, c1] = some (.agg [.lit (.int .i64 b), .lit (.bool s)], p)) : c0 = .int .i64 b ∧ c1 = .bool s := by
  obtain ⟨y0, y1, n, hx, _, h0, h1⟩ := trod_struct2 Tryd.underlying36 h
  have ci : Tryd.prog.cellsOf 3 = 1 := by kernel_rfl
  have cb : Tryd.prog.cellsOf 4 = 1 := by kernel_rfl
  simp only [ci, cb, List.drop_zero, List.take_succ_cons, List.take_zero, List.drop_succ_cons] at h0 h1
  obtain ⟨a, e0, f0, _⟩ := DataW.trod_int Tryd.underlying3 h0
  obtain ⟨t, e1, f1⟩ := DataW.trod_bool Tryd.underlying4 h1
  simp only [Prod.mk.injEq, DataW.agg.injEq, List.cons.injEq] at hx
  rw [f0, f1] at hx
  simp at e0 e1 hx
  obtain ⟨⟨rfl, rfl⟩, _⟩ := hx
  exact ⟨e0, e1⟩
end
theorem list12 {l : List Value} (h : l.length = 12) : ∃ a0 a1 a2 a3 a4 a5 a6 a7 a8 a9 b0 b1, l = [a0, a1, a2, a3, a4, a5, a6, a7, a8, a9, b0, b1] := by
  match l, h with
  | [a0, a1, a2, a3, a4, a5, a6, a7, a8, a9, b0, b1], _ => exact ⟨a0, a1, a2, a3, a4, a5, a6, a7, a8, a9, b0, b1, rfl⟩
theorem list6 {α : Type} {l : List α} (h : l.length = 6) : ∃ a0 a1 a2 a3 a4 a5, l = [a0, a1, a2, a3, a4, a5] := by
  match l, h with
  | [a0, a1, a2, a3, a4, a5], _ => exact ⟨a0, a1, a2, a3, a4, a5, rfl⟩
theorem of_laid {W : World} (h : laidMetH Tryd.prog [("cartouche/offs.kinds", Rows.laid_cartouche_offs_kinds)] W) : Kinds W := by
  rw [MakeChecks.laidMetH_plain _ _ _ (by kernel_rfl)] at h
  obtain ⟨ps, ⟨g0, t0, cs0, f0, p0, q0, hg0, ht0, hv0, hd0, _⟩, _⟩ := h
  obtain rfl := Option.some.inj (gKinds.symm.trans hg0)
  obtain rfl := Option.some.inj (tKinds.symm.trans ht0)
  obtain ⟨xs, m, _, hx, hl, hn, hel⟩ := DataW.trod_array Tryd.underlying37 hd0
  rw [cKinds] at hl
  rw [cKind] at hel
  obtain ⟨l⟩ := cs0
  obtain ⟨a0, a1, a2, a3, a4, a5, a6, a7, a8, a9, b0, b1, rfl⟩ := list12 hl
  obtain ⟨x0, x1, x2, x3, x4, x5, rfl⟩ := list6 hn
  have hc := fun i => World.var?_cell hg0 hv0 i
  simp only [Rows.laid_cartouche_offs_kinds, Prod.mk.injEq, DataW.agg.injEq, List.map_cons, List.map_nil, List.cons.injEq] at hx
  obtain ⟨⟨_, d1, d2, d3, d4, d5, _⟩, _⟩ := hx
  have k1 := hel 1 (by decide)
  have k2 := hel 2 (by decide)
  have k3 := hel 3 (by decide)
  have k4 := hel 4 (by decide)
  have k5 := hel 5 (by decide)
  simp at k1 k2 k3 k4 k5
  obtain ⟨x1, y1⟩ := x1
  obtain ⟨x2, y2⟩ := x2
  obtain ⟨x3, y3⟩ := x3
  obtain ⟨x4, y4⟩ := x4
  obtain ⟨x5, y5⟩ := x5
  simp only at d1 d2 d3 d4 d5
  subst d1 d2 d3 d4 d5
  obtain ⟨rfl, rfl⟩ := kind_cells k1
  obtain ⟨rfl, rfl⟩ := kind_cells k2
  obtain ⟨rfl, rfl⟩ := kind_cells k3
  obtain ⟨rfl, rfl⟩ := kind_cells k4
  obtain ⟨rfl, rfl⟩ := kind_cells k5
  exact ⟨hc 2, hc 3, hc 4, hc 5, hc 6, hc 7, hc 8, hc 9, hc 10, hc 11⟩
theorem door_met (os : Os) (args : Array Value) : laidMetH Tryd.prog [("cartouche/offs.kinds", Rows.laid_cartouche_offs_kinds)] ((World.doorLaid Tryd.prog 400 os).forCall (fun _ _ => 0) ⟨#[], args, []⟩).memory :=
  laidMetH_of_parts3 (fuel := 8) (laidMet_of_run' 8 (by kernel_rfl) (by kernel_rfl)) (by kernel_rfl) (by kernel_rfl)
end Go.Proofs.YtapenhbfpcmpnaaDoor
