/- How an argument that is a slice of lines is read. -/
import Derived.Test.YtnngmpimobolpaaProg
import Derived.Test.YtnngmpimobolpaaLines
import Derived.Deep.Slices
import Derived.OpenShut
namespace Go.Proofs.Ytnngmpimobolpaa
namespace Open
open Go.RowKit Go.ChangeShapes Go.WideShapes Go.Deep Mem
set_option linter.unusedVariables false
section
variable {H : Type} {enc : TypeId × Value → H} {W : World} {base : Nat} {spare : Nat → Bool} {held : Bool}
theorem list19 {l : List Value} (h : l.length = 19) : ∃ a0 a1 a2 a3 a4 a5 a6 a7 a8 a9 b0 b1 b2 b3 b4 b5 b6 b7 b8, l = [a0, a1, a2, a3, a4, a5, a6, a7, a8, a9, b0, b1, b2, b3, b4, b5, b6, b7, b8] := by
  match l, h with
  | [a0, a1, a2, a3, a4, a5, a6, a7, a8, a9, b0, b1, b2, b3, b4, b5, b6, b7, b8], _ => exact ⟨_, _, _, _, _, _, _, _, _, _, _, _, _, _, _, _, _, _, _, rfl⟩
theorem cInt : Try.prog.cellsOf 3 = 1 := by kernel_rfl
theorem cBool : Try.prog.cellsOf 4 = 1 := by kernel_rfl
theorem cStr : Try.prog.cellsOf 9 = 1 := by kernel_rfl
theorem cIns : Try.prog.cellsOf 51 = 9 := by kernel_rfl
theorem cExpr : Try.prog.cellsOf 54 = 4 := by kernel_rfl
theorem cLine : Try.prog.cellsOf 56 = 19 := by kernel_rfl
theorem cArgs : Try.prog.cellsOf 52 = 1 := by kernel_rfl
theorem some_of {α : Type} {o : Option α} {l : List α} {i : Nat} (h : o = l[i]?) (hi : i < l.length) : ∃ y, o = some y := ⟨_, h.trans (List.getElem?_eq_getElem hi)⟩
theorem int_of {m : Nat} {v : Value} {y : DataW H × List MemPlace} (h : DataW.trod enc Try.prog W base spare held m 3 [v] = some y) : ∃ x, v = .int .i64 x ∧ i64B x := by
  obtain ⟨x, e, _, wf⟩ := DataW.trod_int Try.underlying3 h
  exact ⟨x, by simpa using e, bounds_i64 wf⟩
theorem bool_of {m : Nat} {v : Value} {y : DataW H × List MemPlace} (h : DataW.trod enc Try.prog W base spare held m 4 [v] = some y) : ∃ x, v = .bool x := by
  obtain ⟨x, e, _⟩ := DataW.trod_bool Try.underlying4 h
  exact ⟨x, by simpa using e⟩
theorem str_of {m : Nat} {v : Value} {y : DataW H × List MemPlace} (h : DataW.trod enc Try.prog W base spare held m 9 [v] = some y) : ∃ x : ByteArray, v = .string x ∧ x.size ≤ maxLen := by
  obtain ⟨x, e, _, hs⟩ := DataW.trod_string Try.underlying9 h
  exact ⟨x, by simpa using e, hs⟩
theorem slice_of {m : Nat} {v : Value} {y : DataW H × List MemPlace} (h : DataW.trod enc Try.prog W base spare held m 52 [v] = some y) : ∃ (a : Option Addr) (n k : Nat), v = .slice a n k := by
  rcases DataW.trod_slice Try.underlying52 h with ⟨e, _⟩ | ⟨a, n, k, _, _, _, _, e, _⟩
  · exact ⟨_, _, _, by simpa using e⟩
  · exact ⟨_, _, _, by simpa using e⟩
set_option maxRecDepth 100000 in
theorem line_of {m : Nat} {cs : List Value} {y : DataW H × List MemPlace} (h : DataW.trod enc Try.prog W base spare held m 56 cs = some y) : ∃ L : Ln, cs = L.cells ∧ L.ok := by
  obtain ⟨xs, n, _, _, hl, hxl, hf⟩ := DataW.trod_struct Try.underlying56 h
  rw [cLine] at hl
  obtain ⟨a0, a1, a2, a3, a4, a5, a6, a7, a8, a9, b0, b1, b2, b3, b4, b5, b6, b7, b8, rfl⟩ := list19 hl
  have hx : xs.length = 8 := hxl
  have f0 : DataW.trod enc Try.prog W base spare held n 9 (([a0, a1, a2, a3, a4, a5, a6, a7, a8, a9, b0, b1, b2, b3, b4, b5, b6, b7, b8].drop 0).take (Try.prog.cellsOf 9)) = xs[0]? := hf 0 _ rfl
  have f1 : DataW.trod enc Try.prog W base spare held n 3 (([a0, a1, a2, a3, a4, a5, a6, a7, a8, a9, b0, b1, b2, b3, b4, b5, b6, b7, b8].drop 1).take (Try.prog.cellsOf 3)) = xs[1]? := hf 1 _ rfl
  have f2 : DataW.trod enc Try.prog W base spare held n 51 (([a0, a1, a2, a3, a4, a5, a6, a7, a8, a9, b0, b1, b2, b3, b4, b5, b6, b7, b8].drop 2).take (Try.prog.cellsOf 51)) = xs[2]? := hf 2 _ rfl
  have f3 : DataW.trod enc Try.prog W base spare held n 3 (([a0, a1, a2, a3, a4, a5, a6, a7, a8, a9, b0, b1, b2, b3, b4, b5, b6, b7, b8].drop 11).take (Try.prog.cellsOf 3)) = xs[3]? := hf 3 _ rfl
  have f4 : DataW.trod enc Try.prog W base spare held n 9 (([a0, a1, a2, a3, a4, a5, a6, a7, a8, a9, b0, b1, b2, b3, b4, b5, b6, b7, b8].drop 12).take (Try.prog.cellsOf 9)) = xs[4]? := hf 4 _ rfl
  have f5 : DataW.trod enc Try.prog W base spare held n 4 (([a0, a1, a2, a3, a4, a5, a6, a7, a8, a9, b0, b1, b2, b3, b4, b5, b6, b7, b8].drop 13).take (Try.prog.cellsOf 4)) = xs[5]? := hf 5 _ rfl
  have f6 : DataW.trod enc Try.prog W base spare held n 3 (([a0, a1, a2, a3, a4, a5, a6, a7, a8, a9, b0, b1, b2, b3, b4, b5, b6, b7, b8].drop 14).take (Try.prog.cellsOf 3)) = xs[6]? := hf 6 _ rfl
  have f7 : DataW.trod enc Try.prog W base spare held n 54 (([a0, a1, a2, a3, a4, a5, a6, a7, a8, a9, b0, b1, b2, b3, b4, b5, b6, b7, b8].drop 15).take (Try.prog.cellsOf 54)) = xs[7]? := hf 7 _ rfl
  simp only [cInt, cBool, cStr, cIns, cExpr, List.drop_zero, List.drop_succ_cons, List.take_succ_cons, List.take_zero] at f0 f1 f2 f3 f4 f5 f6 f7
  obtain ⟨y0, f0⟩ := some_of f0 (by omega)
  obtain ⟨y1, f1⟩ := some_of f1 (by omega)
  obtain ⟨y2, f2⟩ := some_of f2 (by omega)
  obtain ⟨y3, f3⟩ := some_of f3 (by omega)
  obtain ⟨y4, f4⟩ := some_of f4 (by omega)
  obtain ⟨y5, f5⟩ := some_of f5 (by omega)
  obtain ⟨y6, f6⟩ := some_of f6 (by omega)
  obtain ⟨y7, f7⟩ := some_of f7 (by omega)
  obtain ⟨x0, rfl, _⟩ := str_of f0
  obtain ⟨x1, rfl, k1⟩ := int_of f1
  obtain ⟨x3, rfl, k3⟩ := int_of f3
  obtain ⟨x4, rfl, _⟩ := str_of f4
  obtain ⟨x5, rfl⟩ := bool_of f5
  obtain ⟨x6, rfl, _⟩ := int_of f6
  obtain ⟨is, n2, _, _, _, hil, hi⟩ := DataW.trod_struct Try.underlying51 f2
  have hix : is.length = 9 := hil
  have i0 : DataW.trod enc Try.prog W base spare held n2 3 (([a2, a3, a4, a5, a6, a7, a8, a9, b0].drop 0).take (Try.prog.cellsOf 3)) = is[0]? := hi 0 _ rfl
  have i1 : DataW.trod enc Try.prog W base spare held n2 3 (([a2, a3, a4, a5, a6, a7, a8, a9, b0].drop 1).take (Try.prog.cellsOf 3)) = is[1]? := hi 1 _ rfl
  have i2 : DataW.trod enc Try.prog W base spare held n2 3 (([a2, a3, a4, a5, a6, a7, a8, a9, b0].drop 2).take (Try.prog.cellsOf 3)) = is[2]? := hi 2 _ rfl
  have i3 : DataW.trod enc Try.prog W base spare held n2 3 (([a2, a3, a4, a5, a6, a7, a8, a9, b0].drop 3).take (Try.prog.cellsOf 3)) = is[3]? := hi 3 _ rfl
  have i4 : DataW.trod enc Try.prog W base spare held n2 3 (([a2, a3, a4, a5, a6, a7, a8, a9, b0].drop 4).take (Try.prog.cellsOf 3)) = is[4]? := hi 4 _ rfl
  have i5 : DataW.trod enc Try.prog W base spare held n2 3 (([a2, a3, a4, a5, a6, a7, a8, a9, b0].drop 5).take (Try.prog.cellsOf 3)) = is[5]? := hi 5 _ rfl
  have i6 : DataW.trod enc Try.prog W base spare held n2 3 (([a2, a3, a4, a5, a6, a7, a8, a9, b0].drop 6).take (Try.prog.cellsOf 3)) = is[6]? := hi 6 _ rfl
  have i7 : DataW.trod enc Try.prog W base spare held n2 3 (([a2, a3, a4, a5, a6, a7, a8, a9, b0].drop 7).take (Try.prog.cellsOf 3)) = is[7]? := hi 7 _ rfl
  have i8 : DataW.trod enc Try.prog W base spare held n2 4 (([a2, a3, a4, a5, a6, a7, a8, a9, b0].drop 8).take (Try.prog.cellsOf 4)) = is[8]? := hi 8 _ rfl
  simp only [cInt, cBool, List.drop_zero, List.drop_succ_cons, List.take_succ_cons, List.take_zero] at i0 i1 i2 i3 i4 i5 i6 i7 i8
  obtain ⟨_, i0⟩ := some_of i0 (by omega)
  obtain ⟨_, i1⟩ := some_of i1 (by omega)
  obtain ⟨_, i2⟩ := some_of i2 (by omega)
  obtain ⟨_, i3⟩ := some_of i3 (by omega)
  obtain ⟨_, i4⟩ := some_of i4 (by omega)
  obtain ⟨_, i5⟩ := some_of i5 (by omega)
  obtain ⟨_, i6⟩ := some_of i6 (by omega)
  obtain ⟨_, i7⟩ := some_of i7 (by omega)
  obtain ⟨_, i8⟩ := some_of i8 (by omega)
  obtain ⟨z0, rfl, q0⟩ := int_of i0
  obtain ⟨z1, rfl, q1⟩ := int_of i1
  obtain ⟨z2, rfl, _⟩ := int_of i2
  obtain ⟨z3, rfl, _⟩ := int_of i3
  obtain ⟨z4, rfl, _⟩ := int_of i4
  obtain ⟨z5, rfl, q5⟩ := int_of i5
  obtain ⟨z6, rfl, _⟩ := int_of i6
  obtain ⟨z7, rfl, q7⟩ := int_of i7
  obtain ⟨z8, rfl⟩ := bool_of i8
  obtain ⟨es, n3, _, _, _, hel, he⟩ := DataW.trod_struct Try.underlying54 f7
  have hex : es.length = 4 := hel
  have e0 : DataW.trod enc Try.prog W base spare held n3 3 (([b5, b6, b7, b8].drop 0).take (Try.prog.cellsOf 3)) = es[0]? := he 0 _ rfl
  have e1 : DataW.trod enc Try.prog W base spare held n3 3 (([b5, b6, b7, b8].drop 1).take (Try.prog.cellsOf 3)) = es[1]? := he 1 _ rfl
  have e2 : DataW.trod enc Try.prog W base spare held n3 9 (([b5, b6, b7, b8].drop 2).take (Try.prog.cellsOf 9)) = es[2]? := he 2 _ rfl
  have e3 : DataW.trod enc Try.prog W base spare held n3 52 (([b5, b6, b7, b8].drop 3).take (Try.prog.cellsOf 52)) = es[3]? := he 3 _ rfl
  simp only [cInt, cStr, cArgs, List.drop_zero, List.drop_succ_cons, List.take_succ_cons, List.take_zero] at e0 e1 e2 e3
  obtain ⟨_, e0⟩ := some_of e0 (by omega)
  obtain ⟨_, e1⟩ := some_of e1 (by omega)
  obtain ⟨_, e2⟩ := some_of e2 (by omega)
  obtain ⟨_, e3⟩ := some_of e3 (by omega)
  obtain ⟨t0, rfl, r0⟩ := int_of e0
  obtain ⟨t1, rfl, r1⟩ := int_of e1
  obtain ⟨t2, rfl, _⟩ := str_of e2
  obtain ⟨sa, sn, sk, rfl⟩ := slice_of e3
  exact ⟨⟨x0, x1, z0, z1, z2, z3, z4, z5, z6, z7, z8, x3, x4, x5, x6, t0, t1, t2, .slice sa sn sk⟩, rfl, ⟨k1, q0, q1, q5, q7, k3, r0, r1, sa, sn, sk, rfl⟩⟩
/-- A slice of lines. -/
theorem lines_of {a : Option Addr} {len cap : Nat} {d : DataW H} {p : List MemPlace} (h : DataW.Trod enc Try.prog W base spare held 32 (.slice a len cap) d p) :
    ∃ ls, Lines W W.heap.size a len ls ∧ len ≤ 9223372036854775807 := by
  obtain ⟨fuel, hf⟩ := h
  rcases open_slice Try.underlying32 hf with ⟨hcs, _⟩ | ⟨x, l, c, m, n, D, Pl, hcs, _, hl, hm, hmm, _, hel⟩
  · simp [Value.cells] at hcs
    obtain ⟨rfl, rfl, rfl⟩ := hcs
    exact ⟨[], Lines.nil, by omega⟩
  · simp [Value.cells] at hcs
    obtain ⟨rfl, rfl, rfl⟩ := hcs
    have hlm : len ≤ m := by rw [hmm]; split <;> omega
    unfold maxLen at hm
    rw [cLine] at hel
    have hex : ∀ i, i < len → ∃ L : Ln, L.ok ∧ ∀ j u, L.cells[j]? = some u → W.cell? (x.add (i * 19 + j)) = some u := fun i hi => by
      obtain ⟨cs', h1, h2⟩ := hel i (by omega)
      obtain ⟨L, rfl, hok⟩ := line_of h2
      obtain ⟨_, _, hat⟩ := World.cells?_some h1
      refine ⟨L, hok, fun j u hu => ?_⟩
      have hj : j < 19 := by
        rcases Nat.lt_or_ge j 19 with h | h
        · exact h
        · rw [List.getElem?_eq_none (show L.cells.length ≤ j from h)] at hu; cases hu
      rw [← Mem.add_add, hat j hj]; exact hu
    obtain ⟨f, hfs⟩ : ∃ f : Nat → Ln, ∀ i, i < len → (f i).ok ∧ ∀ j u, (f i).cells[j]? = some u → W.cell? (x.add (i * 19 + j)) = some u :=
      ⟨fun i => if h : i < len then Classical.choose (hex i h) else ⟨⟨#[]⟩, 0, 0, 0, 0, 0, 0, 0, 0, 0, false, 0, ⟨#[]⟩, false, 0, 0, 0, ⟨#[]⟩, .slice none 0 0⟩, fun i hi => by
        simp only [hi, dif_pos]; exact Classical.choose_spec (hex i hi)⟩
    refine ⟨(List.range len).map f, ⟨by simp, fun L hL => ?_, fun hn => ⟨x, rfl, ?_, fun i L hL j u hu => ?_⟩⟩, by omega⟩
    · obtain ⟨i, hi, rfl⟩ := List.mem_map.1 hL
      exact (hfs i (by simpa using hi)).1
    · have := (hfs 0 hn).2 0 _ rfl
      have := World.block_lt_of_cell? W _ this
      rwa [add_block] at this
    · rw [List.getElem?_map] at hL
      have hi : i < len := by
        rcases Nat.lt_or_ge i len with h | h
        · exact h
        · rw [List.getElem?_eq_none (by simpa using h)] at hL; cases hL
      rw [List.getElem?_range hi] at hL
      cases hL
      exact (hfs i hi).2 j u hu
end
end Open
end Go.Proofs.Ytnngmpimobolpaa
