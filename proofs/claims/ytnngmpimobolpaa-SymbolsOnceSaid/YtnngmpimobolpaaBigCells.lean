/- Structs of many cells, read and laid whole: laws for the walk that take no cell apart. -/
import Derived.Test.YtnngmpimobolpaaLines
import Derived.WalkKit
import Derived.Laws.NewBlocks
namespace Go.Proofs.Ytnngmpimobolpaa
namespace Mem
open Go.RowKit
set_option linter.unusedVariables false
section
variable {P : Program}
theorem wpList_load_any {ops : Array Oper} {rest : List Oper} {op : Oper} {a : Act} {w : World} {Q : Exit → Act → World → Prop} (hgd : op.guard = none) (ty : TypeId) (x : Operand) (ho : op.op = .load ty x)
    (p : Addr) (hx : a.eval x = .pointer (some p)) (X : Array Value) (hr : (Instr.loadAt ty (.pointer (some p))).run P w = .ok (.agg X) w)
    (h : wpList P ops Q rest (a.put op.dst (.agg X)) w) : wpList P ops Q (op :: rest) a w :=
  wpList_plain hgd fun _ hK => by
    unfold Oper.wp execOp
    simp only [ho, hx, Sem.run_bind, hr, Result.andThen_ok]
    exact hK _ _ h
theorem wpList_store_any {ops : Array Oper} {rest : List Oper} {op : Oper} {a : Act} {w w' : World} {Q : Exit → Act → World → Prop} (hgd : op.guard = none) (ty : TypeId) (x y : Operand) (ho : op.op = .store ty x y)
    (p : Addr) (hx : a.eval x = .pointer (some p)) (X : Array Value) (hy : a.eval y = .agg X) (hr : (Instr.storeAt ty (.pointer (some p)) (.agg X)).run P w = .ok () w')
    (h : wpList P ops Q rest (a.put op.dst undef) w') : wpList P ops Q (op :: rest) a w :=
  wpList_plain hgd fun _ hK => by
    unfold Oper.wp execOp
    simp only [ho, hx, hy, Sem.run_bind, hr, Result.andThen_ok]
    exact hK _ _ h
end
theorem setCell_new (w : World) (Z : Array Value) (t : TypeId) (o : Nat) (v : Value) : (w.alloc (.cells Z t)).setCell ⟨w.heap.size, o, none⟩ v = w.alloc (.cells (Z.setIfInBounds o v) t) := by
  unfold World.setCell World.alloc
  simp only [Option.isSome_none, Bool.false_eq_true, if_false]
  congr 1
  apply Array.ext
  · simp
  · intro i h1 h2
    rw [Array.getElem_modify]
    simp only [Array.getElem_push]
    by_cases hi : w.heap.size = i
    · subst hi; simp
    · rw [if_neg hi]
      have : i < w.heap.size := by simp at h1; omega
      simp [this]
theorem setCells_new (w : World) (t : TypeId) : ∀ (vs R S : List Value), S.length = vs.length → (w.alloc (.cells (R ++ S).toArray t)).setCells w.heap.size R.length vs = w.alloc (.cells (R ++ vs).toArray t)
  | [], R, S, h => by
    obtain rfl : S = [] := List.eq_nil_of_length_eq_zero h
    rfl
  | v :: vs, R, s :: S, h => by
    show ((w.alloc (.cells (R ++ s :: S).toArray t)).setCell ⟨w.heap.size, R.length, none⟩ v).setCells w.heap.size (R.length + 1) vs = _
    rw [setCell_new]
    have e : (R ++ s :: S).toArray.setIfInBounds R.length v = ((R ++ [v]) ++ S).toArray := by
      simp
    rw [e]
    have := setCells_new w t vs (R ++ [v]) S (by simpa using h)
    rw [show (R ++ [v]).length = R.length + 1 by simp] at this
    rw [this]
    simp
  | v :: vs, R, [], h => by cases h
/-- A struct stored whole into a block that was just laid. -/
theorem run_store_new {P : Program} (w : World) (ty t : TypeId) (Z X : Array Value) (hZ : Z.size = X.size) (hi : (P.info? ty).map (·.size) = some X.size) (h1 : X.all (·.oneCell') = true) :
    (Instr.storeAt ty (.pointer (some ⟨w.heap.size, 0, none⟩)) (.agg X)).run P (w.alloc (.cells Z t)) = .ok () (w.alloc (.cells X t)) := by
  rw [run_storeAt_mid _ _ _ _ X ?_ hi h1]
  · have := setCells_new w t X.toList [] Z.toList (by simpa using hZ)
    simp only [List.nil_append, List.length_nil, Array.toArray_toList] at this
    rw [this]
  · intro j hj
    constructor
    · rw [Nat.zero_add, Mem.new_cell, Array.getElem?_eq_getElem (by omega)]; rfl
    · simp [go_sem]
/-- A struct read whole out of a block that was just laid. -/
theorem run_load_new {P : Program} (w : World) (b : Nat) (ty t : TypeId) (X : Array Value) (d : TypeDesc) (hb : b = w.heap.size) (hu : P.underlying ty = some d) (hd : d.isRow = true) (hi : (P.info? ty).map (·.size) = some X.size) :
    (Instr.loadAt ty (.pointer (some ⟨b, 0, none⟩))).run P (w.alloc (.cells X t)) = .ok (.agg X) (w.alloc (.cells X t)) := by
  subst hb
  have := run_loadAt_any (P := P) (w.alloc (.cells X t)) ⟨w.heap.size, 0, none⟩ ty X.toList d (fun j v hv => by
    rw [Addr.add_mid, Nat.zero_add, Mem.new_cell]; simpa using hv) hu hd (by rw [hi]; simp)
  simpa using this
theorem Ln.arr_one (L : Ln) (h : L.ok) : L.cells.toArray.all (·.oneCell') = true := by
  obtain ⟨a, n, k, e⟩ := h.ea
  simp [Ln.cells, Value.oneCell', e]
/-- A cell of a line that was just laid. -/
theorem new_line (w : World) (X : Array Value) (t : TypeId) (j : Nat) (v : Value) (h : X[j]? = some v) : (w.alloc (.cells X t)).cell? ⟨w.heap.size, j, none⟩ = some v := by
  rw [Mem.new_cell]; exact h
end Mem
end Go.Proofs.Ytnngmpimobolpaa
