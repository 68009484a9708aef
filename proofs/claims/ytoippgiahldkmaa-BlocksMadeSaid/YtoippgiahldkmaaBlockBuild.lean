/- A slice literal of lines. -/
import Derived.Test.YtoippgiahldkmaaBlockLaw
import Derived.Great.BuildSlice
namespace Go.Proofs.Ytoippgiahldkmaa
open Go.RowKit Mem
set_option linter.unusedVariables false
def aggs (ls : List Ln) : List Value := ls.map fun L => .agg L.cells.toArray
theorem run_buildLines (ls : List Ln) (hok : ∀ L ∈ ls, L.ok) (hn : 0 < ls.length) (hn' : ls.length ≤ 100) (w : World) :
    ∃ r, (Instr.buildSlice 40 ls.length (((aggs ls).zipIdx 0).map fun x => (x.2, x.1)).toArray).run Try.prog w = .ok (.slice (some ⟨w.heap.size, 0, none⟩) ls.length ls.length) (w.alloc (.cells r 56)) ∧
      Lines (w.alloc (.cells r 56)) (w.heap.size + 1) (some ⟨w.heap.size, 0, none⟩) ls.length ls := by
  have hsz : (Try.prog.info? 56).map (·.size) = some 19 := by kernel_rfl
  have hz : ((Try.prog.info? 56).bind (·.zero)).isSome = true := by kernel_rfl
  cases hie : Try.prog.info? 56 with
  | none => simp [hie] at hsz
  | some ie =>
    simp only [hie, Option.map_some, Option.some.injEq, Option.bind_some] at hsz hz
    obtain ⟨z, hzz⟩ := Option.isSome_iff_exists.1 hz
    obtain ⟨r, hr, hs, hk⟩ := Great.fill_dense (s := 19) (by omega) (aggs ls) 0 ((Array.range (ls.length * 19)).map (z.cells[· % z.cells.size]!)) (fun v hv => by
      obtain ⟨L, _, rfl⟩ := List.mem_map.1 hv; rfl) (by simp [aggs])
    refine ⟨r, run_buildSlice w 40 56 _ _ r ie z Try.underlying40 hie hzz (by rw [hsz]; omega) (by rw [hsz]; omega) (by rw [hsz]; exact hr), ?_⟩
    refine ⟨rfl, hok, fun _ => ⟨_, rfl, by show w.heap.size < _; omega, fun i L hL j u hu => ?_⟩⟩
    rw [Addr.add_mid, Nat.zero_add, Mem.new_cell, hk]
    have hj : j < 19 := (List.getElem?_eq_some_iff.1 hu).1
    have hi : i < ls.length := (List.getElem?_eq_some_iff.1 hL).1
    rw [if_pos ⟨by omega, by simp only [aggs, List.length_map]; omega⟩, show (i * 19 + j) / 19 - 0 = i by omega, show (i * 19 + j) % 19 = j by omega]
    simp only [aggs, List.getElem?_map, hL, Option.map_some, Option.bind_some]
    show (L.cells.toArray)[j]? = _
    rw [List.getElem?_toArray]; exact hu
theorem wp_build_any {P : Program} {o : Oper} {a : Act} {w w' : World} {K : Act → World → Prop} {Q : Exit → Act → World → Prop} (t : TypeId) (len : Nat) (parts : Array (Nat × Operand)) (ho : o.op = .buildSlice t len parts)
    (vs : Array (Nat × Value)) (hv : (parts.map fun (i, x) => (i, a.eval x)) = vs) (v : Value) (hr : (Instr.buildSlice t len vs).run P w = .ok v w') (h : K (a.put o.dst v) w') : o.wp P a w K Q := by
  unfold Oper.wp execOp
  simp only [ho, Sem.run_bind, hv, hr, Result.andThen_ok]
  exact h
theorem wpList_build_any {P : Program} {ops : Array Oper} {rest : List Oper} {o : Oper} {a : Act} {w w' : World} {Q : Exit → Act → World → Prop} (hg : o.guard = none) (t : TypeId) (len : Nat) (parts : Array (Nat × Operand)) (ho : o.op = .buildSlice t len parts)
    (vs : Array (Nat × Value)) (hv : (parts.map fun (i, x) => (i, a.eval x)) = vs) (v : Value) (hr : (Instr.buildSlice t len vs).run P w = .ok v w') (h : wpList P ops Q rest (a.put o.dst v) w') : wpList P ops Q (o :: rest) a w :=
  wpList_plain hg fun _ hK => wp_build_any t len parts ho vs hv v hr (hK _ _ h)
theorem wpList_build_g {P : Program} {ops : Array Oper} {rest : List Oper} {o : Oper} {a : Act} {w w' : World} {Q : Exit → Act → World → Prop} (hw : Region.wanted o (yielded ops a.tmps) = true) (t : TypeId) (len : Nat) (parts : Array (Nat × Operand)) (ho : o.op = .buildSlice t len parts)
    (vs : Array (Nat × Value)) (hv : (parts.map fun (i, x) => (i, a.eval x)) = vs) (v : Value) (hr : (Instr.buildSlice t len vs).run P w = .ok v w') (h : wpList P ops Q rest (a.put o.dst v) w') : wpList P ops Q (o :: rest) a w :=
  wpList_step fun _ hK => by rw [if_pos hw]; exact wp_build_any t len parts ho vs hv v hr (hK _ _ h)
end Go.Proofs.Ytoippgiahldkmaa
