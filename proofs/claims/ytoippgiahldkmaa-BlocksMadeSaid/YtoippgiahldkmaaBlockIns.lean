/- Contracts of blocks.ins and of the references' ins, begins. -/
import Derived.Test.YtoippgiahldkmaaBlockPlain
namespace Go.Proofs.Ytoippgiahldkmaa
open Go.RowKit Mem
set_option linter.unusedVariables false
set_option maxRecDepth 100000 in
theorem blocks_ins (L : Ln) (X : Array Value) (hX : X = L.cells.toArray) (w : World) :
    Calls Try.prog 42 #[.agg X] w fun e w' => e = .returned (.bool (insB L)) ∧ w' = w.alloc (.cells X 56) := by
  have h1 := new_line w X 56 1 (.int .i64 L.kind) (by rw [hX]; rfl)
  have HI := Lib.hid (show insB L = (L.kind == 1 || L.kind == 2) from rfl)
  clear hX
  cases h : (L.kind == 1) with
  | true =>
    go_enter Try.func42, Try.ntmps42
    go_wp2
    go_ret
    exact ⟨ret_bool (by rw [HI.out, h]; rfl), rfl⟩
  | false =>
    go_enter Try.func42, Try.ntmps42
    go_wp2
    go_ret
    exact ⟨ret_bool (by rw [HI.out, h]; rfl), rfl⟩
set_option maxRecDepth 100000 in
theorem ref21_ins (L : Ln) (X : Array Value) (hX : X = L.cells.toArray) (w : World) :
    Calls Try.prog 45 #[.agg X] w fun e w' => e = .returned (.bool (insB L)) ∧ w' = w.alloc (.cells X 56) := by
  have h1 := new_line w X 56 1 (.int .i64 L.kind) (by rw [hX]; rfl)
  have HI := Lib.hid (show insB L = (L.kind == 1 || L.kind == 2) from rfl)
  clear hX
  cases h : (L.kind == 1) with
  | true =>
    go_enter Try.func45, Try.ntmps45
    go_wp2
    go_ret
    exact ⟨ret_bool (by rw [HI.out, h]; rfl), rfl⟩
  | false =>
    go_enter Try.func45, Try.ntmps45
    go_wp2
    go_ret
    exact ⟨ret_bool (by rw [HI.out, h]; rfl), rfl⟩
set_option maxRecDepth 100000 in
theorem ref21_begins (L : Ln) (X : Array Value) (hX : X = L.cells.toArray) (w : World) :
    Calls Try.prog 46 #[.agg X] w fun e w' => e = .returned (.bool (itB L)) ∧ w' = w.alloc (.cells X 56) := by
  have h1 := new_line w X 56 1 (.int .i64 L.kind) (by rw [hX]; rfl)
  have h2 := new_line w X 56 2 (.int .i64 L.op) (by rw [hX]; rfl)
  have HI := Lib.hid (show itB L = (L.kind == 1 && L.op == 42) from rfl)
  clear hX
  cases h : (L.kind == 1) with
  | true =>
    go_enter Try.func46, Try.ntmps46
    go_wp2
    go_ret
    exact ⟨ret_bool (by rw [HI.out, h]; rfl), rfl⟩
  | false =>
    go_enter Try.func46, Try.ntmps46
    go_wp2
    go_ret
    exact ⟨ret_bool (by rw [HI.out, h]; rfl), rfl⟩
end Go.Proofs.Ytoippgiahldkmaa
