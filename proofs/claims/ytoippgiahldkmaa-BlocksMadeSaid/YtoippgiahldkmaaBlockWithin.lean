/- What blocks.Check tells, plain, and the contract of blocks.within. -/
import Derived.Test.YtoippgiahldkmaaBlockRef2
namespace Go.Proofs.Ytoippgiahldkmaa
open Go.RowKit Mem
set_option linter.unusedVariables false
/-- May an instruction be in a block: there, or as its last? -/
def withinB (L : Ln) (last : Bool) : Bool :=
  if L.kind == 1 then (if L.op == 42 || L.op == 37 || L.op == 38 then false else if L.op == 35 || L.op == 36 || L.op == 39 || L.op == 45 then last else if L.op == 34 then (last || L.lst / 32768 % 2 == 0) else true) else true
/-- One line of the check: may it be, and how many are still asked. -/
def okStep (left : Int) (L : Ln) (ci : Int) : Bool × Int :=
  if insB L && ci != -1 then (L.lab.toList.isEmpty && (L.c == ci && withinB L (left - 1 == 0)), left - 1)
  else if 0 < left then (L.kind == 0 && L.lab.toList.isEmpty, left)
  else if insB L then (L.c == 14 || (L.kind == 1 && L.op == 35), if itB L then ((condsL L.cond L.imm).length : Int) else left)
  else (true, left)
/-- The first line at which it may not be. -/
def checkGo : List Ln → List Int → Nat → Int → Option Nat
  | L :: ls, ci :: cs, i, left => if (okStep left L ci).1 then checkGo ls cs (i + 1) (okStep left L ci).2 else some i
  | _, _, _, _ => none
def checkOf (ls : List Ln) : Int × Int := match checkGo ls (aSt ls).1 0 0 with
  | some i => (7, (i : Int) + 1)
  | none => if 0 < (aSt ls).2.length then (7, (ls.length : Int) + 1) else (0, 0)
theorem not_of {a b : Int} (h : a ≠ b) : (a == b) = false := by simpa using h
set_option maxRecDepth 100000 in
set_option maxHeartbeats 2000000 in
theorem blocks_within (L : Ln) (last : Bool) (X : Array Value) (hX : X = L.cells.toArray) (w : World) :
    Calls Try.prog 43 #[.agg X, .bool last] w fun e w' => e = .returned (.bool (withinB L last)) ∧ w' = w.alloc (.cells X 56) := by
  have h1 := new_line w X 56 1 (.int .i64 L.kind) (by rw [hX]; rfl)
  have h2 := new_line w X 56 2 (.int .i64 L.op) (by rw [hX]; rfl)
  have h9 := new_line w X 56 9 (.int .i64 L.lst) (by rw [hX]; rfl)
  have e1 : bits .and .i64 (L.lst / 32768) 1 = L.lst / 32768 % 2 := Num.and_low .i64 1 (by decide) _
  obtain ⟨r, hr⟩ : ∃ r, r = withinB L last := ⟨_, rfl⟩
  rw [← hr]
  have HR := Lib.hid hr
  clear hX hr
  cases hk : (L.kind == 1) with
  | false =>
    have hk2 : (L.kind != 1) = true := by simpa using hk
    go_enter Try.func43, Try.ntmps43
    go_wp2
    go_ret
    exact ⟨ret_bool (by rw [HR.out]; unfold withinB; rw [hk]; rfl), rfl⟩
  | true =>
    have hk2 : (L.kind != 1) = false := by simpa using hk
    have HW := Lib.hid (show r = (if L.op == 42 || L.op == 37 || L.op == 38 then false else if L.op == 35 || L.op == 36 || L.op == 39 || L.op == 45 then last else if L.op == 34 then (last || L.lst / 32768 % 2 == 0) else true) by rw [HR.out]; unfold withinB; rw [hk]; rfl)
    cases o1 : (L.op == 42) with
    | true =>
      go_enter Try.func43, Try.ntmps43
      go_wp2
      go_ret
      exact ⟨ret_bool (by rw [HW.out, o1]; rfl), rfl⟩
    | false =>
    cases o2 : (L.op == 37) with
    | true =>
      go_enter Try.func43, Try.ntmps43
      go_wp2
      go_ret
      exact ⟨ret_bool (by rw [HW.out, o1, o2]; rfl), rfl⟩
    | false =>
    cases o3 : (L.op == 38) with
    | true =>
      go_enter Try.func43, Try.ntmps43
      go_wp2
      go_ret
      exact ⟨ret_bool (by rw [HW.out, o1, o2, o3]; rfl), rfl⟩
    | false =>
    cases o4 : (L.op == 35) with
    | true =>
      go_enter Try.func43, Try.ntmps43
      go_wp2
      go_ret
      exact ⟨ret_bool (by rw [HW.out, o1, o2, o3, o4]; rfl), rfl⟩
    | false =>
    cases o5 : (L.op == 36) with
    | true =>
      go_enter Try.func43, Try.ntmps43
      go_wp2
      go_ret
      exact ⟨ret_bool (by rw [HW.out, o1, o2, o3, o4, o5]; rfl), rfl⟩
    | false =>
    cases o6 : (L.op == 39) with
    | true =>
      go_enter Try.func43, Try.ntmps43
      go_wp2
      go_ret
      exact ⟨ret_bool (by rw [HW.out, o1, o2, o3, o4, o5, o6]; rfl), rfl⟩
    | false =>
    cases o7 : (L.op == 45) with
    | true =>
      go_enter Try.func43, Try.ntmps43
      go_wp2
      go_ret
      exact ⟨ret_bool (by rw [HW.out, o1, o2, o3, o4, o5, o6, o7]; rfl), rfl⟩
    | false =>
    cases o8 : (L.op == 34) with
    | true =>
      cases last with
      | true =>
        go_enter Try.func43, Try.ntmps43
        go_wp2
        go_ret
        exact ⟨ret_bool (by rw [HW.out, o1, o2, o3, o4, o5, o6, o7, o8]; rfl), rfl⟩
      | false =>
        go_enter Try.func43, Try.ntmps43
        go_wp2
        go_ret
        exact ⟨ret_bool (by rw [HW.out, o1, o2, o3, o4, o5, o6, o7, o8]; rfl), rfl⟩
    | false =>
      go_enter Try.func43, Try.ntmps43
      go_wp2
      go_ret
      exact ⟨ret_bool (by rw [HW.out, o1, o2, o3, o4, o5, o6, o7, o8]; rfl), rfl⟩
end Go.Proofs.Ytoippgiahldkmaa
