/-
  NARROWER THAN 'FOR EVERY INPUT', by the rows' own cells (each row's printed sentence says how): BlocksInside: loops · BlocksRight: loops.
  DERIVED. THE GIVEN ROWS OF THIS SEAT. 10 by the template 'for every input the law returns true; each argument reads behind the call as it read before'; 0 by the template 'total and deterministic' (their statements: YtoippgiahldkmaaTotals.lean).
  GIVEN WITH THE SEED: the statements are not yours to turn. If you find one false, say at which input.
  Laid BY PROGRAM, IN A SANDBOX (cutbox-rows.mjs): the forced cells as the released guide's own fill.sh prints them over the translation 0164909c27b59ea5… (all of the seat's roots in one cut). By AI agents, Wed Nov 11 2026. No macro, syntax, notation, axiom, sorry.
-/
import Derived.Test.YtoippgiahldkmaaChecked
import GoSem.Claim
import GoSem.ClaimJoined
import GoSem.ClaimMapViews
import Derived.JoinedTies
import Derived.KernelRfl
namespace Go.Proofs.Ytoippgiahldkmaa
/- THE CELL 'sum', in the pinned program and in every row, IS THE sha256 OF THE DUMP (.gsa) THAT YtoippgiahldkmaaProg.lean LOADS. Nothing in Lean hashes anything: it is a label: what it is worth is what the hold of that sum in a sandbox is worth. -/
noncomputable def Try.pinned : Pinned := { name := "ytoippgiahldkmaa", sum := "0164909c27b59ea5ebd34455780978d720908b25b56ab336905268beb815f63a", checked := Try.checked }
namespace Rows
def none {H : Type} : Left H := { results := [], args := [] }

/-- 'cartouchelaw13.AluAdds': WHATEVER THE INPUT: true; the input reads as it did. -/
def aluAddsSpec : ChangeSpec := { name := "aluAdds", fn := fun _ => fun
  | [d1, d2, d3] => { results := [.lit (.bool true)], args := [d1, d2, d3] }
  | _ => none }
def aluAddsRow : OpenClaim := { program := "ytoippgiahldkmaa", sum := "0164909c27b59ea5ebd34455780978d720908b25b56ab336905268beb815f63a", func := "cartouche/cartouchelaw13.AluAdds", spec := "aluAdds", apart := false }
def AluAddsSaid : Prop := aluAddsRow.holds Try.pinned (OpenSpec.ofChange aluAddsSpec)

/-- ITS FALSE NEIGHBOUR: 'it returns false'. Refute it at one input. -/
def aluAddsWrong : ChangeSpec := { name := "aluAdds", fn := fun _ => fun
  | [d1, d2, d3] => { results := [.lit (.bool false)], args := [d1, d2, d3] }
  | _ => none }
def AluAddsWrongFalsely : Prop := aluAddsRow.holds Try.pinned (OpenSpec.ofChange aluAddsWrong)

/-- 'cartouchelaw13.AluShifts': WHATEVER THE INPUT: true; the input reads as it did. -/
def aluShiftsSpec : ChangeSpec := { name := "aluShifts", fn := fun _ => fun
  | [d1, d2, d3] => { results := [.lit (.bool true)], args := [d1, d2, d3] }
  | _ => none }
def aluShiftsRow : OpenClaim := { program := "ytoippgiahldkmaa", sum := "0164909c27b59ea5ebd34455780978d720908b25b56ab336905268beb815f63a", func := "cartouche/cartouchelaw13.AluShifts", spec := "aluShifts", apart := false }
def AluShiftsSaid : Prop := aluShiftsRow.holds Try.pinned (OpenSpec.ofChange aluShiftsSpec)

/-- ITS FALSE NEIGHBOUR: 'it returns false'. Refute it at one input. -/
def aluShiftsWrong : ChangeSpec := { name := "aluShifts", fn := fun _ => fun
  | [d1, d2, d3] => { results := [.lit (.bool false)], args := [d1, d2, d3] }
  | _ => none }
def AluShiftsWrongFalsely : Prop := aluShiftsRow.holds Try.pinned (OpenSpec.ofChange aluShiftsWrong)

/-- 'cartouchelaw13.AluDoes': WHATEVER THE INPUT: true; the input reads as it did. -/
def aluDoesSpec : ChangeSpec := { name := "aluDoes", fn := fun _ => fun
  | [d1, d2, d3] => { results := [.lit (.bool true)], args := [d1, d2, d3] }
  | _ => none }
def aluDoesRow : OpenClaim := { program := "ytoippgiahldkmaa", sum := "0164909c27b59ea5ebd34455780978d720908b25b56ab336905268beb815f63a", func := "cartouche/cartouchelaw13.AluDoes", spec := "aluDoes", apart := false }
def AluDoesSaid : Prop := aluDoesRow.holds Try.pinned (OpenSpec.ofChange aluDoesSpec)

/-- ITS FALSE NEIGHBOUR: 'it returns false'. Refute it at one input. -/
def aluDoesWrong : ChangeSpec := { name := "aluDoes", fn := fun _ => fun
  | [d1, d2, d3] => { results := [.lit (.bool false)], args := [d1, d2, d3] }
  | _ => none }
def AluDoesWrongFalsely : Prop := aluDoesRow.holds Try.pinned (OpenSpec.ofChange aluDoesWrong)

/-- 'cartouchelaw13.AluDivides': WHATEVER THE INPUT: true; the input reads as it did. -/
def aluDividesSpec : ChangeSpec := { name := "aluDivides", fn := fun _ => fun
  | [d1, d2, d3] => { results := [.lit (.bool true)], args := [d1, d2, d3] }
  | _ => none }
def aluDividesRow : OpenClaim := { program := "ytoippgiahldkmaa", sum := "0164909c27b59ea5ebd34455780978d720908b25b56ab336905268beb815f63a", func := "cartouche/cartouchelaw13.AluDivides", spec := "aluDivides", apart := false }
def AluDividesSaid : Prop := aluDividesRow.holds Try.pinned (OpenSpec.ofChange aluDividesSpec)

/-- ITS FALSE NEIGHBOUR: 'it returns false'. Refute it at one input. -/
def aluDividesWrong : ChangeSpec := { name := "aluDivides", fn := fun _ => fun
  | [d1, d2, d3] => { results := [.lit (.bool false)], args := [d1, d2, d3] }
  | _ => none }
def AluDividesWrongFalsely : Prop := aluDividesRow.holds Try.pinned (OpenSpec.ofChange aluDividesWrong)

/-- 'cartouchelaw13.AluExact': WHATEVER THE INPUT: true; the input reads as it did. -/
def aluExactSpec : ChangeSpec := { name := "aluExact", fn := fun _ => fun
  | [d1, d2, d3] => { results := [.lit (.bool true)], args := [d1, d2, d3] }
  | _ => none }
def aluExactRow : OpenClaim := { program := "ytoippgiahldkmaa", sum := "0164909c27b59ea5ebd34455780978d720908b25b56ab336905268beb815f63a", func := "cartouche/cartouchelaw13.AluExact", spec := "aluExact", apart := false }
def AluExactSaid : Prop := aluExactRow.holds Try.pinned (OpenSpec.ofChange aluExactSpec)

/-- ITS FALSE NEIGHBOUR: 'it returns false'. Refute it at one input. -/
def aluExactWrong : ChangeSpec := { name := "aluExact", fn := fun _ => fun
  | [d1, d2, d3] => { results := [.lit (.bool false)], args := [d1, d2, d3] }
  | _ => none }
def AluExactWrongFalsely : Prop := aluExactRow.holds Try.pinned (OpenSpec.ofChange aluExactWrong)

/-- 'cartouchelaw13.AluCompares': WHATEVER THE INPUT: true; the input reads as it did. -/
def aluComparesSpec : ChangeSpec := { name := "aluCompares", fn := fun _ => fun
  | [d1, d2] => { results := [.lit (.bool true)], args := [d1, d2] }
  | _ => none }
def aluComparesRow : OpenClaim := { program := "ytoippgiahldkmaa", sum := "0164909c27b59ea5ebd34455780978d720908b25b56ab336905268beb815f63a", func := "cartouche/cartouchelaw13.AluCompares", spec := "aluCompares", apart := false }
def AluComparesSaid : Prop := aluComparesRow.holds Try.pinned (OpenSpec.ofChange aluComparesSpec)

/-- ITS FALSE NEIGHBOUR: 'it returns false'. Refute it at one input. -/
def aluComparesWrong : ChangeSpec := { name := "aluCompares", fn := fun _ => fun
  | [d1, d2] => { results := [.lit (.bool false)], args := [d1, d2] }
  | _ => none }
def AluComparesWrongFalsely : Prop := aluComparesRow.holds Try.pinned (OpenSpec.ofChange aluComparesWrong)

/-- 'cartouchelaw13.AluTurns': WHATEVER THE INPUT: true; the input reads as it did. -/
def aluTurnsSpec : ChangeSpec := { name := "aluTurns", fn := fun _ => fun
  | [d1, d2, d3] => { results := [.lit (.bool true)], args := [d1, d2, d3] }
  | _ => none }
def aluTurnsRow : OpenClaim := { program := "ytoippgiahldkmaa", sum := "0164909c27b59ea5ebd34455780978d720908b25b56ab336905268beb815f63a", func := "cartouche/cartouchelaw13.AluTurns", spec := "aluTurns", apart := false }
def AluTurnsSaid : Prop := aluTurnsRow.holds Try.pinned (OpenSpec.ofChange aluTurnsSpec)

/-- ITS FALSE NEIGHBOUR: 'it returns false'. Refute it at one input. -/
def aluTurnsWrong : ChangeSpec := { name := "aluTurns", fn := fun _ => fun
  | [d1, d2, d3] => { results := [.lit (.bool false)], args := [d1, d2, d3] }
  | _ => none }
def AluTurnsWrongFalsely : Prop := aluTurnsRow.holds Try.pinned (OpenSpec.ofChange aluTurnsWrong)

/-- 'cartouchelaw21.BlocksInside': WHATEVER THE INPUT: true; the input reads as it did. -/
def blocksInsideSpec : ChangeSpec := { name := "blocksInside", fn := fun _ => fun
  | [d1, d2] => { results := [.lit (.bool true)], args := [d1, d2] }
  | _ => none }
def blocksInsideRow : OpenClaim := { program := "ytoippgiahldkmaa", sum := "0164909c27b59ea5ebd34455780978d720908b25b56ab336905268beb815f63a", func := "cartouche/cartouchelaw21.BlocksInside", spec := "blocksInside", loops := true, apart := false }
def BlocksInsideSaid : Prop := blocksInsideRow.holds Try.pinned (OpenSpec.ofChange blocksInsideSpec)

/-- ITS FALSE NEIGHBOUR: 'it returns false'. Refute it at one input. -/
def blocksInsideWrong : ChangeSpec := { name := "blocksInside", fn := fun _ => fun
  | [d1, d2] => { results := [.lit (.bool false)], args := [d1, d2] }
  | _ => none }
def BlocksInsideWrongFalsely : Prop := blocksInsideRow.holds Try.pinned (OpenSpec.ofChange blocksInsideWrong)

/-- 'cartouchelaw21.BlocksRight': WHATEVER THE INPUT: true; the input reads as it did. -/
def blocksRightSpec : ChangeSpec := { name := "blocksRight", fn := fun _ => fun
  | [d] => { results := [.lit (.bool true)], args := [d] }
  | _ => none }
def blocksRightRow : OpenClaim := { program := "ytoippgiahldkmaa", sum := "0164909c27b59ea5ebd34455780978d720908b25b56ab336905268beb815f63a", func := "cartouche/cartouchelaw21.BlocksRight", spec := "blocksRight", loops := true, apart := false }
def BlocksRightSaid : Prop := blocksRightRow.holds Try.pinned (OpenSpec.ofChange blocksRightSpec)

/-- ITS FALSE NEIGHBOUR: 'it returns false'. Refute it at one input. -/
def blocksRightWrong : ChangeSpec := { name := "blocksRight", fn := fun _ => fun
  | [d] => { results := [.lit (.bool false)], args := [d] }
  | _ => none }
def BlocksRightWrongFalsely : Prop := blocksRightRow.holds Try.pinned (OpenSpec.ofChange blocksRightWrong)

/-- 'cartouchelaw21.BlocksMade': WHATEVER THE INPUT: true; the input reads as it did. -/
def blocksMadeSpec : ChangeSpec := { name := "blocksMade", fn := fun _ => fun
  | [d1, d2, d3] => { results := [.lit (.bool true)], args := [d1, d2, d3] }
  | _ => none }
def blocksMadeRow : OpenClaim := { program := "ytoippgiahldkmaa", sum := "0164909c27b59ea5ebd34455780978d720908b25b56ab336905268beb815f63a", func := "cartouche/cartouchelaw21.BlocksMade", spec := "blocksMade", apart := false }
def BlocksMadeSaid : Prop := blocksMadeRow.holds Try.pinned (OpenSpec.ofChange blocksMadeSpec)

/-- ITS FALSE NEIGHBOUR: 'it returns false'. Refute it at one input. -/
def blocksMadeWrong : ChangeSpec := { name := "blocksMade", fn := fun _ => fun
  | [d1, d2, d3] => { results := [.lit (.bool false)], args := [d1, d2, d3] }
  | _ => none }
def BlocksMadeWrongFalsely : Prop := blocksMadeRow.holds Try.pinned (OpenSpec.ofChange blocksMadeWrong)

/- THE SECOND FORM. 'bulk': how many values and letters a reading holds, each counted each time it is reached (what is shared counts as often as it is met; a slice's spare places count too). A statement '..UptoSaid' is the law's where the arguments, and the package variables that the reading takes, are together of bulk at most 1048576: NARROWER than '..Said'. Prove '..Said' where nothing that the law and all that it calls make is longer than what came in: it says more and counts as full. Else prove '..UptoSaid'. A law counts once. -/
mutual
def uptoBulk {H : Type} : DataW H → Nat
  | .lit (.string bytes) => bytes.length + 1
  | .lit _ => 1
  | .nil => 1
  | .ptr d => uptoBulk d + 1
  | .slice elems spare => uptoBulkAll elems + uptoBulkAll spare + 1
  | .agg parts => uptoBulkAll parts + 1
  | .iface _ d => uptoBulk d + 1
  | .map entries => uptoBulkEntries entries + 1
  | .held _ => 1
def uptoBulkAll {H : Type} : List (DataW H) → Nat
  | [] => 0
  | d :: r => uptoBulk d + uptoBulkAll r
def uptoBulkEntries {H : Type} : List (Lit × DataW H) → Nat
  | [] => 0
  | x :: r => uptoBulkEntry x + uptoBulkEntries r
def uptoBulkEntry {H : Type} : Lit × DataW H → Nat
  | (.string bytes, d) => bytes.length + uptoBulk d + 1
  | (_, d) => uptoBulk d + 1
 end
def uptoSmall : (H : Type) → List (DataW H) → Bool := fun _ ds => decide (uptoBulkAll ds ≤ 1048576)
def OpenSpec.upto (s : _root_.Go.ChangeSpec) : _root_.Go.OpenSpec := { _root_.Go.OpenSpec.ofChange s with cond := some uptoSmall }

/-- 'cartouchelaw13.AluAdds', WHERE WHAT IT READS IS OF BULK AT MOST 1048576: true; the input reads as it did. -/
def aluAddsUptoRow : OpenClaim := { program := "ytoippgiahldkmaa", sum := "0164909c27b59ea5ebd34455780978d720908b25b56ab336905268beb815f63a", func := "cartouche/cartouchelaw13.AluAdds", spec := "aluAdds", apart := false, narrowed := true }
def AluAddsUptoSaid : Prop := aluAddsUptoRow.holds Try.pinned (OpenSpec.upto aluAddsSpec)

/-- 'cartouchelaw13.AluShifts', WHERE WHAT IT READS IS OF BULK AT MOST 1048576: true; the input reads as it did. -/
def aluShiftsUptoRow : OpenClaim := { program := "ytoippgiahldkmaa", sum := "0164909c27b59ea5ebd34455780978d720908b25b56ab336905268beb815f63a", func := "cartouche/cartouchelaw13.AluShifts", spec := "aluShifts", apart := false, narrowed := true }
def AluShiftsUptoSaid : Prop := aluShiftsUptoRow.holds Try.pinned (OpenSpec.upto aluShiftsSpec)

/-- 'cartouchelaw13.AluDoes', WHERE WHAT IT READS IS OF BULK AT MOST 1048576: true; the input reads as it did. -/
def aluDoesUptoRow : OpenClaim := { program := "ytoippgiahldkmaa", sum := "0164909c27b59ea5ebd34455780978d720908b25b56ab336905268beb815f63a", func := "cartouche/cartouchelaw13.AluDoes", spec := "aluDoes", apart := false, narrowed := true }
def AluDoesUptoSaid : Prop := aluDoesUptoRow.holds Try.pinned (OpenSpec.upto aluDoesSpec)

/-- 'cartouchelaw13.AluDivides', WHERE WHAT IT READS IS OF BULK AT MOST 1048576: true; the input reads as it did. -/
def aluDividesUptoRow : OpenClaim := { program := "ytoippgiahldkmaa", sum := "0164909c27b59ea5ebd34455780978d720908b25b56ab336905268beb815f63a", func := "cartouche/cartouchelaw13.AluDivides", spec := "aluDivides", apart := false, narrowed := true }
def AluDividesUptoSaid : Prop := aluDividesUptoRow.holds Try.pinned (OpenSpec.upto aluDividesSpec)

/-- 'cartouchelaw13.AluExact', WHERE WHAT IT READS IS OF BULK AT MOST 1048576: true; the input reads as it did. -/
def aluExactUptoRow : OpenClaim := { program := "ytoippgiahldkmaa", sum := "0164909c27b59ea5ebd34455780978d720908b25b56ab336905268beb815f63a", func := "cartouche/cartouchelaw13.AluExact", spec := "aluExact", apart := false, narrowed := true }
def AluExactUptoSaid : Prop := aluExactUptoRow.holds Try.pinned (OpenSpec.upto aluExactSpec)

/-- 'cartouchelaw13.AluCompares', WHERE WHAT IT READS IS OF BULK AT MOST 1048576: true; the input reads as it did. -/
def aluComparesUptoRow : OpenClaim := { program := "ytoippgiahldkmaa", sum := "0164909c27b59ea5ebd34455780978d720908b25b56ab336905268beb815f63a", func := "cartouche/cartouchelaw13.AluCompares", spec := "aluCompares", apart := false, narrowed := true }
def AluComparesUptoSaid : Prop := aluComparesUptoRow.holds Try.pinned (OpenSpec.upto aluComparesSpec)

/-- 'cartouchelaw13.AluTurns', WHERE WHAT IT READS IS OF BULK AT MOST 1048576: true; the input reads as it did. -/
def aluTurnsUptoRow : OpenClaim := { program := "ytoippgiahldkmaa", sum := "0164909c27b59ea5ebd34455780978d720908b25b56ab336905268beb815f63a", func := "cartouche/cartouchelaw13.AluTurns", spec := "aluTurns", apart := false, narrowed := true }
def AluTurnsUptoSaid : Prop := aluTurnsUptoRow.holds Try.pinned (OpenSpec.upto aluTurnsSpec)

/-- 'cartouchelaw21.BlocksInside', WHERE WHAT IT READS IS OF BULK AT MOST 1048576: true; the input reads as it did. -/
def blocksInsideUptoRow : OpenClaim := { program := "ytoippgiahldkmaa", sum := "0164909c27b59ea5ebd34455780978d720908b25b56ab336905268beb815f63a", func := "cartouche/cartouchelaw21.BlocksInside", spec := "blocksInside", loops := true, apart := false, narrowed := true }
def BlocksInsideUptoSaid : Prop := blocksInsideUptoRow.holds Try.pinned (OpenSpec.upto blocksInsideSpec)

/-- 'cartouchelaw21.BlocksRight', WHERE WHAT IT READS IS OF BULK AT MOST 1048576: true; the input reads as it did. -/
def blocksRightUptoRow : OpenClaim := { program := "ytoippgiahldkmaa", sum := "0164909c27b59ea5ebd34455780978d720908b25b56ab336905268beb815f63a", func := "cartouche/cartouchelaw21.BlocksRight", spec := "blocksRight", loops := true, apart := false, narrowed := true }
def BlocksRightUptoSaid : Prop := blocksRightUptoRow.holds Try.pinned (OpenSpec.upto blocksRightSpec)

/-- 'cartouchelaw21.BlocksMade', WHERE WHAT IT READS IS OF BULK AT MOST 1048576: true; the input reads as it did. -/
def blocksMadeUptoRow : OpenClaim := { program := "ytoippgiahldkmaa", sum := "0164909c27b59ea5ebd34455780978d720908b25b56ab336905268beb815f63a", func := "cartouche/cartouchelaw21.BlocksMade", spec := "blocksMade", apart := false, narrowed := true }
def BlocksMadeUptoSaid : Prop := blocksMadeUptoRow.holds Try.pinned (OpenSpec.upto blocksMadeSpec)

end Rows
end Go.Proofs.Ytoippgiahldkmaa
