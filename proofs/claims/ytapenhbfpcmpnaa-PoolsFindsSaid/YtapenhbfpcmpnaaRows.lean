/-
  NARROWER THAN 'FOR EVERY INPUT', by the rows' own cells (each row's printed sentence says how): PoolsPlans: loops · PoolsFinds: loops · PoolsOnce: loops · PoolsUsed: loops.
  DERIVED. THE GIVEN ROWS OF THIS SEAT. 4 by the template 'for every input the law returns true; each argument reads behind the call as it read before'; 0 by the template 'total and deterministic' (their statements: YtapenhbfpcmpnaaTotals.lean).
  GIVEN WITH THE SEED: the statements are not yours to turn. If you find one false, say at which input.
  Laid BY PROGRAM, IN A SANDBOX (cutbox-rows.mjs): the forced cells as the released guide's own fill.sh prints them over the translation d279c29d6d3f649c… (all of the seat's roots in one cut). By AI agents, Wed Nov 11 2026. No macro, syntax, notation, axiom, sorry.
-/
import Derived.Test.YtapenhbfpcmpnaaChecked
import GoSem.Claim
import GoSem.ClaimJoined
import GoSem.ClaimMapViews
import Derived.JoinedTies
import Derived.KernelRfl
namespace Go.Proofs.Ytapenhbfpcmpnaa
/- THE CELL 'sum', in the pinned program and in every row, IS THE sha256 OF THE DUMP (.gsa) THAT YtapenhbfpcmpnaaProg.lean LOADS. Nothing in Lean hashes anything: it is a label: what it is worth is what the hold of that sum in a sandbox is worth. -/
noncomputable def Try.pinned : Pinned := { name := "ytapenhbfpcmpnaa", sum := "d279c29d6d3f649c9ff611a914148c72ae8a0b684f8e1e91ebc21e669c8ff819", checked := Try.checked }
namespace Rows
def none {H : Type} : Left H := { results := [], args := [] }

/-- 'cartouchelaw22.PoolsPlans': WHATEVER THE INPUT: true; the input reads as it did. -/
def poolsPlansSpec : ChangeSpec := { name := "poolsPlans", fn := fun _ => fun
  | [d1, d2] => { results := [.lit (.bool true)], args := [d1, d2] }
  | _ => none }
def poolsPlansRow : OpenClaim := { program := "ytapenhbfpcmpnaa", sum := "d279c29d6d3f649c9ff611a914148c72ae8a0b684f8e1e91ebc21e669c8ff819", func := "cartouche/cartouchelaw22.PoolsPlans", spec := "poolsPlans", unfollowed := true, recurses := true, loops := true, apart := false }
def PoolsPlansSaid : Prop := poolsPlansRow.holds Try.pinned (OpenSpec.ofChange poolsPlansSpec)

/-- ITS FALSE NEIGHBOUR: 'it returns false'. Refute it at one input. -/
def poolsPlansWrong : ChangeSpec := { name := "poolsPlans", fn := fun _ => fun
  | [d1, d2] => { results := [.lit (.bool false)], args := [d1, d2] }
  | _ => none }
def PoolsPlansWrongFalsely : Prop := poolsPlansRow.holds Try.pinned (OpenSpec.ofChange poolsPlansWrong)

/-- 'cartouchelaw22.PoolsFinds': WHATEVER THE INPUT: true; the input reads as it did. -/
def poolsFindsSpec : ChangeSpec := { name := "poolsFinds", fn := fun _ => fun
  | [d1, d2, d3] => { results := [.lit (.bool true)], args := [d1, d2, d3] }
  | _ => none }
def poolsFindsRow : OpenClaim := { program := "ytapenhbfpcmpnaa", sum := "d279c29d6d3f649c9ff611a914148c72ae8a0b684f8e1e91ebc21e669c8ff819", func := "cartouche/cartouchelaw22.PoolsFinds", spec := "poolsFinds", unfollowed := true, recurses := true, loops := true, apart := false }
def PoolsFindsSaid : Prop := poolsFindsRow.holds Try.pinned (OpenSpec.ofChange poolsFindsSpec)

/-- ITS FALSE NEIGHBOUR: 'it returns false'. Refute it at one input. -/
def poolsFindsWrong : ChangeSpec := { name := "poolsFinds", fn := fun _ => fun
  | [d1, d2, d3] => { results := [.lit (.bool false)], args := [d1, d2, d3] }
  | _ => none }
def PoolsFindsWrongFalsely : Prop := poolsFindsRow.holds Try.pinned (OpenSpec.ofChange poolsFindsWrong)

/-- 'cartouchelaw22.PoolsOnce': WHATEVER THE INPUT: true; the input reads as it did. -/
def poolsOnceSpec : ChangeSpec := { name := "poolsOnce", fn := fun _ => fun
  | [d1, d2] => { results := [.lit (.bool true)], args := [d1, d2] }
  | _ => none }
def poolsOnceRow : OpenClaim := { program := "ytapenhbfpcmpnaa", sum := "d279c29d6d3f649c9ff611a914148c72ae8a0b684f8e1e91ebc21e669c8ff819", func := "cartouche/cartouchelaw22.PoolsOnce", spec := "poolsOnce", unfollowed := true, recurses := true, loops := true, apart := false }
def PoolsOnceSaid : Prop := poolsOnceRow.holds Try.pinned (OpenSpec.ofChange poolsOnceSpec)

/-- ITS FALSE NEIGHBOUR: 'it returns false'. Refute it at one input. -/
def poolsOnceWrong : ChangeSpec := { name := "poolsOnce", fn := fun _ => fun
  | [d1, d2] => { results := [.lit (.bool false)], args := [d1, d2] }
  | _ => none }
def PoolsOnceWrongFalsely : Prop := poolsOnceRow.holds Try.pinned (OpenSpec.ofChange poolsOnceWrong)

/-- 'cartouchelaw22.PoolsUsed': WHATEVER THE INPUT: true; the input reads as it did. -/
def poolsUsedSpec : ChangeSpec := { name := "poolsUsed", fn := fun _ => fun
  | [d1, d2] => { results := [.lit (.bool true)], args := [d1, d2] }
  | _ => none }
def poolsUsedRow : OpenClaim := { program := "ytapenhbfpcmpnaa", sum := "d279c29d6d3f649c9ff611a914148c72ae8a0b684f8e1e91ebc21e669c8ff819", func := "cartouche/cartouchelaw22.PoolsUsed", spec := "poolsUsed", unfollowed := true, recurses := true, loops := true, apart := false }
def PoolsUsedSaid : Prop := poolsUsedRow.holds Try.pinned (OpenSpec.ofChange poolsUsedSpec)

/-- ITS FALSE NEIGHBOUR: 'it returns false'. Refute it at one input. -/
def poolsUsedWrong : ChangeSpec := { name := "poolsUsed", fn := fun _ => fun
  | [d1, d2] => { results := [.lit (.bool false)], args := [d1, d2] }
  | _ => none }
def PoolsUsedWrongFalsely : Prop := poolsUsedRow.holds Try.pinned (OpenSpec.ofChange poolsUsedWrong)

/- THE SECOND FORM. 'bulk': how many values and letters a reading holds, each counted each time it is reached (what is shared counts as often as it is met; a slice's spare places count too). A statement '..UptoSaid' is the law's where the arguments, and the package variables that the reading takes, are together of bulk at most 1048576: NARROWER than '..Said'. Prove '..Said' where nothing that the law and all that it calls make is longer than what came in: it says more and counts as full. Else prove '..UptoSaid'. A law counts once. -/
mutual
def uptoBulk {H : Type} : DataW H → Nat
  | .lit (.string bytes) => bytes.length + 1
  | .lit _ => 1
  | .nil => 1
  | .ptr d => uptoBulk d + 1
  | .slice elems spare => uptoBulkAll elems + uptoBulkAll spare + 1
  | .agg parts => uptoBulkAll parts + 1
  | .iface _ d => uptoBulk d + 1
  | .map entries => uptoBulkEntries entries + 1
  | .held _ => 1
def uptoBulkAll {H : Type} : List (DataW H) → Nat
  | [] => 0
  | d :: r => uptoBulk d + uptoBulkAll r
def uptoBulkEntries {H : Type} : List (Lit × DataW H) → Nat
  | [] => 0
  | x :: r => uptoBulkEntry x + uptoBulkEntries r
def uptoBulkEntry {H : Type} : Lit × DataW H → Nat
  | (.string bytes, d) => bytes.length + uptoBulk d + 1
  | (_, d) => uptoBulk d + 1
 end
def uptoSmall : (H : Type) → List (DataW H) → Bool := fun _ ds => decide (uptoBulkAll ds ≤ 1048576)
def OpenSpec.upto (s : _root_.Go.ChangeSpec) : _root_.Go.OpenSpec := { _root_.Go.OpenSpec.ofChange s with cond := some uptoSmall }

/-- 'cartouchelaw22.PoolsPlans', WHERE WHAT IT READS IS OF BULK AT MOST 1048576: true; the input reads as it did. -/
def poolsPlansUptoRow : OpenClaim := { program := "ytapenhbfpcmpnaa", sum := "d279c29d6d3f649c9ff611a914148c72ae8a0b684f8e1e91ebc21e669c8ff819", func := "cartouche/cartouchelaw22.PoolsPlans", spec := "poolsPlans", unfollowed := true, recurses := true, loops := true, apart := false, narrowed := true }
def PoolsPlansUptoSaid : Prop := poolsPlansUptoRow.holds Try.pinned (OpenSpec.upto poolsPlansSpec)

/-- 'cartouchelaw22.PoolsFinds', WHERE WHAT IT READS IS OF BULK AT MOST 1048576: true; the input reads as it did. -/
def poolsFindsUptoRow : OpenClaim := { program := "ytapenhbfpcmpnaa", sum := "d279c29d6d3f649c9ff611a914148c72ae8a0b684f8e1e91ebc21e669c8ff819", func := "cartouche/cartouchelaw22.PoolsFinds", spec := "poolsFinds", unfollowed := true, recurses := true, loops := true, apart := false, narrowed := true }
def PoolsFindsUptoSaid : Prop := poolsFindsUptoRow.holds Try.pinned (OpenSpec.upto poolsFindsSpec)

/-- 'cartouchelaw22.PoolsOnce', WHERE WHAT IT READS IS OF BULK AT MOST 1048576: true; the input reads as it did. -/
def poolsOnceUptoRow : OpenClaim := { program := "ytapenhbfpcmpnaa", sum := "d279c29d6d3f649c9ff611a914148c72ae8a0b684f8e1e91ebc21e669c8ff819", func := "cartouche/cartouchelaw22.PoolsOnce", spec := "poolsOnce", unfollowed := true, recurses := true, loops := true, apart := false, narrowed := true }
def PoolsOnceUptoSaid : Prop := poolsOnceUptoRow.holds Try.pinned (OpenSpec.upto poolsOnceSpec)

/-- 'cartouchelaw22.PoolsUsed', WHERE WHAT IT READS IS OF BULK AT MOST 1048576: true; the input reads as it did. -/
def poolsUsedUptoRow : OpenClaim := { program := "ytapenhbfpcmpnaa", sum := "d279c29d6d3f649c9ff611a914148c72ae8a0b684f8e1e91ebc21e669c8ff819", func := "cartouche/cartouchelaw22.PoolsUsed", spec := "poolsUsed", unfollowed := true, recurses := true, loops := true, apart := false, narrowed := true }
def PoolsUsedUptoSaid : Prop := poolsUsedUptoRow.holds Try.pinned (OpenSpec.upto poolsUsedSpec)

end Rows
end Go.Proofs.Ytapenhbfpcmpnaa
