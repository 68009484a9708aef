/-
  NARROWER THAN 'FOR EVERY INPUT', by the rows' own cells (each row's printed sentence says how): SymbolsNames: loops · SymbolsValues: loops · SymbolsTargets: loops · SymbolsOnce: loops.
  DERIVED. THE GIVEN ROWS OF THIS SEAT. 9 by the template 'for every input the law returns true; each argument reads behind the call as it read before'; 0 by the template 'total and deterministic' (their statements: YtnngmpimobolpaaTotals.lean).
  GIVEN WITH THE SEED: the statements are not yours to turn. If you find one false, say at which input.
  Laid BY PROGRAM, IN A SANDBOX (cutbox-rows.mjs): the forced cells as the released guide's own fill.sh prints them over the translation c18ea9aacd5f32f5… (all of the seat's roots in one cut). By AI agents, Wed Nov 11 2026. No macro, syntax, notation, axiom, sorry.
-/
import Derived.Test.YtnngmpimobolpaaChecked
import GoSem.Claim
import GoSem.ClaimJoined
import GoSem.ClaimMapViews
import Derived.JoinedTies
import Derived.KernelRfl
namespace Go.Proofs.Ytnngmpimobolpaa
/- THE CELL 'sum', in the pinned program and in every row, IS THE sha256 OF THE DUMP (.gsa) THAT YtnngmpimobolpaaProg.lean LOADS. Nothing in Lean hashes anything: it is a label: what it is worth is what the hold of that sum in a sandbox is worth. -/
noncomputable def Try.pinned : Pinned := { name := "ytnngmpimobolpaa", sum := "c18ea9aacd5f32f5feebcddf2797acb25dbd965741d1b6c9030395a9f53f5217", checked := Try.checked }
namespace Rows
def none {H : Type} : Left H := { results := [], args := [] }

/-- 'cartouchelaw05.RegsNames': WHATEVER THE INPUT: true; the input reads as it did. -/
def regsNamesSpec : ChangeSpec := { name := "regsNames", fn := fun _ => fun
  | [d1, d2] => { results := [.lit (.bool true)], args := [d1, d2] }
  | _ => none }
def regsNamesRow : OpenClaim := { program := "ytnngmpimobolpaa", sum := "c18ea9aacd5f32f5feebcddf2797acb25dbd965741d1b6c9030395a9f53f5217", func := "cartouche/cartouchelaw05.RegsNames", spec := "regsNames", inPlace := ["internal/abi.NoEscape", "internal/bytealg.MakeNoZero"], apart := false }
def RegsNamesSaid : Prop := regsNamesRow.holds Try.pinned (OpenSpec.ofChange regsNamesSpec)

/-- ITS FALSE NEIGHBOUR: 'it returns false'. Refute it at one input. -/
def regsNamesWrong : ChangeSpec := { name := "regsNames", fn := fun _ => fun
  | [d1, d2] => { results := [.lit (.bool false)], args := [d1, d2] }
  | _ => none }
def RegsNamesWrongFalsely : Prop := regsNamesRow.holds Try.pinned (OpenSpec.ofChange regsNamesWrong)

/-- 'cartouchelaw05.RegsLists': WHATEVER THE INPUT: true; the input reads as it did. -/
def regsListsSpec : ChangeSpec := { name := "regsLists", fn := fun _ => fun
  | [d] => { results := [.lit (.bool true)], args := [d] }
  | _ => none }
def regsListsRow : OpenClaim := { program := "ytnngmpimobolpaa", sum := "c18ea9aacd5f32f5feebcddf2797acb25dbd965741d1b6c9030395a9f53f5217", func := "cartouche/cartouchelaw05.RegsLists", spec := "regsLists", inPlace := ["internal/abi.NoEscape", "internal/bytealg.MakeNoZero"], apart := false }
def RegsListsSaid : Prop := regsListsRow.holds Try.pinned (OpenSpec.ofChange regsListsSpec)

/-- ITS FALSE NEIGHBOUR: 'it returns false'. Refute it at one input. -/
def regsListsWrong : ChangeSpec := { name := "regsLists", fn := fun _ => fun
  | [d] => { results := [.lit (.bool false)], args := [d] }
  | _ => none }
def RegsListsWrongFalsely : Prop := regsListsRow.holds Try.pinned (OpenSpec.ofChange regsListsWrong)

/-- 'cartouchelaw05.RegsPrints': WHATEVER THE INPUT: true; the input reads as it did. -/
def regsPrintsSpec : ChangeSpec := { name := "regsPrints", fn := fun _ => fun
  | [d] => { results := [.lit (.bool true)], args := [d] }
  | _ => none }
def regsPrintsRow : OpenClaim := { program := "ytnngmpimobolpaa", sum := "c18ea9aacd5f32f5feebcddf2797acb25dbd965741d1b6c9030395a9f53f5217", func := "cartouche/cartouchelaw05.RegsPrints", spec := "regsPrints", inPlace := ["internal/abi.NoEscape", "internal/bytealg.MakeNoZero"], apart := false }
def RegsPrintsSaid : Prop := regsPrintsRow.holds Try.pinned (OpenSpec.ofChange regsPrintsSpec)

/-- ITS FALSE NEIGHBOUR: 'it returns false'. Refute it at one input. -/
def regsPrintsWrong : ChangeSpec := { name := "regsPrints", fn := fun _ => fun
  | [d] => { results := [.lit (.bool false)], args := [d] }
  | _ => none }
def RegsPrintsWrongFalsely : Prop := regsPrintsRow.holds Try.pinned (OpenSpec.ofChange regsPrintsWrong)

/-- 'cartouchelaw05.RegsBack': WHATEVER THE INPUT: true; the input reads as it did. -/
def regsBackSpec : ChangeSpec := { name := "regsBack", fn := fun _ => fun
  | [d] => { results := [.lit (.bool true)], args := [d] }
  | _ => none }
def regsBackRow : OpenClaim := { program := "ytnngmpimobolpaa", sum := "c18ea9aacd5f32f5feebcddf2797acb25dbd965741d1b6c9030395a9f53f5217", func := "cartouche/cartouchelaw05.RegsBack", spec := "regsBack", inPlace := ["internal/abi.NoEscape", "internal/bytealg.MakeNoZero"], apart := false }
def RegsBackSaid : Prop := regsBackRow.holds Try.pinned (OpenSpec.ofChange regsBackSpec)

/-- ITS FALSE NEIGHBOUR: 'it returns false'. Refute it at one input. -/
def regsBackWrong : ChangeSpec := { name := "regsBack", fn := fun _ => fun
  | [d] => { results := [.lit (.bool false)], args := [d] }
  | _ => none }
def RegsBackWrongFalsely : Prop := regsBackRow.holds Try.pinned (OpenSpec.ofChange regsBackWrong)

/-- 'cartouchelaw05.RegsAll': WHATEVER THE INPUT: true; the input reads as it did. -/
def regsAllSpec : ChangeSpec := { name := "regsAll", fn := fun _ => fun
  | [d] => { results := [.lit (.bool true)], args := [d] }
  | _ => none }
def regsAllRow : OpenClaim := { program := "ytnngmpimobolpaa", sum := "c18ea9aacd5f32f5feebcddf2797acb25dbd965741d1b6c9030395a9f53f5217", func := "cartouche/cartouchelaw05.RegsAll", spec := "regsAll", inPlace := ["internal/abi.NoEscape", "internal/bytealg.MakeNoZero"], apart := false }
def RegsAllSaid : Prop := regsAllRow.holds Try.pinned (OpenSpec.ofChange regsAllSpec)

/-- ITS FALSE NEIGHBOUR: 'it returns false'. Refute it at one input. -/
def regsAllWrong : ChangeSpec := { name := "regsAll", fn := fun _ => fun
  | [d] => { results := [.lit (.bool false)], args := [d] }
  | _ => none }
def RegsAllWrongFalsely : Prop := regsAllRow.holds Try.pinned (OpenSpec.ofChange regsAllWrong)

/-- 'cartouchelaw20.SymbolsNames': WHATEVER THE INPUT: true; the input reads as it did. -/
def symbolsNamesSpec : ChangeSpec := { name := "symbolsNames", fn := fun _ => fun
  | [d] => { results := [.lit (.bool true)], args := [d] }
  | _ => none }
def symbolsNamesRow : OpenClaim := { program := "ytnngmpimobolpaa", sum := "c18ea9aacd5f32f5feebcddf2797acb25dbd965741d1b6c9030395a9f53f5217", func := "cartouche/cartouchelaw20.SymbolsNames", spec := "symbolsNames", inPlace := ["internal/bytealg.IndexByteString"], unfollowed := true, recurses := true, loops := true, apart := false }
def SymbolsNamesSaid : Prop := symbolsNamesRow.holds Try.pinned (OpenSpec.ofChange symbolsNamesSpec)

/-- ITS FALSE NEIGHBOUR: 'it returns false'. Refute it at one input. -/
def symbolsNamesWrong : ChangeSpec := { name := "symbolsNames", fn := fun _ => fun
  | [d] => { results := [.lit (.bool false)], args := [d] }
  | _ => none }
def SymbolsNamesWrongFalsely : Prop := symbolsNamesRow.holds Try.pinned (OpenSpec.ofChange symbolsNamesWrong)

/-- 'cartouchelaw20.SymbolsValues': WHATEVER THE INPUT: true; the input reads as it did. -/
def symbolsValuesSpec : ChangeSpec := { name := "symbolsValues", fn := fun _ => fun
  | [d] => { results := [.lit (.bool true)], args := [d] }
  | _ => none }
def symbolsValuesRow : OpenClaim := { program := "ytnngmpimobolpaa", sum := "c18ea9aacd5f32f5feebcddf2797acb25dbd965741d1b6c9030395a9f53f5217", func := "cartouche/cartouchelaw20.SymbolsValues", spec := "symbolsValues", inPlace := ["internal/bytealg.IndexByteString"], unfollowed := true, recurses := true, loops := true, apart := false }
def SymbolsValuesSaid : Prop := symbolsValuesRow.holds Try.pinned (OpenSpec.ofChange symbolsValuesSpec)

/-- ITS FALSE NEIGHBOUR: 'it returns false'. Refute it at one input. -/
def symbolsValuesWrong : ChangeSpec := { name := "symbolsValues", fn := fun _ => fun
  | [d] => { results := [.lit (.bool false)], args := [d] }
  | _ => none }
def SymbolsValuesWrongFalsely : Prop := symbolsValuesRow.holds Try.pinned (OpenSpec.ofChange symbolsValuesWrong)

/-- 'cartouchelaw20.SymbolsTargets': WHATEVER THE INPUT: true; the input reads as it did. -/
def symbolsTargetsSpec : ChangeSpec := { name := "symbolsTargets", fn := fun _ => fun
  | [d1, d2] => { results := [.lit (.bool true)], args := [d1, d2] }
  | _ => none }
def symbolsTargetsRow : OpenClaim := { program := "ytnngmpimobolpaa", sum := "c18ea9aacd5f32f5feebcddf2797acb25dbd965741d1b6c9030395a9f53f5217", func := "cartouche/cartouchelaw20.SymbolsTargets", spec := "symbolsTargets", inPlace := ["internal/bytealg.IndexByteString"], unfollowed := true, recurses := true, loops := true, apart := false }
def SymbolsTargetsSaid : Prop := symbolsTargetsRow.holds Try.pinned (OpenSpec.ofChange symbolsTargetsSpec)

/-- ITS FALSE NEIGHBOUR: 'it returns false'. Refute it at one input. -/
def symbolsTargetsWrong : ChangeSpec := { name := "symbolsTargets", fn := fun _ => fun
  | [d1, d2] => { results := [.lit (.bool false)], args := [d1, d2] }
  | _ => none }
def SymbolsTargetsWrongFalsely : Prop := symbolsTargetsRow.holds Try.pinned (OpenSpec.ofChange symbolsTargetsWrong)

/-- 'cartouchelaw20.SymbolsOnce': WHATEVER THE INPUT: true; the input reads as it did. -/
def symbolsOnceSpec : ChangeSpec := { name := "symbolsOnce", fn := fun _ => fun
  | [d] => { results := [.lit (.bool true)], args := [d] }
  | _ => none }
def symbolsOnceRow : OpenClaim := { program := "ytnngmpimobolpaa", sum := "c18ea9aacd5f32f5feebcddf2797acb25dbd965741d1b6c9030395a9f53f5217", func := "cartouche/cartouchelaw20.SymbolsOnce", spec := "symbolsOnce", inPlace := ["internal/bytealg.IndexByteString"], unfollowed := true, recurses := true, loops := true, apart := false }
def SymbolsOnceSaid : Prop := symbolsOnceRow.holds Try.pinned (OpenSpec.ofChange symbolsOnceSpec)

/-- ITS FALSE NEIGHBOUR: 'it returns false'. Refute it at one input. -/
def symbolsOnceWrong : ChangeSpec := { name := "symbolsOnce", fn := fun _ => fun
  | [d] => { results := [.lit (.bool false)], args := [d] }
  | _ => none }
def SymbolsOnceWrongFalsely : Prop := symbolsOnceRow.holds Try.pinned (OpenSpec.ofChange symbolsOnceWrong)

/- THE SECOND FORM. 'bulk': how many values and letters a reading holds, each counted each time it is reached (what is shared counts as often as it is met; a slice's spare places count too). A statement '..UptoSaid' is the law's where the arguments, and the package variables that the reading takes, are together of bulk at most 1048576: NARROWER than '..Said'. Prove '..Said' where nothing that the law and all that it calls make is longer than what came in: it says more and counts as full. Else prove '..UptoSaid'. A law counts once. -/
mutual
def uptoBulk {H : Type} : DataW H → Nat
  | .lit (.string bytes) => bytes.length + 1
  | .lit _ => 1
  | .nil => 1
  | .ptr d => uptoBulk d + 1
  | .slice elems spare => uptoBulkAll elems + uptoBulkAll spare + 1
  | .agg parts => uptoBulkAll parts + 1
  | .iface _ d => uptoBulk d + 1
  | .map entries => uptoBulkEntries entries + 1
  | .held _ => 1
def uptoBulkAll {H : Type} : List (DataW H) → Nat
  | [] => 0
  | d :: r => uptoBulk d + uptoBulkAll r
def uptoBulkEntries {H : Type} : List (Lit × DataW H) → Nat
  | [] => 0
  | x :: r => uptoBulkEntry x + uptoBulkEntries r
def uptoBulkEntry {H : Type} : Lit × DataW H → Nat
  | (.string bytes, d) => bytes.length + uptoBulk d + 1
  | (_, d) => uptoBulk d + 1
 end
def uptoSmall : (H : Type) → List (DataW H) → Bool := fun _ ds => decide (uptoBulkAll ds ≤ 1048576)
def OpenSpec.upto (s : _root_.Go.ChangeSpec) : _root_.Go.OpenSpec := { _root_.Go.OpenSpec.ofChange s with cond := some uptoSmall }

/-- 'cartouchelaw05.RegsNames', WHERE WHAT IT READS IS OF BULK AT MOST 1048576: true; the input reads as it did. -/
def regsNamesUptoRow : OpenClaim := { program := "ytnngmpimobolpaa", sum := "c18ea9aacd5f32f5feebcddf2797acb25dbd965741d1b6c9030395a9f53f5217", func := "cartouche/cartouchelaw05.RegsNames", spec := "regsNames", inPlace := ["internal/abi.NoEscape", "internal/bytealg.MakeNoZero"], apart := false, narrowed := true }
def RegsNamesUptoSaid : Prop := regsNamesUptoRow.holds Try.pinned (OpenSpec.upto regsNamesSpec)

/-- 'cartouchelaw05.RegsLists', WHERE WHAT IT READS IS OF BULK AT MOST 1048576: true; the input reads as it did. -/
def regsListsUptoRow : OpenClaim := { program := "ytnngmpimobolpaa", sum := "c18ea9aacd5f32f5feebcddf2797acb25dbd965741d1b6c9030395a9f53f5217", func := "cartouche/cartouchelaw05.RegsLists", spec := "regsLists", inPlace := ["internal/abi.NoEscape", "internal/bytealg.MakeNoZero"], apart := false, narrowed := true }
def RegsListsUptoSaid : Prop := regsListsUptoRow.holds Try.pinned (OpenSpec.upto regsListsSpec)

/-- 'cartouchelaw05.RegsPrints', WHERE WHAT IT READS IS OF BULK AT MOST 1048576: true; the input reads as it did. -/
def regsPrintsUptoRow : OpenClaim := { program := "ytnngmpimobolpaa", sum := "c18ea9aacd5f32f5feebcddf2797acb25dbd965741d1b6c9030395a9f53f5217", func := "cartouche/cartouchelaw05.RegsPrints", spec := "regsPrints", inPlace := ["internal/abi.NoEscape", "internal/bytealg.MakeNoZero"], apart := false, narrowed := true }
def RegsPrintsUptoSaid : Prop := regsPrintsUptoRow.holds Try.pinned (OpenSpec.upto regsPrintsSpec)

/-- 'cartouchelaw05.RegsBack', WHERE WHAT IT READS IS OF BULK AT MOST 1048576: true; the input reads as it did. -/
def regsBackUptoRow : OpenClaim := { program := "ytnngmpimobolpaa", sum := "c18ea9aacd5f32f5feebcddf2797acb25dbd965741d1b6c9030395a9f53f5217", func := "cartouche/cartouchelaw05.RegsBack", spec := "regsBack", inPlace := ["internal/abi.NoEscape", "internal/bytealg.MakeNoZero"], apart := false, narrowed := true }
def RegsBackUptoSaid : Prop := regsBackUptoRow.holds Try.pinned (OpenSpec.upto regsBackSpec)

/-- 'cartouchelaw05.RegsAll', WHERE WHAT IT READS IS OF BULK AT MOST 1048576: true; the input reads as it did. -/
def regsAllUptoRow : OpenClaim := { program := "ytnngmpimobolpaa", sum := "c18ea9aacd5f32f5feebcddf2797acb25dbd965741d1b6c9030395a9f53f5217", func := "cartouche/cartouchelaw05.RegsAll", spec := "regsAll", inPlace := ["internal/abi.NoEscape", "internal/bytealg.MakeNoZero"], apart := false, narrowed := true }
def RegsAllUptoSaid : Prop := regsAllUptoRow.holds Try.pinned (OpenSpec.upto regsAllSpec)

/-- 'cartouchelaw20.SymbolsNames', WHERE WHAT IT READS IS OF BULK AT MOST 1048576: true; the input reads as it did. -/
def symbolsNamesUptoRow : OpenClaim := { program := "ytnngmpimobolpaa", sum := "c18ea9aacd5f32f5feebcddf2797acb25dbd965741d1b6c9030395a9f53f5217", func := "cartouche/cartouchelaw20.SymbolsNames", spec := "symbolsNames", inPlace := ["internal/bytealg.IndexByteString"], unfollowed := true, recurses := true, loops := true, apart := false, narrowed := true }
def SymbolsNamesUptoSaid : Prop := symbolsNamesUptoRow.holds Try.pinned (OpenSpec.upto symbolsNamesSpec)

/-- 'cartouchelaw20.SymbolsValues', WHERE WHAT IT READS IS OF BULK AT MOST 1048576: true; the input reads as it did. -/
def symbolsValuesUptoRow : OpenClaim := { program := "ytnngmpimobolpaa", sum := "c18ea9aacd5f32f5feebcddf2797acb25dbd965741d1b6c9030395a9f53f5217", func := "cartouche/cartouchelaw20.SymbolsValues", spec := "symbolsValues", inPlace := ["internal/bytealg.IndexByteString"], unfollowed := true, recurses := true, loops := true, apart := false, narrowed := true }
def SymbolsValuesUptoSaid : Prop := symbolsValuesUptoRow.holds Try.pinned (OpenSpec.upto symbolsValuesSpec)

/-- 'cartouchelaw20.SymbolsTargets', WHERE WHAT IT READS IS OF BULK AT MOST 1048576: true; the input reads as it did. -/
def symbolsTargetsUptoRow : OpenClaim := { program := "ytnngmpimobolpaa", sum := "c18ea9aacd5f32f5feebcddf2797acb25dbd965741d1b6c9030395a9f53f5217", func := "cartouche/cartouchelaw20.SymbolsTargets", spec := "symbolsTargets", inPlace := ["internal/bytealg.IndexByteString"], unfollowed := true, recurses := true, loops := true, apart := false, narrowed := true }
def SymbolsTargetsUptoSaid : Prop := symbolsTargetsUptoRow.holds Try.pinned (OpenSpec.upto symbolsTargetsSpec)

/-- 'cartouchelaw20.SymbolsOnce', WHERE WHAT IT READS IS OF BULK AT MOST 1048576: true; the input reads as it did. -/
def symbolsOnceUptoRow : OpenClaim := { program := "ytnngmpimobolpaa", sum := "c18ea9aacd5f32f5feebcddf2797acb25dbd965741d1b6c9030395a9f53f5217", func := "cartouche/cartouchelaw20.SymbolsOnce", spec := "symbolsOnce", inPlace := ["internal/bytealg.IndexByteString"], unfollowed := true, recurses := true, loops := true, apart := false, narrowed := true }
def SymbolsOnceUptoSaid : Prop := symbolsOnceUptoRow.holds Try.pinned (OpenSpec.upto symbolsOnceSpec)

end Rows
end Go.Proofs.Ytnngmpimobolpaa
