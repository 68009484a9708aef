/-
  No cell of these rows narrows 'for every input' (looked for: loops, veiled, ifaces, maps, wideKeys, modest, calm, conditions, laid).
  DERIVED. THE GIVEN ROWS OF THIS SEAT. 11 by the template 'for every input the law returns true; each argument reads behind the call as it read before'; 0 by the template 'total and deterministic' (their statements: YtolkpoohpimkhaaTotals.lean).
  GIVEN WITH THE SEED: the statements are not yours to turn. If you find one false, say at which input.
  Laid BY PROGRAM, IN A SANDBOX (cutbox-rows.mjs): the forced cells as the released guide's own fill.sh prints them over the translation 3d0a09003fc6d06b… (all of the seat's roots in one cut). By AI agents, Wed Nov 11 2026. No macro, syntax, notation, axiom, sorry.
-/
import Derived.Test.YtolkpoohpimkhaaChecked
import GoSem.Claim
import GoSem.ClaimJoined
import GoSem.ClaimMapViews
import Derived.JoinedTies
import Derived.KernelRfl
namespace Go.Proofs.Ytolkpoohpimkhaa
/- THE CELL 'sum', in the pinned program and in every row, IS THE sha256 OF THE DUMP (.gsa) THAT YtolkpoohpimkhaaProg.lean LOADS. Nothing in Lean hashes anything: it is a label: what it is worth is what the hold of that sum in a sandbox is worth. -/
noncomputable def Try.pinned : Pinned := { name := "ytolkpoohpimkhaa", sum := "3d0a09003fc6d06bac4a6decf9aecea781ed2f573bd5ec454abc147d38247005", checked := Try.checked }
namespace Rows
def none {H : Type} : Left H := { results := [], args := [] }

/-- 'cartouchelaw02.ExpandExpands': WHATEVER THE INPUT: true; the input reads as it did. -/
def expandExpandsSpec : ChangeSpec := { name := "expandExpands", fn := fun _ => fun
  | [d] => { results := [.lit (.bool true)], args := [d] }
  | _ => none }
def expandExpandsRow : OpenClaim := { program := "ytolkpoohpimkhaa", sum := "3d0a09003fc6d06bac4a6decf9aecea781ed2f573bd5ec454abc147d38247005", func := "cartouche/cartouchelaw02.ExpandExpands", spec := "expandExpands", apart := false }
def ExpandExpandsSaid : Prop := expandExpandsRow.holds Try.pinned (OpenSpec.ofChange expandExpandsSpec)

/-- ITS FALSE NEIGHBOUR: 'it returns false'. Refute it at one input. -/
def expandExpandsWrong : ChangeSpec := { name := "expandExpands", fn := fun _ => fun
  | [d] => { results := [.lit (.bool false)], args := [d] }
  | _ => none }
def ExpandExpandsWrongFalsely : Prop := expandExpandsRow.holds Try.pinned (OpenSpec.ofChange expandExpandsWrong)

/-- 'cartouchelaw02.ExpandFinds': WHATEVER THE INPUT: true; the input reads as it did. -/
def expandFindsSpec : ChangeSpec := { name := "expandFinds", fn := fun _ => fun
  | [d] => { results := [.lit (.bool true)], args := [d] }
  | _ => none }
def expandFindsRow : OpenClaim := { program := "ytolkpoohpimkhaa", sum := "3d0a09003fc6d06bac4a6decf9aecea781ed2f573bd5ec454abc147d38247005", func := "cartouche/cartouchelaw02.ExpandFinds", spec := "expandFinds", apart := false }
def ExpandFindsSaid : Prop := expandFindsRow.holds Try.pinned (OpenSpec.ofChange expandFindsSpec)

/-- ITS FALSE NEIGHBOUR: 'it returns false'. Refute it at one input. -/
def expandFindsWrong : ChangeSpec := { name := "expandFinds", fn := fun _ => fun
  | [d] => { results := [.lit (.bool false)], args := [d] }
  | _ => none }
def ExpandFindsWrongFalsely : Prop := expandFindsRow.holds Try.pinned (OpenSpec.ofChange expandFindsWrong)

/-- 'cartouchelaw02.ExpandBack': WHATEVER THE INPUT: true; the input reads as it did. -/
def expandBackSpec : ChangeSpec := { name := "expandBack", fn := fun _ => fun
  | [d] => { results := [.lit (.bool true)], args := [d] }
  | _ => none }
def expandBackRow : OpenClaim := { program := "ytolkpoohpimkhaa", sum := "3d0a09003fc6d06bac4a6decf9aecea781ed2f573bd5ec454abc147d38247005", func := "cartouche/cartouchelaw02.ExpandBack", spec := "expandBack", apart := false }
def ExpandBackSaid : Prop := expandBackRow.holds Try.pinned (OpenSpec.ofChange expandBackSpec)

/-- ITS FALSE NEIGHBOUR: 'it returns false'. Refute it at one input. -/
def expandBackWrong : ChangeSpec := { name := "expandBack", fn := fun _ => fun
  | [d] => { results := [.lit (.bool false)], args := [d] }
  | _ => none }
def ExpandBackWrongFalsely : Prop := expandBackRow.holds Try.pinned (OpenSpec.ofChange expandBackWrong)

/-- 'cartouchelaw02.ExpandByte': WHATEVER THE INPUT: true; the input reads as it did. -/
def expandByteSpec : ChangeSpec := { name := "expandByte", fn := fun _ => fun
  | [d] => { results := [.lit (.bool true)], args := [d] }
  | _ => none }
def expandByteRow : OpenClaim := { program := "ytolkpoohpimkhaa", sum := "3d0a09003fc6d06bac4a6decf9aecea781ed2f573bd5ec454abc147d38247005", func := "cartouche/cartouchelaw02.ExpandByte", spec := "expandByte", apart := false }
def ExpandByteSaid : Prop := expandByteRow.holds Try.pinned (OpenSpec.ofChange expandByteSpec)

/-- ITS FALSE NEIGHBOUR: 'it returns false'. Refute it at one input. -/
def expandByteWrong : ChangeSpec := { name := "expandByte", fn := fun _ => fun
  | [d] => { results := [.lit (.bool false)], args := [d] }
  | _ => none }
def ExpandByteWrongFalsely : Prop := expandByteRow.holds Try.pinned (OpenSpec.ofChange expandByteWrong)

/-- 'cartouchelaw02.ExpandFew': WHATEVER THE INPUT: true; the input reads as it did. -/
def expandFewSpec : ChangeSpec := { name := "expandFew", fn := fun _ => fun
  | [d] => { results := [.lit (.bool true)], args := [d] }
  | _ => none }
def expandFewRow : OpenClaim := { program := "ytolkpoohpimkhaa", sum := "3d0a09003fc6d06bac4a6decf9aecea781ed2f573bd5ec454abc147d38247005", func := "cartouche/cartouchelaw02.ExpandFew", spec := "expandFew", apart := false }
def ExpandFewSaid : Prop := expandFewRow.holds Try.pinned (OpenSpec.ofChange expandFewSpec)

/-- ITS FALSE NEIGHBOUR: 'it returns false'. Refute it at one input. -/
def expandFewWrong : ChangeSpec := { name := "expandFew", fn := fun _ => fun
  | [d] => { results := [.lit (.bool false)], args := [d] }
  | _ => none }
def ExpandFewWrongFalsely : Prop := expandFewRow.holds Try.pinned (OpenSpec.ofChange expandFewWrong)

/-- 'cartouchelaw01.BitsFields': WHATEVER THE INPUT: true; the input reads as it did. -/
def bitsFieldsSpec : ChangeSpec := { name := "bitsFields", fn := fun _ => fun
  | [d1, d2, d3] => { results := [.lit (.bool true)], args := [d1, d2, d3] }
  | _ => none }
def bitsFieldsRow : OpenClaim := { program := "ytolkpoohpimkhaa", sum := "3d0a09003fc6d06bac4a6decf9aecea781ed2f573bd5ec454abc147d38247005", func := "cartouche/cartouchelaw01.BitsFields", spec := "bitsFields", apart := false }
def BitsFieldsSaid : Prop := bitsFieldsRow.holds Try.pinned (OpenSpec.ofChange bitsFieldsSpec)

/-- ITS FALSE NEIGHBOUR: 'it returns false'. Refute it at one input. -/
def bitsFieldsWrong : ChangeSpec := { name := "bitsFields", fn := fun _ => fun
  | [d1, d2, d3] => { results := [.lit (.bool false)], args := [d1, d2, d3] }
  | _ => none }
def BitsFieldsWrongFalsely : Prop := bitsFieldsRow.holds Try.pinned (OpenSpec.ofChange bitsFieldsWrong)

/-- 'cartouchelaw01.BitsSigns': WHATEVER THE INPUT: true; the input reads as it did. -/
def bitsSignsSpec : ChangeSpec := { name := "bitsSigns", fn := fun _ => fun
  | [d1, d2] => { results := [.lit (.bool true)], args := [d1, d2] }
  | _ => none }
def bitsSignsRow : OpenClaim := { program := "ytolkpoohpimkhaa", sum := "3d0a09003fc6d06bac4a6decf9aecea781ed2f573bd5ec454abc147d38247005", func := "cartouche/cartouchelaw01.BitsSigns", spec := "bitsSigns", apart := false }
def BitsSignsSaid : Prop := bitsSignsRow.holds Try.pinned (OpenSpec.ofChange bitsSignsSpec)

/-- ITS FALSE NEIGHBOUR: 'it returns false'. Refute it at one input. -/
def bitsSignsWrong : ChangeSpec := { name := "bitsSigns", fn := fun _ => fun
  | [d1, d2] => { results := [.lit (.bool false)], args := [d1, d2] }
  | _ => none }
def BitsSignsWrongFalsely : Prop := bitsSignsRow.holds Try.pinned (OpenSpec.ofChange bitsSignsWrong)

/-- 'cartouchelaw01.BitsPacks': WHATEVER THE INPUT: true; the input reads as it did. -/
def bitsPacksSpec : ChangeSpec := { name := "bitsPacks", fn := fun _ => fun
  | [d1, d2] => { results := [.lit (.bool true)], args := [d1, d2] }
  | _ => none }
def bitsPacksRow : OpenClaim := { program := "ytolkpoohpimkhaa", sum := "3d0a09003fc6d06bac4a6decf9aecea781ed2f573bd5ec454abc147d38247005", func := "cartouche/cartouchelaw01.BitsPacks", spec := "bitsPacks", apart := false }
def BitsPacksSaid : Prop := bitsPacksRow.holds Try.pinned (OpenSpec.ofChange bitsPacksSpec)

/-- ITS FALSE NEIGHBOUR: 'it returns false'. Refute it at one input. -/
def bitsPacksWrong : ChangeSpec := { name := "bitsPacks", fn := fun _ => fun
  | [d1, d2] => { results := [.lit (.bool false)], args := [d1, d2] }
  | _ => none }
def BitsPacksWrongFalsely : Prop := bitsPacksRow.holds Try.pinned (OpenSpec.ofChange bitsPacksWrong)

/-- 'cartouchelaw01.BitsBack': WHATEVER THE INPUT: true; the input reads as it did. -/
def bitsBackSpec : ChangeSpec := { name := "bitsBack", fn := fun _ => fun
  | [d1, d2, d3] => { results := [.lit (.bool true)], args := [d1, d2, d3] }
  | _ => none }
def bitsBackRow : OpenClaim := { program := "ytolkpoohpimkhaa", sum := "3d0a09003fc6d06bac4a6decf9aecea781ed2f573bd5ec454abc147d38247005", func := "cartouche/cartouchelaw01.BitsBack", spec := "bitsBack", apart := false }
def BitsBackSaid : Prop := bitsBackRow.holds Try.pinned (OpenSpec.ofChange bitsBackSpec)

/-- ITS FALSE NEIGHBOUR: 'it returns false'. Refute it at one input. -/
def bitsBackWrong : ChangeSpec := { name := "bitsBack", fn := fun _ => fun
  | [d1, d2, d3] => { results := [.lit (.bool false)], args := [d1, d2, d3] }
  | _ => none }
def BitsBackWrongFalsely : Prop := bitsBackRow.holds Try.pinned (OpenSpec.ofChange bitsBackWrong)

/-- 'cartouchelaw01.BitsTurns': WHATEVER THE INPUT: true; the input reads as it did. -/
def bitsTurnsSpec : ChangeSpec := { name := "bitsTurns", fn := fun _ => fun
  | [d1, d2, d3] => { results := [.lit (.bool true)], args := [d1, d2, d3] }
  | _ => none }
def bitsTurnsRow : OpenClaim := { program := "ytolkpoohpimkhaa", sum := "3d0a09003fc6d06bac4a6decf9aecea781ed2f573bd5ec454abc147d38247005", func := "cartouche/cartouchelaw01.BitsTurns", spec := "bitsTurns", apart := false }
def BitsTurnsSaid : Prop := bitsTurnsRow.holds Try.pinned (OpenSpec.ofChange bitsTurnsSpec)

/-- ITS FALSE NEIGHBOUR: 'it returns false'. Refute it at one input. -/
def bitsTurnsWrong : ChangeSpec := { name := "bitsTurns", fn := fun _ => fun
  | [d1, d2, d3] => { results := [.lit (.bool false)], args := [d1, d2, d3] }
  | _ => none }
def BitsTurnsWrongFalsely : Prop := bitsTurnsRow.holds Try.pinned (OpenSpec.ofChange bitsTurnsWrong)

/-- 'cartouchelaw01.BitsHalves': WHATEVER THE INPUT: true; the input reads as it did. -/
def bitsHalvesSpec : ChangeSpec := { name := "bitsHalves", fn := fun _ => fun
  | [d] => { results := [.lit (.bool true)], args := [d] }
  | _ => none }
def bitsHalvesRow : OpenClaim := { program := "ytolkpoohpimkhaa", sum := "3d0a09003fc6d06bac4a6decf9aecea781ed2f573bd5ec454abc147d38247005", func := "cartouche/cartouchelaw01.BitsHalves", spec := "bitsHalves", apart := false }
def BitsHalvesSaid : Prop := bitsHalvesRow.holds Try.pinned (OpenSpec.ofChange bitsHalvesSpec)

/-- ITS FALSE NEIGHBOUR: 'it returns false'. Refute it at one input. -/
def bitsHalvesWrong : ChangeSpec := { name := "bitsHalves", fn := fun _ => fun
  | [d] => { results := [.lit (.bool false)], args := [d] }
  | _ => none }
def BitsHalvesWrongFalsely : Prop := bitsHalvesRow.holds Try.pinned (OpenSpec.ofChange bitsHalvesWrong)

/- THE SECOND FORM. 'bulk': how many values and letters a reading holds, each counted each time it is reached (what is shared counts as often as it is met; a slice's spare places count too). A statement '..UptoSaid' is the law's where the arguments, and the package variables that the reading takes, are together of bulk at most 1048576: NARROWER than '..Said'. Prove '..Said' where nothing that the law and all that it calls make is longer than what came in: it says more and counts as full. Else prove '..UptoSaid'. A law counts once. -/
mutual
def uptoBulk {H : Type} : DataW H → Nat
  | .lit (.string bytes) => bytes.length + 1
  | .lit _ => 1
  | .nil => 1
  | .ptr d => uptoBulk d + 1
  | .slice elems spare => uptoBulkAll elems + uptoBulkAll spare + 1
  | .agg parts => uptoBulkAll parts + 1
  | .iface _ d => uptoBulk d + 1
  | .map entries => uptoBulkEntries entries + 1
  | .held _ => 1
def uptoBulkAll {H : Type} : List (DataW H) → Nat
  | [] => 0
  | d :: r => uptoBulk d + uptoBulkAll r
def uptoBulkEntries {H : Type} : List (Lit × DataW H) → Nat
  | [] => 0
  | x :: r => uptoBulkEntry x + uptoBulkEntries r
def uptoBulkEntry {H : Type} : Lit × DataW H → Nat
  | (.string bytes, d) => bytes.length + uptoBulk d + 1
  | (_, d) => uptoBulk d + 1
 end
def uptoSmall : (H : Type) → List (DataW H) → Bool := fun _ ds => decide (uptoBulkAll ds ≤ 1048576)
def OpenSpec.upto (s : _root_.Go.ChangeSpec) : _root_.Go.OpenSpec := { _root_.Go.OpenSpec.ofChange s with cond := some uptoSmall }

/-- 'cartouchelaw02.ExpandExpands', WHERE WHAT IT READS IS OF BULK AT MOST 1048576: true; the input reads as it did. -/
def expandExpandsUptoRow : OpenClaim := { program := "ytolkpoohpimkhaa", sum := "3d0a09003fc6d06bac4a6decf9aecea781ed2f573bd5ec454abc147d38247005", func := "cartouche/cartouchelaw02.ExpandExpands", spec := "expandExpands", apart := false, narrowed := true }
def ExpandExpandsUptoSaid : Prop := expandExpandsUptoRow.holds Try.pinned (OpenSpec.upto expandExpandsSpec)

/-- 'cartouchelaw02.ExpandFinds', WHERE WHAT IT READS IS OF BULK AT MOST 1048576: true; the input reads as it did. -/
def expandFindsUptoRow : OpenClaim := { program := "ytolkpoohpimkhaa", sum := "3d0a09003fc6d06bac4a6decf9aecea781ed2f573bd5ec454abc147d38247005", func := "cartouche/cartouchelaw02.ExpandFinds", spec := "expandFinds", apart := false, narrowed := true }
def ExpandFindsUptoSaid : Prop := expandFindsUptoRow.holds Try.pinned (OpenSpec.upto expandFindsSpec)

/-- 'cartouchelaw02.ExpandBack', WHERE WHAT IT READS IS OF BULK AT MOST 1048576: true; the input reads as it did. -/
def expandBackUptoRow : OpenClaim := { program := "ytolkpoohpimkhaa", sum := "3d0a09003fc6d06bac4a6decf9aecea781ed2f573bd5ec454abc147d38247005", func := "cartouche/cartouchelaw02.ExpandBack", spec := "expandBack", apart := false, narrowed := true }
def ExpandBackUptoSaid : Prop := expandBackUptoRow.holds Try.pinned (OpenSpec.upto expandBackSpec)

/-- 'cartouchelaw02.ExpandByte', WHERE WHAT IT READS IS OF BULK AT MOST 1048576: true; the input reads as it did. -/
def expandByteUptoRow : OpenClaim := { program := "ytolkpoohpimkhaa", sum := "3d0a09003fc6d06bac4a6decf9aecea781ed2f573bd5ec454abc147d38247005", func := "cartouche/cartouchelaw02.ExpandByte", spec := "expandByte", apart := false, narrowed := true }
def ExpandByteUptoSaid : Prop := expandByteUptoRow.holds Try.pinned (OpenSpec.upto expandByteSpec)

/-- 'cartouchelaw02.ExpandFew', WHERE WHAT IT READS IS OF BULK AT MOST 1048576: true; the input reads as it did. -/
def expandFewUptoRow : OpenClaim := { program := "ytolkpoohpimkhaa", sum := "3d0a09003fc6d06bac4a6decf9aecea781ed2f573bd5ec454abc147d38247005", func := "cartouche/cartouchelaw02.ExpandFew", spec := "expandFew", apart := false, narrowed := true }
def ExpandFewUptoSaid : Prop := expandFewUptoRow.holds Try.pinned (OpenSpec.upto expandFewSpec)

/-- 'cartouchelaw01.BitsFields', WHERE WHAT IT READS IS OF BULK AT MOST 1048576: true; the input reads as it did. -/
def bitsFieldsUptoRow : OpenClaim := { program := "ytolkpoohpimkhaa", sum := "3d0a09003fc6d06bac4a6decf9aecea781ed2f573bd5ec454abc147d38247005", func := "cartouche/cartouchelaw01.BitsFields", spec := "bitsFields", apart := false, narrowed := true }
def BitsFieldsUptoSaid : Prop := bitsFieldsUptoRow.holds Try.pinned (OpenSpec.upto bitsFieldsSpec)

/-- 'cartouchelaw01.BitsSigns', WHERE WHAT IT READS IS OF BULK AT MOST 1048576: true; the input reads as it did. -/
def bitsSignsUptoRow : OpenClaim := { program := "ytolkpoohpimkhaa", sum := "3d0a09003fc6d06bac4a6decf9aecea781ed2f573bd5ec454abc147d38247005", func := "cartouche/cartouchelaw01.BitsSigns", spec := "bitsSigns", apart := false, narrowed := true }
def BitsSignsUptoSaid : Prop := bitsSignsUptoRow.holds Try.pinned (OpenSpec.upto bitsSignsSpec)

/-- 'cartouchelaw01.BitsPacks', WHERE WHAT IT READS IS OF BULK AT MOST 1048576: true; the input reads as it did. -/
def bitsPacksUptoRow : OpenClaim := { program := "ytolkpoohpimkhaa", sum := "3d0a09003fc6d06bac4a6decf9aecea781ed2f573bd5ec454abc147d38247005", func := "cartouche/cartouchelaw01.BitsPacks", spec := "bitsPacks", apart := false, narrowed := true }
def BitsPacksUptoSaid : Prop := bitsPacksUptoRow.holds Try.pinned (OpenSpec.upto bitsPacksSpec)

/-- 'cartouchelaw01.BitsBack', WHERE WHAT IT READS IS OF BULK AT MOST 1048576: true; the input reads as it did. -/
def bitsBackUptoRow : OpenClaim := { program := "ytolkpoohpimkhaa", sum := "3d0a09003fc6d06bac4a6decf9aecea781ed2f573bd5ec454abc147d38247005", func := "cartouche/cartouchelaw01.BitsBack", spec := "bitsBack", apart := false, narrowed := true }
def BitsBackUptoSaid : Prop := bitsBackUptoRow.holds Try.pinned (OpenSpec.upto bitsBackSpec)

/-- 'cartouchelaw01.BitsTurns', WHERE WHAT IT READS IS OF BULK AT MOST 1048576: true; the input reads as it did. -/
def bitsTurnsUptoRow : OpenClaim := { program := "ytolkpoohpimkhaa", sum := "3d0a09003fc6d06bac4a6decf9aecea781ed2f573bd5ec454abc147d38247005", func := "cartouche/cartouchelaw01.BitsTurns", spec := "bitsTurns", apart := false, narrowed := true }
def BitsTurnsUptoSaid : Prop := bitsTurnsUptoRow.holds Try.pinned (OpenSpec.upto bitsTurnsSpec)

/-- 'cartouchelaw01.BitsHalves', WHERE WHAT IT READS IS OF BULK AT MOST 1048576: true; the input reads as it did. -/
def bitsHalvesUptoRow : OpenClaim := { program := "ytolkpoohpimkhaa", sum := "3d0a09003fc6d06bac4a6decf9aecea781ed2f573bd5ec454abc147d38247005", func := "cartouche/cartouchelaw01.BitsHalves", spec := "bitsHalves", apart := false, narrowed := true }
def BitsHalvesUptoSaid : Prop := bitsHalvesUptoRow.holds Try.pinned (OpenSpec.upto bitsHalvesSpec)

end Rows
end Go.Proofs.Ytolkpoohpimkhaa
