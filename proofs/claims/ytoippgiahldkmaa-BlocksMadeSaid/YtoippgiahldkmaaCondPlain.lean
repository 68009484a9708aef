/- Layer 4 (conds), plain: what the conditions' functions compute. No program in sight. -/
import Derived.Test.YtoippgiahldkmaaNum
import Derived.Test.YtoippgiahldkmaaBase
import Derived.Lib.SlicesS
namespace Go.Proofs.Ytoippgiahldkmaa
open Go.RowKit
set_option linter.unusedVariables false
/-- Is the condition k true of the flags n, z, c, v? -/
def hold (k : Int) (n z c v : Bool) : Bool :=
  if k = 0 then z else if k = 1 then !z else if k = 2 then c else if k = 3 then !c else if k = 4 then n else if k = 5 then !n else if k = 6 then v else if k = 7 then !v
  else if k = 8 then c && !z else if k = 9 then !c || z else if k = 10 then n == v else if k = 11 then n != v else if k = 12 then !z && n == v else if k = 13 then z || n != v else true
/-- The other one of two. -/
def other (k : Int) : Int := if k < 0 ∨ 13 < k then 14 else if k % 2 = 0 then k + 1 else k - 1
/-- The state behind an instruction. -/
def nextIt (it : Int) : Int := if it % 8 = 0 then 0 else it / 32 % 8 * 32 + it % 16 * 2
/-- A state's condition. -/
def condIt (it : Int) : Int := if it % 16 = 0 then 14 else it / 16 % 16
theorem all_conds {k : Int} (h0 : 0 ≤ k) (h1 : k ≤ 13) : k = 0 ∨ k = 1 ∨ k = 2 ∨ k = 3 ∨ k = 4 ∨ k = 5 ∨ k = 6 ∨ k = 7 ∨ k = 8 ∨ k = 9 ∨ k = 10 ∨ k = 11 ∨ k = 12 ∨ k = 13 := by omega
theorem hold_none {k : Int} (h : k < 0 ∨ 13 < k) (n z c v : Bool) : hold k n z c v = true := by
  unfold hold
  repeat rw [if_neg (by omega)]
theorem hold_other {k : Int} (h0 : 0 ≤ k) (h1 : k ≤ 13) (n z c v : Bool) : (hold k n z c v != hold (other k) n z c v) = true := by
  rcases all_conds h0 h1 with rfl | rfl | rfl | rfl | rfl | rfl | rfl | rfl | rfl | rfl | rfl | rfl | rfl | rfl <;> cases n <;> cases z <;> cases c <;> cases v <;> rfl
theorem other_other {k : Int} (h0 : 0 ≤ k) (h1 : k ≤ 13) : other (other k) = k := by
  rcases all_conds h0 h1 with rfl | rfl | rfl | rfl | rfl | rfl | rfl | rfl | rfl | rfl | rfl | rfl | rfl | rfl <;> rfl
theorem other_none {k : Int} (h : k < 0 ∨ 13 < k) : other k = 14 := by unfold other; rw [if_pos h]
theorem other_bd (k : Int) : 0 ≤ other k ∧ other k ≤ 14 := by unfold other; split; omega; split <;> omega
/-- The conditions' names. -/
def nms : List ByteArray := [⟨#[101, 113]⟩, ⟨#[110, 101]⟩, ⟨#[99, 115]⟩, ⟨#[99, 99]⟩, ⟨#[109, 105]⟩, ⟨#[112, 108]⟩, ⟨#[118, 115]⟩, ⟨#[118, 99]⟩, ⟨#[104, 105]⟩, ⟨#[108, 115]⟩, ⟨#[103, 101]⟩, ⟨#[108, 116]⟩, ⟨#[103, 116]⟩, ⟨#[108, 101]⟩]
def nm (k : Nat) : ByteArray := nms.getD k ByteArray.empty
def nameOf (c : Int) : ByteArray := if c < 0 ∨ 13 < c then ⟨#[]⟩ else nm c.toNat
theorem nameOf_none {c : Int} (h : c < 0 ∨ 13 < c) : nameOf c = ⟨#[]⟩ := if_pos h
theorem nameOf_nat {k : Nat} (h : k ≤ 13) : nameOf (k : Int) = nm k := by unfold nameOf; rw [if_neg (by omega)]; simp
def sEmp : ByteArray := ⟨#[]⟩
def sAl : ByteArray := ⟨#[97, 108]⟩
def sHs : ByteArray := ⟨#[104, 115]⟩
def sLo : ByteArray := ⟨#[108, 111]⟩
def findC (s : ByteArray) : Int := if s = sEmp then 14 else if s = sAl then 14 else if s = sHs then 2 else if s = sLo then 3 else Lib.idxOfS nms s
theorem find_name {k : Int} (h0 : 0 ≤ k) (h1 : k ≤ 13) : findC (nameOf k) = k := by
  rcases all_conds h0 h1 with rfl | rfl | rfl | rfl | rfl | rfl | rfl | rfl | rfl | rfl | rfl | rfl | rfl | rfl <;> decide
/-- The bit of a then or an else. -/
def bitOf (c : Int) (t : Bool) : Int := if t then c % 2 else 1 - c % 2
/-- A block's mask. -/
def maskGo (c : Int) : List Bool → Int → Int
  | [], m => m
  | t :: l, m => maskGo c l (2 * m - 1 + 2 * bitOf c t)
def mask (c : Int) (l : List Bool) : Int :=
  if c < 0 ∨ 14 < c ∨ 3 < l.length ∨ (c = 14 ∧ false ∈ l) then 0 else maskGo c l 1 * 2 ^ (3 - l.length)
/-- The states of a block. -/
def itAt (c m : Int) : Nat → Int
  | 0 => c * 16 + m
  | k + 1 => nextIt (itAt c m k)
def condsGo : Nat → Int → Option (List Int)
  | 0, _ => some []
  | f + 1, it => if it % 8 = 0 then some [] else if nextIt it / 16 = 15 then none else (condsGo f (nextIt it)).map (nextIt it / 16 :: ·)
/-- The conditions of a block's instructions. -/
def condsL (c m : Int) : List Int :=
  if c < 0 ∨ 14 < c ∨ m < 1 ∨ 15 < m then [] else match condsGo 3 (c * 16 + m) with
    | some l => c :: l
    | none => []
end Go.Proofs.Ytoippgiahldkmaa
