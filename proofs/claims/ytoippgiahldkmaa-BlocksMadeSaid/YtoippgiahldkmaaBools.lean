/- Slices of bools that read as lists. -/
import Derived.Test.YtoippgiahldkmaaMem
namespace Go.Proofs.Ytoippgiahldkmaa
namespace Mem
open Go.RowKit
set_option linter.unusedVariables false
def bls (l : List Bool) : List Value := l.map Value.bool
theorem bls_len (l : List Bool) : (bls l).length = l.length := by simp [bls]
theorem bls_get {l : List Bool} {k : Nat} {u : Value} (h : (bls l)[k]? = some u) : ∃ z, l[k]? = some z ∧ u = .bool z := by
  unfold bls at h
  rw [List.getElem?_map] at h
  cases e : l[k]? with
  | none => rw [e] at h; cases h
  | some z => rw [e] at h; exact ⟨z, rfl, by simpa using h.symm⟩
/-- A slice of bools that reads as l. -/
def Bools (w : World) (B : Nat) (A : Option Addr) (n : Nat) (l : List Bool) : Prop := Sl w B 1 A n (bls l)
theorem Bools.len {w : World} {B n : Nat} {A : Option Addr} {l : List Bool} (h : Bools w B A n l) : l.length = n := by have := Sl.len h; rw [bls_len] at this; omega
theorem Bools.get {w : World} {B n k : Nat} {A : Option Addr} {l : List Bool} (h : Bools w B A n l) (hk : k < n) : ∃ ad z, A = some ad ∧ ad.block < B ∧ l[k]? = some z ∧ w.cell? (ad.add k) = some (.bool z) := by
  obtain ⟨ad, u, e, hb, hx, hc⟩ := Sl.get h hk
  obtain ⟨z, hz, rfl⟩ := bls_get hx
  exact ⟨ad, z, e, hb, hz, hc⟩
section
variable {w w' : World} {B B' n : Nat} {A : Option Addr} {l : List Bool}
theorem Bools.below (h : Bools w B A n l) (hb : Below B w w') : Bools w' B A n l := Sl.below h hb
theorem Bools.nil : Bools w B A 0 [] := Sl.nil
end
end Mem
end Go.Proofs.Ytoippgiahldkmaa
