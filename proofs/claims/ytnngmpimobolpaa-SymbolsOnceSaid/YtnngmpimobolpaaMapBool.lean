/- A look-up of a bool in a map that the call makes: the law that the library has for ints. -/
import Derived.Test.YtnngmpimobolpaaHas
import Derived.Maps.OwnSet
namespace Go.Proofs.Ytnngmpimobolpaa
open Go Go.Maps
set_option linter.unusedVariables false
theorem plainElem_bool_inv {H : Type} {P : Program} {e : TypeId} (he : P.underlying e = some .bool) {v : Value} {z : DataW H × List MemPlace} (h : plainElem P e v = some z) : ∃ x, v = .bool x ∧ z = (.lit (.bool x), []) := by
  unfold plainElem at h
  rw [he] at h
  cases v <;> simp at h
  exact ⟨_, rfl, h.symm⟩
/-- A map in block b that holds just the texts l, each as true. -/
def SetOf (P : Program) (k e : TypeId) (w : World) (b n : Nat) (l : List ByteArray) : Prop :=
  ∃ D : DataW Unit, w.ownsMap P k (plainElem P e) b n D ∧ IsMap D ∧ ∀ s : ByteArray, D.atKey (.string s.data.toList) (.lit (.bool false)) = .lit (.bool (hasB s l))
section
variable {P : Program} {k e : TypeId} {w w' : World} {b n : Nat} {l : List ByteArray}
theorem SetOf.made (w : World) : SetOf P k e (w.alloc (.map #[] 0)) w.heap.size 0 [] :=
  ⟨_, World.ownsMap_made w P k (plainElem P e), isMap_empty, fun s => by simp [DataW.atKey, hasB]⟩
theorem SetOf.kept {row : Option Nat} (h : SetOf P k e w b n l) (hg : w.grownBy w' row) (hne : some b ≠ row) : SetOf P k e w' b n l := by
  obtain ⟨D, h1, h2, h3⟩ := h
  exact ⟨D, h1.kept hg hne, h2, h3⟩
theorem SetOf.alloc (h : SetOf P k e w b n l) (o : Obj) : SetOf P k e (w.alloc o) b n l := by
  obtain ⟨D, h1, h2, h3⟩ := h
  exact ⟨D, h1.alloc o, h2, h3⟩
theorem SetOf.setCell (h : SetOf P k e w b n l) {a : Addr} (ha : b ≠ a.block) (u : Value) : SetOf P k e (w.setCell a u) b n l := by
  obtain ⟨D, h1, h2, h3⟩ := h
  exact ⟨D, h1.setCell ha u, h2, h3⟩
theorem SetOf.drew (h : SetOf P k e w b n l) : SetOf P k e w.drew b n l := by
  obtain ⟨D, h1, h2, h3⟩ := h
  exact ⟨D, h1.drew, h2, h3⟩
theorem SetOf.mono (h : SetOf P k e w b n l) {n' : Nat} (hn : n ≤ n') : SetOf P k e w b n' l := by
  obtain ⟨D, h1, h2, h3⟩ := h
  exact ⟨D, h1.mono hn, h2, h3⟩
theorem SetOf.lt (h : SetOf P k e w b n l) : b < w.heap.size := by
  obtain ⟨D, h1, _⟩ := h
  exact h1.lt
theorem key_inj {s t : ByteArray} (h : s ≠ t) : (Lit.string s.data.toList) ≠ .string t.data.toList := fun e => h (by
  cases s; cases t
  simp only [Lit.string.injEq, Array.toList_inj] at e
  rw [e])
end
/-- 'm[s]' at the operation: is s among the texts? -/
theorem wpList_lookup_set {P : Program} (w : World) {ops : Array Oper} {rest : List Oper} {o : Oper} {a : Act} {Q : Exit → Act → World → Prop}
    (hg : o.guard = none) (m x : Operand) (t : TypeId) (hop : o.op = Op.lookup t m x false)
    (k e : TypeId) (K : Keyed P k) (ht : P.underlying t = some (.map k e)) (he : P.underlying e = some .bool) (hz : (zeroValue e).run P w = .ok (.bool false) w) (b n : Nat) (l : List ByteArray)
    (hm : a.eval m = .map (some b)) (hown : SetOf P k e w b n l) (s : ByteArray) (hx : a.eval x = .string s) (hkey : keyOf P k (.string s) = some (.string s.data.toList))
    (hK : wpList P ops Q rest (a.put o.dst (.bool (hasB s l))) w) :
    wpList P ops Q (o :: rest) a w := by
  refine wpList_plain hg fun K' hK' => ?_
  obtain ⟨D, h1, h2, h3⟩ := hown
  obtain ⟨v, ps, hrun, hv⟩ := h1.lookup K ht hz (plainElem_bool he false) hkey
  obtain ⟨c, rfl, hc⟩ := plainElem_bool_inv he hv
  simp only [Prod.mk.injEq] at hc
  rw [h3 s] at hc
  have hc1 : hasB s l = c := by have := hc.1; simp at this; exact this
  subst hc1
  unfold Oper.wp
  simp [execOp, hop, hm, hx, hrun, Result.andThen]
  exact hK' _ _ hK
/-- 'm[s] = true' at the operation. -/
theorem wpList_update_set {P : Program} (w : World) {ops : Array Oper} {rest : List Oper} {o : Oper} {a : Act} {Q : Exit → Act → World → Prop}
    (hg : o.guard = none) (m x v : Operand) (t : TypeId) (hop : o.op = Op.mapUpdate t m x v)
    (k e : TypeId) (K : Keyed P k) (ht : P.underlying t = some (.map k e)) (he : P.underlying e = some .bool) (b n : Nat) (l : List ByteArray)
    (hm : a.eval m = .map (some b)) (hown : SetOf P k e w b n l) (hn : n < maxLen) (s : ByteArray) (hx : a.eval x = .string s) (hv : a.eval v = .bool true) (hkey : keyOf P k (.string s) = some (.string s.data.toList)) (hs : WideAt.IsKeyLit (.string s.data.toList))
    (hK : ∀ w', SetOf P k e w' b (n + 1) (l ++ [s]) → w.grownBy w' (some b) → wpList P ops Q rest (a.put o.dst undef) w') :
    wpList P ops Q (o :: rest) a w := by
  obtain ⟨D, h1, h2, h3⟩ := hown
  refine wpList_mapUpdate_own w hg m x v t hop k e K ht (plainElem P e) b n D hm h1 hn _ _ _ hx hv hkey (.lit (.bool true)) [] (plainElem_bool he true) fun w' r1 r2 => hK w' ⟨_, r1, h2.put _ _, fun u => ?_⟩ r2
  by_cases hu : u = s
  · subst hu
    rw [atKey_put_same h2 hs, hasB_app, ba_self, Bool.or_true]
  · rw [atKey_put_other (key_inj hu), h3 u, hasB_app, ba_ne hu, Bool.or_false]
end Go.Proofs.Ytnngmpimobolpaa
