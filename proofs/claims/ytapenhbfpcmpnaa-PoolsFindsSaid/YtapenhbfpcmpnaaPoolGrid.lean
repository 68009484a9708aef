/- Slices of slices of the call's own: each row in a block of its own. -/
import Derived.Test.YtapenhbfpcmpnaaPoolPlain
import Derived.Test.YtapenhbfpcmpnaaBigCells
import Derived.Laws.MakeOwn
namespace Go.Proofs.Ytapenhbfpcmpnaa
open Go.RowKit Mem
set_option linter.unusedVariables false
theorem own_heap {w w' : World} {base : Nat} {e : TypeId} {size n : Nat} {v : Value} {xs : List Value} (h : w.ownsRow base e size v n xs) (hb : ∀ g, v.ownBlock = some g → w'.heap[g]? = w.heap[g]?) : w'.ownsRow base e size v n xs := by
  obtain ⟨h1, h2⟩ := h
  refine ⟨h1, ?_⟩
  rcases h2 with h2 | ⟨g, cap, cur, a, b, c, d⟩
  · exact .inl h2
  · exact .inr ⟨g, cap, cur, a, b, by rw [hb g (by rw [a]; rfl)]; exact c, d⟩
/-- The rows gs, each of the call's own, in the block O. -/
structure OwnG (w : World) (base O n : Nat) (vs : List Value) (gs : List (List Int)) : Prop where
  heap : w.heap[O]? = some (.cells vs.toArray 23 (0, 0))
  vlen : vs.length = n
  glen : gs.length = n
  base_ : base ≤ O
  row : ∀ (k : Nat) v g, vs[k]? = some v → gs[k]? = some g → w.ownsRow base 3 1 v g.length (ints g) ∧ v.ownBlock ≠ some O
  apart : ∀ (i j : Nat) a b, i ≠ j → vs[i]? = some a → vs[j]? = some b → ∀ g, a.ownBlock = some g → b.ownBlock ≠ some g
section
variable {w w' : World} {base O n : Nat} {vs : List Value} {gs : List (List Int)}
theorem OwnG.lt (h : OwnG w base O n vs gs) : O < w.heap.size := by
  rcases Nat.lt_or_ge O w.heap.size with hh | hh
  · exact hh
  · have := h.heap; rw [Array.getElem?_eq_none hh] at this; cases this
theorem OwnG.cell (h : OwnG w base O n vs gs) {k : Nat} {v : Value} (hk : vs[k]? = some v) : w.cell? ⟨O, k, none⟩ = some v := by
  rw [cell_of_row _ _ _ vs.toArray _ (0, 0) h.heap]; simpa using hk
theorem OwnG.keep (h : OwnG w base O n vs gs) (hb : Below w.heap.size w w') : OwnG w' base O n vs gs := by
  refine ⟨?_, h.vlen, h.glen, h.base_, fun k v g hv hg => ?_, h.apart⟩
  · rw [hb.block O h.lt]; exact h.heap
  · obtain ⟨a, b⟩ := h.row k v g hv hg
    exact ⟨own_heap a (fun g hg => hb.block g (own_block a g hg).2), b⟩
/-- A row that has grown. -/
theorem OwnG.put (h : OwnG w base O n vs gs) {p : Nat} {v v' : Value} {l : List Int} {x : Int} {H : Nat} {wx : World} (o : Obj) (hp : p < n) (hv : vs[p]? = some v) (hl : gs[p]? = some l)
    {g cap : Nat} (hv' : v' = .slice (some ⟨g, 0, none⟩) (l.length + 1) cap) (hown : wx.ownsRow base 3 1 v' (l.length + 1) (ints (l ++ [x]))) (hgrow : (w.alloc o).grownBy wx v.ownBlock) (hat : v.ownBlock = some g ∨ g = w.heap.size + 1) :
    OwnG (wx.setCell ⟨O, p, none⟩ v') base O n (vs.set p v') (gs.set p (l ++ [x])) := by
  have hO := h.lt
  obtain ⟨hr, hrO⟩ := h.row p v l hv hl
  have hsz : w.heap.size + 1 ≤ wx.heap.size := by have := hgrow.size; simpa using this
  have hOx : wx.heap[O]? = some (.cells vs.toArray 23 (0, 0)) := by
    rw [hgrow.block O (by simp; omega) (fun e => hrO e.symm), Below.heap_alloc w o O hO]; exact h.heap
  have hother : ∀ b, b ≠ O → (wx.setCell ⟨O, p, none⟩ v').heap[b]? = wx.heap[b]? := fun b hb => Below.heap_setCell wx ⟨O, p, none⟩ v' b hb
  have hgO : g ≠ O := by
    rcases hat with e | e
    · intro ee; exact hrO (by rw [e, ee])
    · omega
  refine ⟨?_, by rw [List.length_set]; exact h.vlen, by rw [List.length_set]; exact h.glen, h.base_, fun k u q hu hq => ?_, fun i j a b hij ha hb q hq => ?_⟩
  · unfold World.setCell
    simp only [Option.isSome_none, Bool.false_eq_true, if_false]
    rw [Array.getElem?_modify, if_pos rfl, hOx]
    simp
  · by_cases e : k = p
    · subst e
      rw [List.getElem?_set_self (by rw [h.vlen]; exact hp)] at hu
      rw [List.getElem?_set_self (by rw [h.glen]; exact hp)] at hq
      cases hu; cases hq
      refine ⟨?_, by rw [hv']; intro e; exact hgO (by simpa [Value.ownBlock] using e)⟩
      have : (l ++ [x]).length = l.length + 1 := by simp
      rw [this]
      exact own_heap hown (fun b hb => by
        rw [hv'] at hb
        have : g = b := by simpa [Value.ownBlock] using hb
        subst this; exact hother g hgO)
    · rw [List.getElem?_set_ne (by omega)] at hu hq
      obtain ⟨r1, r2⟩ := h.row k u q hu hq
      refine ⟨own_heap r1 (fun b hb => ?_), r2⟩
      have hbO : b ≠ O := fun e => r2 (by rw [hb, e])
      have hbl := (own_block r1 b hb).2
      rw [hother b hbO, hgrow.block b (by simp; omega) (fun e2 => h.apart k p u v e hu hv b hb e2.symm), Below.heap_alloc w o b hbl]
  · have fresh : ∀ (m : Nat) (c : Value) (hm : m ≠ p) (hc : vs[m]? = some c), c.ownBlock ≠ some g := fun m c hm hc e => by
      rcases hat with e2 | e2
      · exact h.apart m p c v hm hc hv g e e2
      · have hm' : m < n := by
          rw [← h.vlen]
          rcases Nat.lt_or_ge m vs.length with hh | hh
          · exact hh
          · rw [List.getElem?_eq_none hh] at hc; cases hc
        obtain ⟨q, hq⟩ : ∃ q, gs[m]? = some q := ⟨gs[m]'(by rw [h.glen]; exact hm'), List.getElem?_eq_getElem _⟩
        have := (own_block (h.row m c q hc hq).1 g e).2
        omega
    by_cases ei : i = p
    · subst ei
      rw [List.getElem?_set_self (by rw [h.vlen]; exact hp)] at ha
      cases ha
      rw [List.getElem?_set_ne (by omega)] at hb
      have : g = q := by rw [hv'] at hq; simpa [Value.ownBlock] using hq
      subst this
      exact fresh j b (by omega) hb
    · rw [List.getElem?_set_ne (by omega)] at ha
      by_cases ej : j = p
      · subst ej
        rw [List.getElem?_set_self (by rw [h.vlen]; exact hp)] at hb
        cases hb
        intro e
        have : g = q := by rw [hv'] at e; simpa [Value.ownBlock] using e
        subst this
        exact fresh i a ei ha hq
      · rw [List.getElem?_set_ne (by omega)] at hb
        exact h.apart i j a b hij ha hb q hq
theorem OwnG.alloc (h : OwnG w base O n vs gs) (o : Obj) : OwnG (w.alloc o) base O n vs gs := h.keep ((Below.refl _ _).alloc (Nat.le_refl _) _)
theorem OwnG.put2 (h : OwnG w base O n vs gs) {p : Nat} {v v' : Value} {l : List Int} {x : Int} {wx : World} (o1 o2 : Obj) (hp : p < n) (hv : vs[p]? = some v) (hl : gs[p]? = some l)
    {g cap : Nat} (hv' : v' = .slice (some ⟨g, 0, none⟩) (l.length + 1) cap) (hown : wx.ownsRow base 3 1 v' (l.length + 1) (ints (l ++ [x]))) (hgrow : (((w.alloc o1).alloc o2).drew).grownBy wx v.ownBlock) (hat : v.ownBlock = some g ∨ g = w.heap.size + 1 + 1) :
    OwnG (wx.setCell ⟨O, p, none⟩ v') base O n (vs.set p v') (gs.set p (l ++ [x])) :=
  (h.alloc o1).put (H := 0) o2 hp hv hl hv' hown ⟨hgrow.os, hgrow.tape, hgrow.output, hgrow.size, hgrow.block⟩ (by simpa using hat)
theorem OwnG.grid (h : OwnG w base O n vs gs) : Grid w w.heap.size (some ⟨O, 0, none⟩) n gs := by
  refine ⟨h.glen, fun k hk => ?_⟩
  have hv : k < vs.length := by rw [h.vlen]; exact hk
  have hg : k < gs.length := by rw [h.glen]; exact hk
  obtain ⟨r1, _⟩ := h.row k vs[k] gs[k] (List.getElem?_eq_getElem hv) (List.getElem?_eq_getElem hg)
  obtain ⟨A, c, e, hc1, hc2⟩ := own_shape r1
  have hcell := h.cell (List.getElem?_eq_getElem hv)
  rw [e] at hcell r1
  unfold maxLen at hc2
  exact ⟨⟨O, 0, none⟩, A, _, c, _, rfl, h.lt, by rw [Addr.add_mid, Nat.zero_add]; exact hcell, List.getElem?_eq_getElem hg, Ints.of_own r1, by omega⟩
end
end Go.Proofs.Ytapenhbfpcmpnaa
