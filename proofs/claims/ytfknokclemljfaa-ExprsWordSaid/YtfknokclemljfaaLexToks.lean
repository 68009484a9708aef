/- Slices of tokens that read as lists: a token is three cells. A scope with one label that the run jumps back to. -/
import Derived.Test.YtfknokclemljfaaLexName
import Derived.ScopeJumps
import Derived.WalkMore
namespace Go.Proofs.Ytfknokclemljfaa
open Go.RowKit Mem
set_option linter.unusedVariables false
def tkCells (k : Lx.Tk) : List Value := [.int .i64 k.kind, .int .i64 k.n, .string k.text]
def tcells (ks : List Lx.Tk) : List Value := ks.flatMap tkCells
theorem tcells_append (a b : List Lx.Tk) : tcells (a ++ b) = tcells a ++ tcells b := by simp [tcells]
theorem tcells_one (k : Lx.Tk) : tcells [k] = tkCells k := by simp [tcells]
theorem tcells_len : ∀ (ks : List Lx.Tk), (tcells ks).length = ks.length * 3
  | [] => rfl
  | k :: ks => by
    show (tkCells k ++ tcells ks).length = _
    rw [List.length_append, tcells_len ks, show (tkCells k).length = 3 from rfl, List.length_cons]; omega
theorem tcells_get : ∀ (ks : List Lx.Tk) (i : Nat) (k : Lx.Tk) (j : Nat) (u : Value), ks[i]? = some k → (tkCells k)[j]? = some u → (tcells ks)[i * 3 + j]? = some u
  | [], i, k, j, u, h, _ => by cases h
  | m :: ks, 0, k, j, u, h, hj => by
    cases h
    show (tkCells m ++ _)[0 * 3 + j]? = _
    have hl : j < (tkCells m).length := (List.getElem?_eq_some_iff.1 hj).1
    rw [Nat.zero_mul, Nat.zero_add, List.getElem?_append_left hl]; exact hj
  | m :: ks, i + 1, k, j, u, h, hj => by
    show (tkCells m ++ tcells ks)[(i + 1) * 3 + j]? = _
    have hl : (tkCells m).length = 3 := rfl
    rw [List.getElem?_append_right (by rw [hl]; omega), hl, show (i + 1) * 3 + j - 3 = i * 3 + j by omega]
    exact tcells_get ks i k j u (by simpa using h) hj
/-- The slice at A of n tokens reads as ks, and lies below block B. -/
def Toks (w : World) (B : Nat) (A : Option Addr) (n : Nat) (ks : List Lx.Tk) : Prop := Sl w B 3 A n (tcells ks)
section
variable {w w' : World} {B B' n : Nat} {A : Option Addr} {ks : List Lx.Tk}
theorem Toks.len (h : Toks w B A n ks) : ks.length = n := by have := Sl.len h; rw [tcells_len] at this; omega
theorem Toks.below (h : Toks w B A n ks) (hb : Below B w w') : Toks w' B A n ks := Sl.below h hb
theorem Toks.more (h : Toks w B A n ks) (hB : B ≤ B') : Toks w B' A n ks := Sl.more h hB
theorem Toks.drewN (h : Toks w B A n ks) (k : Nat) : Toks (w.drewN k) B A n ks := Sl.drewN h k
theorem Toks.nil : Toks w B A 0 [] := Sl.nil
theorem Toks.of_own {base c : Nat} {e : TypeId} (h : w.ownsRow base e 3 (.slice A n c) n (tcells ks)) : Toks w w.heap.size A n ks := Sl.of_own h
theorem Toks.get {k : Nat} (h : Toks w B A n ks) (hk : k < n) : ∃ ad p t, A = some ad ∧ ad.add (k * 3) = p ∧ p.block < B ∧ ks[k]? = some t ∧ w.cell? p = some (.int .i64 t.kind) ∧ w.cell? ⟨p.block, p.off + 1, none⟩ = some (.int .i64 t.n) ∧ w.cell? ⟨p.block, p.off + 2, none⟩ = some (.string t.text) := by
  obtain ⟨ad, e, hb, hc⟩ := h.at_ (by omega)
  have hl : k < ks.length := by have := h.len; omega
  have hg := List.getElem?_eq_getElem hl
  have key : ∀ j u, (tkCells ks[k])[j]? = some u → w.cell? ((ad.add (k * 3)).add j) = some u := fun j u hu => by
    rw [add_add]; exact hc _ _ (tcells_get ks k _ j u hg hu)
  refine ⟨ad, _, ks[k], e, rfl, by rw [add_block]; exact hb, hg, ?_, ?_, ?_⟩
  · have := key 0 _ rfl; rwa [add_zero] at this
  · have := key 1 _ rfl; unfold Addr.add at this ⊢; simpa using this
  · have := key 2 _ rfl; unfold Addr.add at this ⊢; simpa using this
end
theorem wp_scope_jumps3 {P : Program} {a : Act} {w : World} {Q : Exit → Act → World → Prop} {c R : Code} (l : Nat) (J : Act → World → Prop) (μ : Act → World → Nat) (hf : findLabel c l = some (Code.skip.seq R))
    (start : ∀ Q', (∀ a w, J a w → R.wp P Q' a w) → c.wp P Q' a w)
    (pass : ∀ a w, J a w → R.wp P (Exit.jump l (fun a' w' => J a' w' ∧ μ a' w' < μ a w) Q) a w) : (Code.scope c).wp P Q a w :=
  wp_scope_jumps l J μ hf (start _ fun a w h => wp_mono (pass a w h) fun e a' w' hq => by
    cases e with
    | goto l' => exact ⟨hq.1, hq.2.1⟩
    | _ => exact hq) fun a w h => wp_seq (wp_skip (pass a w h))
end Go.Proofs.Ytfknokclemljfaa
