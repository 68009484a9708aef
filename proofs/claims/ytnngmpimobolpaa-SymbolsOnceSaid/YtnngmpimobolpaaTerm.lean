/- Terms of constants as plain trees; how they lie in memory: a term is four cells, its parts are a slice of such. -/
import Derived.Test.YtnngmpimobolpaaProg
import Derived.Test.YtnngmpimobolpaaMem
import Derived.Test.YtnngmpimobolpaaBase
import Derived.Deep.Slices
import Derived.OpenShut
namespace Go.Proofs.Ytnngmpimobolpaa
open Go.RowKit Mem
set_option linter.unusedVariables false
inductive Tm where
  | mk (op n : Int) (name : ByteArray) (args : List Tm)
def Tm.op : Tm → Int | .mk op _ _ _ => op
def Tm.n : Tm → Int | .mk _ n _ _ => n
def Tm.name : Tm → ByteArray | .mk _ _ nm _ => nm
def Tm.args : Tm → List Tm | .mk _ _ _ l => l
structure Tm.ok (t : Tm) : Prop where
  op : -9223372036854775808 ≤ t.op ∧ t.op ≤ 9223372036854775807
  n : -9223372036854775808 ≤ t.n ∧ t.n ≤ 9223372036854775807
  name : t.name.size ≤ 9223372036854775807
  args : t.args.length ≤ 9223372036854775807
/-- The four cells of a term. -/
def tmCells (t : Tm) (A : Option Addr) (c : Nat) : List Value := [.int .i64 t.op, .int .i64 t.n, .string t.name, .slice A t.args.length c]
/-- The term t, of at most d levels, lies in the cells cs, its parts in memory below block B. -/
def Lies (w : World) (B : Nat) : Nat → Tm → List Value → Prop
  | 0, _, _ => False
  | d + 1, t, cs => t.ok ∧ ∃ (A : Option Addr) (c : Nat), cs = tmCells t A c ∧
      (0 < t.args.length → ∃ ad, A = some ad ∧ ad.block < B ∧ ∀ i x, t.args[i]? = some x → ∃ cs', cs'.length = 4 ∧ (∀ j u, cs'[j]? = some u → w.cell? (ad.add (i * 4 + j)) = some u) ∧ Lies w B d x cs')
section
variable {w w' : World} {B B' d : Nat} {t : Tm} {cs : List Value}
theorem Lies.keep (hk : ∀ p : Addr, p.block < B → w'.cell? p = w.cell? p) (hB : B ≤ B') : ∀ {d : Nat} {t : Tm} {cs : List Value}, Lies w B d t cs → Lies w' B' d t cs
  | d + 1, t, cs, h => by
    obtain ⟨ho, A, c, e, ha⟩ := h
    refine ⟨ho, A, c, e, fun hn => ?_⟩
    obtain ⟨ad, eA, hb, hx⟩ := ha hn
    refine ⟨ad, eA, Nat.lt_of_lt_of_le hb hB, fun i x hi => ?_⟩
    obtain ⟨cs', hl, hc, hr⟩ := hx i x hi
    exact ⟨cs', hl, fun j u hu => (hk _ (by rw [add_block]; exact hb)).trans (hc j u hu), Lies.keep hk hB hr⟩
theorem Lies.below (h : Lies w B d t cs) (hb : Below B w w') : Lies w' B d t cs := h.keep (fun _ hp => hb.cell hp) (Nat.le_refl _)
theorem Lies.on (h : Lies w w.heap.size d t cs) (hb : Below w.heap.size w w') : Lies w' w'.heap.size d t cs := h.keep (fun _ hp => hb.cell hp) hb.size
theorem Lies.more (h : Lies w B d t cs) (hB : B ≤ B') : Lies w B' d t cs := h.keep (fun _ _ => rfl) hB
theorem Lies.drewN (h : Lies w B d t cs) (k : Nat) : Lies (w.drewN k) B d t cs := Lies.keep (w := w) (w' := w.drewN k) (fun _ _ => rfl) (Nat.le_refl _) h
theorem Lies.deeper : ∀ {d d' : Nat} {t : Tm} {cs : List Value}, Lies w B d t cs → d ≤ d' → Lies w B d' t cs
  | d + 1, d' + 1, t, cs, h, hd => by
    obtain ⟨ho, A, c, e, ha⟩ := h
    refine ⟨ho, A, c, e, fun hn => ?_⟩
    obtain ⟨ad, eA, hb, hx⟩ := ha hn
    refine ⟨ad, eA, hb, fun i x hi => ?_⟩
    obtain ⟨cs', hl, hc, hr⟩ := hx i x hi
    exact ⟨cs', hl, hc, Lies.deeper hr (by omega)⟩
  | d + 1, 0, t, cs, h, hd => by omega
theorem Lies.form (h : Lies w B d t cs) : t.ok ∧ ∃ (A : Option Addr) (c : Nat), cs = tmCells t A c := by
  cases d with
  | zero => exact h.elim
  | succ d => exact ⟨h.1, by obtain ⟨A, c, e, _⟩ := h.2; exact ⟨A, c, e⟩⟩
/-- The part i of a term, in memory. -/
theorem Lies.part {i : Nat} {A : Option Addr} {c : Nat} (h : Lies w B (d + 1) t (tmCells t A c)) (hi : i < t.args.length) : ∃ ad p x A' c', A = some ad ∧ ad.add (i * 4) = p ∧ p.block < B ∧ t.args[i]? = some x ∧ Lies w B d x (tmCells x A' c') ∧
    w.cell? p = some (.int .i64 x.op) ∧ w.cell? ⟨p.block, p.off + 1, none⟩ = some (.int .i64 x.n) ∧ w.cell? ⟨p.block, p.off + 2, none⟩ = some (.string x.name) ∧ w.cell? ⟨p.block, p.off + 3, none⟩ = some (.slice A' x.args.length c') := by
  obtain ⟨ho, A1, c1, e, ha⟩ := h
  have eA : A = A1 := by
    unfold tmCells at e
    simp only [List.cons.injEq, Value.slice.injEq] at e
    exact e.2.2.2.1.1
  subst eA
  obtain ⟨ad, eA, hb, hx⟩ := ha (by omega)
  have hg := List.getElem?_eq_getElem hi
  obtain ⟨cs', hl, hc, hr⟩ := hx i _ hg
  obtain ⟨_, A', c', e'⟩ := hr.form
  subst e'
  have key : ∀ j u, (tmCells t.args[i] A' c')[j]? = some u → w.cell? ((ad.add (i * 4)).add j) = some u := fun j u hu => by rw [add_add]; exact hc j u hu
  refine ⟨ad, _, _, A', c', eA, rfl, by rw [add_block]; exact hb, hg, hr, ?_, ?_, ?_, ?_⟩
  · have := key 0 _ rfl; rwa [add_zero] at this
  · have := key 1 _ rfl; unfold Addr.add at this ⊢; simpa using this
  · have := key 2 _ rfl; unfold Addr.add at this ⊢; simpa using this
  · have := key 3 _ rfl; unfold Addr.add at this ⊢; simpa using this
end
/-! How an argument that is a term is read. -/
section
variable {H : Type} {enc : TypeId × Value → H} {W : World} {base : Nat} {spare : Nat → Bool} {held : Bool}
theorem Try.cExInt : Try.prog.cellsOf 3 = 1 := by kernel_rfl
theorem Try.cExStr : Try.prog.cellsOf 9 = 1 := by kernel_rfl
theorem Try.cExSl : Try.prog.cellsOf 52 = 1 := by kernel_rfl
theorem Try.cEx : Try.prog.cellsOf 54 = 4 := by kernel_rfl
theorem list4 {l : List Value} (h : l.length = 4) : ∃ a0 a1 a2 a3, l = [a0, a1, a2, a3] := by
  match l, h with
  | [a0, a1, a2, a3], _ => exact ⟨_, _, _, _, rfl⟩
theorem ex_some {α : Type} {o : Option α} {l : List α} {i : Nat} (h : o = l[i]?) (hi : i < l.length) : ∃ y, o = some y := ⟨_, h.trans (List.getElem?_eq_getElem hi)⟩
set_option maxRecDepth 100000 in
theorem lies_of : ∀ (m : Nat) {cs : List Value} {y : DataW H × List MemPlace}, DataW.trod enc Try.prog W base spare held m 54 cs = some y → ∃ t, Lies W W.heap.size (m + 1) t cs
  | m, cs, y, h => by
    obtain ⟨xs, n, hm, _, hl, hxl, hf⟩ := DataW.trod_struct Try.underlying54 h
    rw [Try.cEx] at hl
    obtain ⟨a0, a1, a2, a3, rfl⟩ := list4 hl
    have hx : xs.length = 4 := hxl
    have f0 : DataW.trod enc Try.prog W base spare held n 3 (([a0, a1, a2, a3].drop 0).take (Try.prog.cellsOf 3)) = xs[0]? := hf 0 _ rfl
    have f1 : DataW.trod enc Try.prog W base spare held n 3 (([a0, a1, a2, a3].drop 1).take (Try.prog.cellsOf 3)) = xs[1]? := hf 1 _ rfl
    have f2 : DataW.trod enc Try.prog W base spare held n 9 (([a0, a1, a2, a3].drop 2).take (Try.prog.cellsOf 9)) = xs[2]? := hf 2 _ rfl
    have f3 : DataW.trod enc Try.prog W base spare held n 52 (([a0, a1, a2, a3].drop 3).take (Try.prog.cellsOf 52)) = xs[3]? := hf 3 _ rfl
    simp only [Try.cExInt, Try.cExStr, Try.cExSl, List.drop_zero, List.drop_succ_cons, List.take_succ_cons, List.take_zero] at f0 f1 f2 f3
    obtain ⟨y0, f0⟩ := ex_some f0 (by omega)
    obtain ⟨y1, f1⟩ := ex_some f1 (by omega)
    obtain ⟨y2, f2⟩ := ex_some f2 (by omega)
    obtain ⟨y3, f3⟩ := ex_some f3 (by omega)
    obtain ⟨op, e0, _, w0⟩ := DataW.trod_int Try.underlying3 f0
    obtain ⟨k, e1, _, w1⟩ := DataW.trod_int Try.underlying3 f1
    obtain ⟨nm, e2, _, w2⟩ := DataW.trod_string Try.underlying9 f2
    simp only [List.cons.injEq, and_true] at e0 e1 e2
    subst e0 e1 e2
    have b0 := bounds_i64 w0
    have b1 := bounds_i64 w1
    unfold maxLen at w2
    rcases DataW.trod_slice Try.underlying52 f3 with ⟨e3, _⟩ | ⟨a, len, cap, elems, rest, n', hn', e3, _, _, hlc, hcm, hlen, hel, _, _⟩
    · simp only [List.cons.injEq, and_true] at e3
      subst e3
      exact ⟨.mk op k nm [], ⟨b0, b1, w2, by simp [Tm.args]⟩, none, 0, rfl, fun h => by simp [Tm.args] at h⟩
    · simp only [List.cons.injEq, and_true] at e3
      subst e3
      rw [Try.cEx] at hel
      unfold maxLen at hcm
      have hex : ∀ i, i < len → ∃ (t : Tm) (cs' : List Value), cs'.length = 4 ∧ (∀ j u, cs'[j]? = some u → W.cell? (a.add (i * 4 + j)) = some u) ∧ Lies W W.heap.size (n' + 1) t cs' := fun i hi => by
        have h1 := hel i hi
        obtain ⟨z, hz⟩ := ex_some h1 (by omega)
        rw [Option.bind_eq_some_iff] at hz
        obtain ⟨cs', hcs, htr⟩ := hz
        obtain ⟨t, ht⟩ := lies_of n' htr
        obtain ⟨_, hl', hat⟩ := World.cells?_some hcs
        refine ⟨t, cs', hl', fun j u hu => ?_, ht⟩
        have hj : j < 4 := by rw [← hl']; exact (List.getElem?_eq_some_iff.1 hu).1
        rw [← Mem.add_add, hat j hj]; exact hu
      obtain ⟨f, hfs⟩ : ∃ f : Nat → Tm, ∀ i, i < len → ∃ cs' : List Value, cs'.length = 4 ∧ (∀ j u, cs'[j]? = some u → W.cell? (a.add (i * 4 + j)) = some u) ∧ Lies W W.heap.size (n' + 1) (f i) cs' :=
        ⟨fun i => if h : i < len then Classical.choose (hex i h) else .mk 0 0 ⟨#[]⟩ [], fun i hi => by
          simp only [hi, dif_pos]; exact Classical.choose_spec (hex i hi)⟩
      refine ⟨.mk op k nm ((List.range len).map f), ⟨b0, b1, w2, by simp [Tm.args]; omega⟩, some a, cap, by simp [tmCells, Tm.op, Tm.n, Tm.name, Tm.args], fun hpos => ⟨a, rfl, ?_, fun i x hx => ?_⟩⟩
      · simp only [Tm.args, List.length_map, List.length_range] at hpos
        obtain ⟨cs', hl', hc, _⟩ := hfs 0 hpos
        have := hc 0 _ (List.getElem?_eq_getElem (by omega))
        have := World.block_lt_of_cell? W _ this
        rwa [add_block] at this
      · simp only [Tm.args] at hx
        rw [List.getElem?_map] at hx
        have hi : i < len := by
          rcases Nat.lt_or_ge i len with h | h
          · exact h
          · rw [List.getElem?_eq_none (by simpa using h)] at hx; cases hx
        rw [List.getElem?_range hi] at hx
        cases hx
        obtain ⟨cs', hl', hc, hL⟩ := hfs i hi
        exact ⟨cs', hl', hc, hL.deeper (by omega)⟩
  termination_by m => m
  decreasing_by omega
end
end Go.Proofs.Ytnngmpimobolpaa
