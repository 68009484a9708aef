/- Slices of lines whose terms lie in memory: the words, and how an argument is read so. -/
import Derived.Test.YtnngmpimobolpaaSymPlain
import Derived.Test.YtnngmpimobolpaaOpenLines
import Derived.Test.YtnngmpimobolpaaTerm
namespace Go.Proofs.Ytnngmpimobolpaa
open Go.RowKit Mem
set_option linter.unusedVariables false
/-- The slice at A of n lines reads as ls, the term of each lies in memory. -/
structure TLines (w : World) (B : Nat) (A : Option Addr) (n d : Nat) (ls : List (Ln × Tm)) : Prop where
  lines : Lines w B A n (ls.map (·.1))
  terms : ∀ L t, (L, t) ∈ ls → Lies w B d t [.int .i64 L.eop, .int .i64 L.en, .string L.ename, L.ea]
  sizes : ∀ L t, (L, t) ∈ ls → L.lab.size ≤ maxLen ∧ L.ref.size ≤ maxLen
section
variable {w w' : World} {B B' n d : Nat} {A : Option Addr} {ls : List (Ln × Tm)}
theorem TLines.below (h : TLines w B A n d ls) (hb : Below B w w') : TLines w' B A n d ls := ⟨h.lines.below hb, fun L t hm => (h.terms L t hm).below hb, h.sizes⟩
theorem TLines.more (h : TLines w B A n d ls) (hB : B ≤ B') : TLines w B' A n d ls := ⟨h.lines.more hB, fun L t hm => (h.terms L t hm).more hB, h.sizes⟩
theorem TLines.len (h : TLines w B A n d ls) : ls.length = n := by have := h.lines.len; simpa using this
/-- Line k, its term in memory. -/
theorem TLines.get {k : Nat} (h : TLines w B A n d ls) (hk : k < n) : ∃ ad p L t A' c', A = some ad ∧ ad.add (k * 19) = p ∧ p.block < B ∧ ls[k]? = some (L, t) ∧ L.ok ∧ (∀ j u, L.cells[j]? = some u → w.cell? (p.add j) = some u) ∧
    L.eop = t.op ∧ L.en = t.n ∧ L.ename = t.name ∧ L.ea = .slice A' t.args.length c' ∧ Lies w B d t (tmCells t A' c') ∧ L.lab.size ≤ maxLen ∧ L.ref.size ≤ maxLen := by
  obtain ⟨ad, p, L, e, hp, hb, hL, hok, hc⟩ := h.lines.get hk
  rw [List.getElem?_map] at hL
  cases hQ : ls[k]? with
  | none => rw [hQ] at hL; cases hL
  | some Q =>
    obtain ⟨L', t⟩ := Q
    rw [hQ] at hL
    cases hL
    have hm := List.mem_of_getElem? hQ
    have hl := h.terms _ _ hm
    obtain ⟨_, A', c', e2⟩ := hl.form
    unfold tmCells at e2
    simp only [List.cons.injEq, Value.int.injEq, Value.string.injEq, and_true, true_and] at e2
    have hl2 : Lies w B d t (tmCells t A' c') := by
      unfold tmCells
      rw [← e2.1, ← e2.2.1, ← e2.2.2.1, ← e2.2.2.2]; exact hl
    exact ⟨ad, p, _, t, A', c', e, hp, hb, rfl, hok, hc, e2.1, e2.2.1, e2.2.2.1, e2.2.2.2, hl2, h.sizes _ _ hm⟩
theorem TLines.on (h : TLines w w.heap.size A n d ls) (hb : Below w.heap.size w w') : TLines w' w'.heap.size A n d ls := (h.below hb).more hb.size
end
namespace Open
open Go.RowKit Go.ChangeShapes Go.WideShapes Go.Deep Mem
section
variable {H : Type} {enc : TypeId × Value → H} {W : World} {base : Nat} {spare : Nat → Bool} {held : Bool}
set_option maxRecDepth 100000 in
theorem line_term {m : Nat} {cs : List Value} {y : DataW H × List MemPlace} (h : DataW.trod enc Try.prog W base spare held m 56 cs = some y) : ∃ (L : Ln) (t : Tm), cs = L.cells ∧ L.ok ∧ L.lab.size ≤ maxLen ∧ L.ref.size ≤ maxLen ∧ Lies W W.heap.size (m + 1) t [.int .i64 L.eop, .int .i64 L.en, .string L.ename, L.ea] := by
  obtain ⟨L, e, hok⟩ := line_of h
  subst e
  obtain ⟨xs, n, hm, _, hl, hxl, hf⟩ := DataW.trod_struct Try.underlying56 h
  have hx : xs.length = 8 := hxl
  have f0 : DataW.trod enc Try.prog W base spare held n 9 ((L.cells.drop 0).take (Try.prog.cellsOf 9)) = xs[0]? := hf 0 _ rfl
  have f4 : DataW.trod enc Try.prog W base spare held n 9 ((L.cells.drop 12).take (Try.prog.cellsOf 9)) = xs[4]? := hf 4 _ rfl
  have f7 : DataW.trod enc Try.prog W base spare held n 54 ((L.cells.drop 15).take (Try.prog.cellsOf 54)) = xs[7]? := hf 7 _ rfl
  rw [cStr] at f0 f4
  rw [cExpr] at f7
  obtain ⟨y0, f0⟩ := some_of f0 (by omega)
  obtain ⟨y4, f4⟩ := some_of f4 (by omega)
  obtain ⟨y7, f7⟩ := some_of f7 (by omega)
  obtain ⟨s0, e0, h0⟩ := str_of (v := .string L.lab) f0
  obtain ⟨s4, e4, h4⟩ := str_of (v := .string L.ref) f4
  cases e0
  cases e4
  obtain ⟨t, ht⟩ := lies_of n f7
  exact ⟨L, t, rfl, hok, h0, h4, Lies.deeper ht (by omega)⟩
/-- A slice of lines with their terms. -/
theorem tlines_of {a : Option Addr} {len cap : Nat} {d : DataW H} {p : List MemPlace} (h : DataW.Trod enc Try.prog W base spare held 32 (.slice a len cap) d p) :
    ∃ (ls : List (Ln × Tm)) (k : Nat), TLines W W.heap.size a len k ls ∧ len ≤ 9223372036854775807 := by
  obtain ⟨fuel, hf⟩ := h
  rcases open_slice Try.underlying32 hf with ⟨hcs, _⟩ | ⟨x, l, c, m, n, D, Pl, hcs, _, hl, hm, hmm, _, hel⟩
  · simp [Value.cells] at hcs
    obtain ⟨rfl, rfl, rfl⟩ := hcs
    exact ⟨[], 0, ⟨Lines.nil, (fun L t h => by cases h), (fun L t h => by cases h)⟩, by omega⟩
  · simp [Value.cells] at hcs
    obtain ⟨rfl, rfl, rfl⟩ := hcs
    have hlm : len ≤ m := by rw [hmm]; split <;> omega
    unfold maxLen at hm
    rw [cLine] at hel
    have hex : ∀ i, i < len → ∃ Q : Ln × Tm, Q.1.ok ∧ (∀ j u, Q.1.cells[j]? = some u → W.cell? (x.add (i * 19 + j)) = some u) ∧ Q.1.lab.size ≤ maxLen ∧ Q.1.ref.size ≤ maxLen ∧ Lies W W.heap.size (n + 1) Q.2 [.int .i64 Q.1.eop, .int .i64 Q.1.en, .string Q.1.ename, Q.1.ea] := fun i hi => by
      obtain ⟨cs', h1, h2⟩ := hel i (by omega)
      obtain ⟨L, t, rfl, hok, hs1, hs2, hlt⟩ := line_term h2
      obtain ⟨_, _, hat⟩ := World.cells?_some h1
      refine ⟨(L, t), hok, fun j u hu => ?_, hs1, hs2, hlt⟩
      have hj : j < 19 := by
        rcases Nat.lt_or_ge j 19 with h | h
        · exact h
        · rw [List.getElem?_eq_none (show L.cells.length ≤ j from h)] at hu; cases hu
      rw [← Mem.add_add, hat j hj]; exact hu
    obtain ⟨f, hfs⟩ : ∃ f : Nat → Ln × Tm, ∀ i, i < len → (f i).1.ok ∧ (∀ j u, (f i).1.cells[j]? = some u → W.cell? (x.add (i * 19 + j)) = some u) ∧ (f i).1.lab.size ≤ maxLen ∧ (f i).1.ref.size ≤ maxLen ∧ Lies W W.heap.size (n + 1) (f i).2 [.int .i64 (f i).1.eop, .int .i64 (f i).1.en, .string (f i).1.ename, (f i).1.ea] :=
      ⟨fun i => if h : i < len then Classical.choose (hex i h) else (⟨⟨#[]⟩, 0, 0, 0, 0, 0, 0, 0, 0, 0, false, 0, ⟨#[]⟩, false, 0, 0, 0, ⟨#[]⟩, .slice none 0 0⟩, .mk 0 0 ⟨#[]⟩ []), fun i hi => by
        simp only [hi, dif_pos]; exact Classical.choose_spec (hex i hi)⟩
    have hmem : ∀ L t, (L, t) ∈ (List.range len).map f → ∃ i, i < len ∧ f i = (L, t) := fun L t hL => by
      obtain ⟨i, hi, e⟩ := List.mem_map.1 hL
      exact ⟨i, by simpa using hi, e⟩
    refine ⟨(List.range len).map f, n + 1, ⟨⟨by simp, fun L hL => ?_, fun hn => ⟨x, rfl, ?_, fun i L hL j u hu => ?_⟩⟩, fun L t hL => ?_, fun L t hL => ?_⟩, by omega⟩
    · rw [List.map_map] at hL
      obtain ⟨i, hi, rfl⟩ := List.mem_map.1 hL
      exact (hfs i (by simpa using hi)).1
    · have := (hfs 0 hn).2.1 0 _ rfl
      have := World.block_lt_of_cell? W _ this
      rwa [add_block] at this
    · rw [List.map_map, List.getElem?_map] at hL
      have hi : i < len := by
        rcases Nat.lt_or_ge i len with h | h
        · exact h
        · rw [List.getElem?_eq_none (by simpa using h)] at hL; cases hL
      rw [List.getElem?_range hi] at hL
      cases hL
      exact (hfs i hi).2.1 j u hu
    · obtain ⟨i, hi, e⟩ := hmem L t hL
      have := (hfs i hi).2.2.2.2
      rw [e] at this; exact this
    · obtain ⟨i, hi, e⟩ := hmem L t hL
      have := (hfs i hi).2.2
      rw [e] at this; exact ⟨this.1, this.2.1⟩
end
end Open
end Go.Proofs.Ytnngmpimobolpaa
