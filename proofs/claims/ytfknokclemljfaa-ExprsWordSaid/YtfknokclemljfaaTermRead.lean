/- Reading terms in plain words; the reader in memory; a world in which only the reader has moved. -/
import Derived.Test.YtfknokclemljfaaTermPlain
import Derived.Test.YtfknokclemljfaaTermDeep
import Derived.Test.YtfknokclemljfaaLexToks
namespace Go.Proofs.Ytfknokclemljfaa
open Go.RowKit Mem
set_option linter.unusedVariables false
/-- A term whose parts lie in blocks of a kind. -/
def LiesF (w : World) (K : Nat → Prop) (B : Nat) : Nat → Tm → List Value → Prop
  | 0, _, _ => False
  | d + 1, t, cs => t.ok ∧ ∃ (A : Option Addr) (c : Nat), cs = tmCells t A c ∧
      (0 < t.args.length → ∃ ad, A = some ad ∧ K ad.block ∧ ad.block < B ∧ ∀ i x, t.args[i]? = some x → ∃ cs', cs'.length = 4 ∧ (∀ j u, cs'[j]? = some u → w.cell? (ad.add (i * 4 + j)) = some u) ∧ LiesF w K B d x cs')
section
variable {w w' : World} {K K' : Nat → Prop} {B B' d : Nat} {t : Tm} {cs : List Value}
theorem LiesF.lies : ∀ {d : Nat} {t : Tm} {cs : List Value}, LiesF w K B d t cs → Lies w B d t cs
  | d + 1, t, cs, h => by
    obtain ⟨ho, A, c, e, ha⟩ := h
    refine ⟨ho, A, c, e, fun hn => ?_⟩
    obtain ⟨ad, eA, _, hb, hx⟩ := ha hn
    refine ⟨ad, eA, hb, fun i x hi => ?_⟩
    obtain ⟨cs', hl, hc, hr⟩ := hx i x hi
    exact ⟨cs', hl, hc, LiesF.lies hr⟩
theorem LiesF.keep (hk : ∀ p : Addr, K p.block → p.block < B → w'.cell? p = w.cell? p) (hL : ∀ k, k < B → K k → K' k) (hB : B ≤ B') : ∀ {d : Nat} {t : Tm} {cs : List Value}, LiesF w K B d t cs → LiesF w' K' B' d t cs
  | d + 1, t, cs, h => by
    obtain ⟨ho, A, c, e, ha⟩ := h
    refine ⟨ho, A, c, e, fun hn => ?_⟩
    obtain ⟨ad, eA, hl, hb, hx⟩ := ha hn
    refine ⟨ad, eA, hL _ hb hl, Nat.lt_of_lt_of_le hb hB, fun i x hi => ?_⟩
    obtain ⟨cs', hl', hc, hr⟩ := hx i x hi
    exact ⟨cs', hl', fun j u hu => (hk _ (by rw [add_block]; exact hl) (by rw [add_block]; exact hb)).trans (hc j u hu), LiesF.keep hk hL hB hr⟩
theorem LiesF.deeper : ∀ {d d' : Nat} {t : Tm} {cs : List Value}, LiesF w K B d t cs → d ≤ d' → LiesF w K B d' t cs
  | d + 1, d' + 1, t, cs, h, hd => by
    obtain ⟨ho, A, c, e, ha⟩ := h
    refine ⟨ho, A, c, e, fun hn => ?_⟩
    obtain ⟨ad, eA, hl, hb, hx⟩ := ha hn
    refine ⟨ad, eA, hl, hb, fun i x hi => ?_⟩
    obtain ⟨cs', hl', hc, hr⟩ := hx i x hi
    exact ⟨cs', hl', hc, LiesF.deeper hr (by omega)⟩
  | d + 1, 0, t, cs, h, hd => by omega
theorem LiesF.leaf {op n : Int} {nm : ByteArray} (ho : (Tm.mk op n nm []).ok) : LiesF w K B 1 (.mk op n nm []) (tmCells (.mk op n nm []) none 0) :=
  ⟨ho, none, 0, rfl, fun h => by simp [Tm.args] at h⟩
/-- A term of one part that was just laid. -/
theorem LiesF.one {op n : Int} {nm : ByteArray} {x : Tm} {A : Option Addr} {c c' b : Nat} (hx : LiesF w K B d x (tmCells x A c)) (ho : (Tm.mk op n nm [x]).ok) (hl : K b) (hb : b < B')  (hB : B ≤ B')
    (h0 : w.cell? ⟨b, 0, none⟩ = some (.int .i64 x.op)) (h1 : w.cell? ⟨b, 1, none⟩ = some (.int .i64 x.n)) (h2 : w.cell? ⟨b, 2, none⟩ = some (.string x.name)) (h3 : w.cell? ⟨b, 3, none⟩ = some (.slice A x.args.length c)) :
    LiesF w K B' (d + 1) (.mk op n nm [x]) (tmCells (.mk op n nm [x]) (some ⟨b, 0, none⟩) c') := by
  refine ⟨ho, some ⟨b, 0, none⟩, c', rfl, fun _ => ⟨⟨b, 0, none⟩, rfl, hl, hb, fun i y hi => ?_⟩⟩
  match i, hi with
  | 0, hi =>
    cases hi
    refine ⟨tmCells x A c, rfl, fun j u hu => ?_, hx.keep (fun _ _ _ => rfl) (fun _ _ h => h) hB⟩
    match j, hu with
    | 0, hu => cases hu; exact h0
    | 1, hu => cases hu; exact h1
    | 2, hu => cases hu; exact h2
    | 3, hu => cases hu; exact h3
/-- A term of two parts that was just laid. -/
theorem LiesF.two {op n : Int} {nm : ByteArray} {x y : Tm} {A A2 : Option Addr} {c c2 c' b : Nat} (hx : LiesF w K B d x (tmCells x A c)) (hy : LiesF w K B d y (tmCells y A2 c2)) (ho : (Tm.mk op n nm [x, y]).ok) (hl : K b) (hb : b < B')  (hB : B ≤ B')
    (h0 : w.cell? ⟨b, 0, none⟩ = some (.int .i64 x.op)) (h1 : w.cell? ⟨b, 1, none⟩ = some (.int .i64 x.n)) (h2 : w.cell? ⟨b, 2, none⟩ = some (.string x.name)) (h3 : w.cell? ⟨b, 3, none⟩ = some (.slice A x.args.length c))
    (g0 : w.cell? ⟨b, 4, none⟩ = some (.int .i64 y.op)) (g1 : w.cell? ⟨b, 5, none⟩ = some (.int .i64 y.n)) (g2 : w.cell? ⟨b, 6, none⟩ = some (.string y.name)) (g3 : w.cell? ⟨b, 7, none⟩ = some (.slice A2 y.args.length c2)) :
    LiesF w K B' (d + 1) (.mk op n nm [x, y]) (tmCells (.mk op n nm [x, y]) (some ⟨b, 0, none⟩) c') := by
  refine ⟨ho, some ⟨b, 0, none⟩, c', rfl, fun _ => ⟨⟨b, 0, none⟩, rfl, hl, hb, fun i z hi => ?_⟩⟩
  match i, hi with
  | 0, hi =>
    cases hi
    refine ⟨tmCells x A c, rfl, fun j u hu => ?_, hx.keep (fun _ _ _ => rfl) (fun _ _ h => h) hB⟩
    match j, hu with
    | 0, hu => cases hu; exact h0
    | 1, hu => cases hu; exact h1
    | 2, hu => cases hu; exact h2
    | 3, hu => cases hu; exact h3
  | 1, hi =>
    cases hi
    refine ⟨tmCells y A2 c2, rfl, fun j u hu => ?_, hy.keep (fun _ _ _ => rfl) (fun _ _ h => h) hB⟩
    match j, hu with
    | 0, hu => cases hu; exact g0
    | 1, hu => cases hu; exact g1
    | 2, hu => cases hu; exact g2
    | 3, hu => cases hu; exact g3
end
/-- A term that is not deep lies so deep. -/
theorem Lies.shallow {w : World} {B : Nat} : ∀ {m d : Nat} {t : Tm} {cs : List Value}, Lies w B d t cs → deepF m t = false → Lies w B m t cs
  | 0, _, _, _, _, h => by cases h
  | m + 1, 0, _, _, hl, _ => hl.elim
  | m + 1, d + 1, t, cs, hl, h => by
    obtain ⟨ho, A, c, e, ha⟩ := hl
    unfold deepF at h
    refine ⟨ho, A, c, e, fun hn => ?_⟩
    obtain ⟨ad, eA, hb, hx⟩ := ha hn
    refine ⟨ad, eA, hb, fun i x hi => ?_⟩
    obtain ⟨cs', hl', hc, hr⟩ := hx i x hi
    refine ⟨cs', hl', hc, Lies.shallow hr ?_⟩
    have := List.any_eq_false.1 h x (List.mem_of_getElem? hi)
    simpa using this
/-! The reader. -/
def tkAt (ks : List Lx.Tk) (i : Nat) : Lx.Tk := ks.getD i ⟨0, 0, ⟨#[]⟩⟩
/-- Is a sign at hand? -/
def isSign (ks : List Lx.Tk) (i : Nat) (s : ByteArray) : Bool := (tkAt ks i).kind == 3 && (tkAt ks i).text == s
/-- The op of a level at hand; 0: none. -/
def opAt (ks : List Lx.Tk) (l i : Nat) : Int :=
  if l = 1 then (if isSign ks i ⟨#[124]⟩ = true then 9 else 0)
  else if l = 2 then (if isSign ks i ⟨#[38]⟩ = true then 8 else 0)
  else if l = 3 then (if isSign ks i ⟨#[60, 60]⟩ = true then 10 else if isSign ks i ⟨#[62, 62]⟩ = true then 11 else 0)
  else if l = 4 then (if isSign ks i ⟨#[43]⟩ = true then 5 else if isSign ks i ⟨#[45]⟩ = true then 6 else 0)
  else (if isSign ks i ⟨#[42]⟩ = true then 7 else 0)
inductive Rm where
  | un
  | term (l : Nat)
  | loop (l : Nat) (e : Tm)
def e0 : ByteArray := ⟨#[]⟩
/-- What is read from a place on, and the place behind it; none: it is no term, or so many steps are too few. -/
def rd (ks : List Lx.Tk) : Nat → Rm → Nat → Option (Tm × Nat)
  | 0, _, _ => none
  | f + 1, .term l, i => if l = 6 then rd ks f .un i else match rd ks f (.term (l + 1)) i with
    | none => none
    | some (e, k) => rd ks f (.loop l e) k
  | f + 1, .loop l e, k => if opAt ks l k = 0 then some (e, k) else match rd ks f (.term (l + 1)) (k + 1) with
    | none => none
    | some (x, m) => rd ks f (.loop l (.mk (opAt ks l k) 0 e0 [e, x])) m
  | f + 1, .un, i =>
    if isSign ks i ⟨#[45]⟩ = true then (rd ks f .un (i + 1)).map fun (x, j) => (.mk 3 0 e0 [x], j)
    else if isSign ks i ⟨#[126]⟩ = true then (rd ks f .un (i + 1)).map fun (x, j) => (.mk 4 0 e0 [x], j)
    else if isSign ks i ⟨#[40]⟩ = true then match rd ks f (.term 1) (i + 1) with
      | none => none
      | some (x, j) => if isSign ks j ⟨#[41]⟩ = true then some (x, j + 1) else none
    else if (tkAt ks i).kind = 2 then (if formV 1 (tkAt ks i).n e0 0 = true then some (.mk 1 (tkAt ks i).n e0 [], i + 1) else none)
    else if (tkAt ks i).kind = 1 then (if formV 2 0 (tkAt ks i).text 0 = true then some (.mk 2 0 (tkAt ks i).text [], i + 1) else none)
    else none
theorem sign_lt {ks : List Lx.Tk} {i : Nat} {s : ByteArray} (h : isSign ks i s = true) : i < ks.length := by
  unfold isSign tkAt at h
  rcases Nat.lt_or_ge i ks.length with h1 | h1
  · exact h1
  · rw [List.getD_eq_getElem?_getD, List.getElem?_eq_none h1] at h
    simp at h
theorem op_lt {ks : List Lx.Tk} {l i : Nat} (h : opAt ks l i ≠ 0) : i < ks.length := by
  unfold opAt at h
  repeat' split at h
  all_goals first | exact sign_lt ‹_› | exact absurd rfl h
theorem kind_lt {ks : List Lx.Tk} {i : Nat} (h : (tkAt ks i).kind = 1 ∨ (tkAt ks i).kind = 2) : i < ks.length := by
  unfold tkAt at h
  rcases Nat.lt_or_ge i ks.length with h1 | h1
  · exact h1
  · rw [List.getD_eq_getElem?_getD, List.getElem?_eq_none h1] at h
    simp at h
def Fwd (ks : List Lx.Tk) (m : Rm) (i j : Nat) : Prop := j ≤ ks.length ∧ match m with
  | .loop _ _ => i ≤ j
  | _ => i < j
theorem rd_fwd {ks : List Lx.Tk} : ∀ {f : Nat} {m : Rm} {i : Nat} {t : Tm} {j : Nat}, rd ks f m i = some (t, j) → i ≤ ks.length → Fwd ks m i j
  | f + 1, .term l, i, t, j, h, hi => by
    unfold rd at h
    split at h
    · have h1 := rd_fwd h hi
      exact ⟨h1.1, h1.2⟩
    · split at h
      · cases h
      · rename_i e k he
        have h1 := rd_fwd he hi
        have h2 := rd_fwd h h1.1
        exact ⟨h2.1, Nat.lt_of_lt_of_le h1.2 h2.2⟩
  | f + 1, .loop l e, k, t, j, h, hi => by
    unfold rd at h
    split at h
    · cases h; exact ⟨hi, Nat.le_refl _⟩
    · rename_i ho
      split at h
      · cases h
      · rename_i x m hx
        have h1 := rd_fwd hx (op_lt ho)
        have h2 := rd_fwd h h1.1
        refine ⟨h2.1, ?_⟩
        have a1 : k + 1 < m := h1.2
        have a2 : m ≤ j := h2.2
        show k ≤ j
        omega
  | f + 1, .un, i, t, j, h, hi => by
    unfold rd at h
    split at h
    · rename_i hs
      cases hx : rd ks f .un (i + 1) with
      | none => rw [hx] at h; cases h
      | some y =>
        rw [hx] at h
        obtain ⟨x, m⟩ := y
        cases h
        have h1 := rd_fwd hx (sign_lt hs)
        exact ⟨h1.1, Nat.lt_of_succ_lt h1.2⟩
    · split at h
      · rename_i hs
        cases hx : rd ks f .un (i + 1) with
        | none => rw [hx] at h; cases h
        | some y =>
          rw [hx] at h
          obtain ⟨x, m⟩ := y
          cases h
          have h1 := rd_fwd hx (sign_lt hs)
          exact ⟨h1.1, Nat.lt_of_succ_lt h1.2⟩
      · split at h
        · rename_i hs
          split at h
          · cases h
          · rename_i x m hx
            split at h
            · rename_i hc
              cases h
              have h1 := rd_fwd hx (sign_lt hs)
              have a1 : i + 1 < m := h1.2
              exact ⟨sign_lt hc, show i < m + 1 by omega⟩
            · cases h
        · split at h
          · rename_i hk
            split at h
            · cases h; exact ⟨kind_lt (.inr hk), Nat.lt_succ_self _⟩
            · cases h
          · split at h
            · rename_i hk
              split at h
              · cases h; exact ⟨kind_lt (.inl hk), Nat.lt_succ_self _⟩
              · cases h
            · cases h
/-- The reader is block g, at place i of the tokens ks. -/
structure Rdr (w : World) (g : Nat) (A : Option Addr) (n c : Nat) (ks : List Lx.Tk) (i : Nat) : Prop where
  toks : Toks w g A n ks
  lt : g < w.heap.size
  c0 : w.cell? ⟨g, 0, none⟩ = some (.slice A n c)
  c1 : w.cell? ⟨g, 1, none⟩ = some (.int .i64 i)
  fz : w.frozen? ⟨g, 1, none⟩ = false
/-- From w to w' only block g has changed, beside blocks that are new. -/
structure Mv (g : Nat) (w w' : World) : Prop where
  low : Below g w w'
  block : ∀ k : Nat, k < w.heap.size → k ≠ g → w'.heap[k]? = w.heap[k]?
section
variable {w w1 w2 w' : World} {g n c i j : Nat} {A : Option Addr} {ks : List Lx.Tk}
theorem Mv.size (h : Mv g w w') : w.heap.size ≤ w'.heap.size := h.low.size
theorem Mv.cell (h : Mv g w w') (p : Addr) (hp : p.block < w.heap.size) (hg : p.block ≠ g) : w'.cell? p = w.cell? p := World.cell?_of_block (w := w) (h.block p.block hp hg)
theorem Mv.froz (h : Mv g w w') (p : Addr) (hp : p.block < w.heap.size) (hg : p.block ≠ g) : w'.frozen? p = w.frozen? p := World.frozen?_of_block (w := w) (h.block p.block hp hg)
theorem Mv.refl : Mv g w w := ⟨Below.refl _ _, fun _ _ _ => rfl⟩
theorem Mv.of_below (h : Below w.heap.size w w') (hg : g < w.heap.size) : Mv g w w' :=
  ⟨h.mono (by omega), fun k hk _ => h.block k hk⟩
theorem Mv.trans (h : Mv g w w1) (k : Mv g w1 w2) : Mv g w w2 :=
  ⟨h.low.trans k.low, fun p hp hg => (k.block p (Nat.lt_of_lt_of_le hp h.size) hg).trans (h.block p hp hg)⟩
theorem Mv.set (v : Value) : Mv g w (w.setCell ⟨g, 1, none⟩ v) :=
  ⟨(Below.refl g _).setCell (p := ⟨g, 1, none⟩) (Nat.le_refl g) v, fun k _ hp => Below.heap_setCell w ⟨g, 1, none⟩ v k hp⟩
theorem Mv.below (h : Mv g w w') {B : Nat} (hB : B ≤ g) : Below B w w' := h.low.mono hB
theorem Rdr.on (h : Rdr w g A n c ks i) (hb : Below w.heap.size w w') : Rdr w' g A n c ks i :=
  ⟨h.toks.below (hb.mono (Nat.le_of_lt h.lt)), Nat.lt_of_lt_of_le h.lt hb.size, (hb.cell (p := ⟨g, 0, none⟩) h.lt).trans h.c0, (hb.cell (p := ⟨g, 1, none⟩) h.lt).trans h.c1, (hb.frozen (p := ⟨g, 1, none⟩) h.lt).trans h.fz⟩
theorem Rdr.set (h : Rdr w g A n c ks i) (k : Nat) : Rdr (w.setCell ⟨g, 1, none⟩ (.int .i64 k)) g A n c ks k :=
  ⟨h.toks.below ((Below.refl g _).setCell (p := ⟨g, 1, none⟩) (Nat.le_refl g) _), by simpa using h.lt, by rw [World.cell?_setCell_other _ _ _ _ (by simp)]; exact h.c0, World.cell?_setCell_same _ _ _ h.c1, by rw [World.frozen?_setCell]; exact h.fz⟩
theorem LiesF.mv {K : Nat → Prop} {d : Nat} {t : Tm} {cs : List Value} (h : LiesF w K w.heap.size d t cs) (hm : Mv g w w') (hL : ¬ K g) : LiesF w' K w'.heap.size d t cs :=
  h.keep (fun p h1 h2 => hm.cell p h2 (fun e => hL (e ▸ h1))) (fun _ _ h => h) hm.size
end
/-- Four cells stored into a box. -/
theorem set4 {w : World} {b : Nat} {a0 a1 a2 a3 u0 u1 u2 u3 : Value} {T : TypeId} (h : w.heap[b]? = some (.cells #[a0, a1, a2, a3] T (0, 0))) :
    ((((w.setCell ⟨b, 0, none⟩ u0).setCell ⟨b, 1, none⟩ u1).setCell ⟨b, 2, none⟩ u2).setCell ⟨b, 3, none⟩ u3).heap[b]? = some (.cells #[u0, u1, u2, u3] T (0, 0)) := by
  simp [World.setCell, Array.getElem?_modify, h]
theorem set4_other {w : World} {b k : Nat} {u0 u1 u2 u3 : Value} (h : k ≠ b) :
    ((((w.setCell ⟨b, 0, none⟩ u0).setCell ⟨b, 1, none⟩ u1).setCell ⟨b, 2, none⟩ u2).setCell ⟨b, 3, none⟩ u3).heap[k]? = w.heap[k]? := by
  rw [Below.heap_setCell _ _ _ _ h, Below.heap_setCell _ _ _ _ h, Below.heap_setCell _ _ _ _ h, Below.heap_setCell _ _ _ _ h]
theorem set4_size {w : World} {b : Nat} {u0 u1 u2 u3 : Value} : ((((w.setCell ⟨b, 0, none⟩ u0).setCell ⟨b, 1, none⟩ u1).setCell ⟨b, 2, none⟩ u2).setCell ⟨b, 3, none⟩ u3).heap.size = w.heap.size := by simp
end Go.Proofs.Ytfknokclemljfaa
