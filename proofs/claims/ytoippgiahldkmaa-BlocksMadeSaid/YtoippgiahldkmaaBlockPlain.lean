/- Layer 21 (blocks), plain: what blocks ask of lines. No program in sight. -/
import Derived.Test.YtoippgiahldkmaaCondMini
import Derived.Test.YtoippgiahldkmaaBigCells
import Derived.Laws.MakeOwn
namespace Go.Proofs.Ytoippgiahldkmaa
open Go.RowKit Mem
set_option linter.unusedVariables false
def insB (L : Ln) : Bool := L.kind == 1 || L.kind == 2
def itB (L : Ln) : Bool := L.kind == 1 && L.op == 42
/-- One line: what is asked of it, and what is still to be asked. -/
def aStep (s : List Int × List Int) (L : Ln) : List Int × List Int :=
  if insB L then (match s.2 with
    | c :: l => (s.1 ++ [c], l)
    | [] => (s.1 ++ [-1], if itB L then condsL L.cond L.imm else []))
  else (s.1 ++ [-1], s.2)
def aSt (ls : List Ln) : List Int × List Int := ls.foldl aStep ([], [])
theorem aSt_snoc {ls : List Ln} {k : Nat} {L : Ln} (h : ls[k]? = some L) : aSt (ls.take (k + 1)) = aStep (aSt (ls.take k)) L := by
  rw [List.take_add_one, h]; unfold aSt; simp
theorem aStep_out {s : List Int × List Int} {L : Ln} (h : insB L = false) : aStep s L = (s.1 ++ [-1], s.2) := by unfold aStep; rw [h]; rfl
theorem aStep_in {o l : List Int} {c : Int} {L : Ln} (h : insB L = true) : aStep (o, c :: l) L = (o ++ [c], l) := by unfold aStep; rw [h]; rfl
theorem aStep_it {o : List Int} {L : Ln} (h : insB L = true) (h1 : itB L = true) : aStep (o, []) L = (o ++ [-1], condsL L.cond L.imm) := by unfold aStep; rw [h, h1]; rfl
theorem aStep_no {o : List Int} {L : Ln} (h : insB L = true) (h1 : itB L = false) : aStep (o, []) L = (o ++ [-1], []) := by unfold aStep; rw [h, h1]; rfl
theorem condsL_len (c m : Int) : (condsL c m).length ≤ 4 := by
  by_cases h : c < 0 ∨ 14 < c ∨ m < 1 ∨ 15 < m
  · rw [condsL_no h]; simp
  · have := (by decide +kernel : ∀ c : Fin 15, ∀ m : Fin 15, (condsL (c.val : Int) ((m.val : Int) + 1)).length ≤ 4) ⟨c.toNat, by omega⟩ ⟨(m - 1).toNat, by omega⟩
    simp only at this
    rwa [show ((c.toNat : Nat) : Int) = c by omega, show (((m - 1).toNat : Nat) : Int) + 1 = m by omega] at this
theorem condsL_bd {c m x : Int} (hx : x ∈ condsL c m) : 0 ≤ x ∧ x ≤ 14 := by
  by_cases h : c < 0 ∨ 14 < c ∨ m < 1 ∨ 15 < m
  · rw [condsL_no h] at hx; cases hx
  · have := (by decide +kernel : ∀ c : Fin 15, ∀ m : Fin 15, ∀ x ∈ condsL (c.val : Int) ((m.val : Int) + 1), 0 ≤ x ∧ x ≤ 14) ⟨c.toNat, by omega⟩ ⟨(m - 1).toNat, by omega⟩
    simp only at this
    rw [show ((c.toNat : Nat) : Int) = c by omega, show (((m - 1).toNat : Nat) : Int) + 1 = m by omega] at this
    exact this x hx
/-- The numbers that blocks ask are conditions. -/
def AskOk (s : List Int × List Int) : Prop := (∀ x ∈ s.1, -1 ≤ x ∧ x ≤ 14) ∧ (∀ x ∈ s.2, 0 ≤ x ∧ x ≤ 14) ∧ s.2.length ≤ 4
theorem askOk_step {s : List Int × List Int} (h : AskOk s) (L : Ln) : AskOk (aStep s L) := by
  obtain ⟨o, l⟩ := s
  obtain ⟨h1, h2, h3⟩ := h
  simp only at h1 h2 h3
  have hm : ∀ x ∈ o ++ [(-1 : Int)], -1 ≤ x ∧ x ≤ 14 := fun x hx => by
    rcases List.mem_append.1 hx with hx | hx
    · exact h1 x hx
    · rw [List.mem_singleton.1 hx]; omega
  cases hi : insB L with
  | false => rw [aStep_out hi]; exact ⟨hm, h2, h3⟩
  | true =>
    cases l with
    | cons c l =>
      rw [aStep_in hi]
      refine ⟨fun x hx => ?_, fun x hx => h2 x (List.mem_cons_of_mem _ hx), by simp at h3 ⊢; omega⟩
      rcases List.mem_append.1 hx with hx | hx
      · exact h1 x hx
      · rw [List.mem_singleton.1 hx]; have := h2 c (by simp); omega
    | nil =>
      cases ht : itB L with
      | true => rw [aStep_it hi ht]; exact ⟨hm, fun x hx => condsL_bd hx, condsL_len _ _⟩
      | false => rw [aStep_no hi ht]; exact ⟨hm, (fun x hx => by cases hx), by simp⟩
theorem askOk_all (ls : List Ln) : AskOk (aSt ls) := by
  unfold aSt
  suffices h : ∀ (ls : List Ln) s, AskOk s → AskOk (ls.foldl aStep s) from h ls _ ⟨(fun x hx => by cases hx), (fun x hx => by cases hx), by simp⟩
  intro ls
  induction ls with
  | nil => intro s h; exact h
  | cons L ls ih => intro s h; exact ih _ (askOk_step h L)
theorem aStep_len (s : List Int × List Int) (L : Ln) : (aStep s L).1.length = s.1.length + 1 := by
  obtain ⟨o, l⟩ := s
  cases hi : insB L with
  | false => rw [aStep_out hi]; simp
  | true =>
    cases l with
    | cons c l => rw [aStep_in hi]; simp
    | nil =>
      cases ht : itB L with
      | true => rw [aStep_it hi ht]; simp
      | false => rw [aStep_no hi ht]; simp
theorem aSt_len (ls : List Ln) : (aSt ls).1.length = ls.length := by
  unfold aSt
  suffices h : ∀ (ls : List Ln) s, (ls.foldl aStep s).1.length = s.1.length + ls.length by
    have := h ls ([], []); simpa using this
  intro ls
  induction ls with
  | nil => intro s; rfl
  | cons L ls ih => intro s; show (ls.foldl aStep (aStep s L)).1.length = _; rw [ih, aStep_len]; simp; omega
/-- What is still to be asked, in memory. -/
def LeftAt (w : World) (O : Nat) (A : Option Addr) (n : Nat) (l : List Int) : Prop := l.length = n ∧ ∀ (j : Nat) z, l[j]? = some z → ∃ b o, A = some ⟨b, o, none⟩ ∧ b ≠ O ∧ b < w.heap.size ∧ w.cell? ⟨b, o + j, none⟩ = some (.int .i64 z)
theorem LeftAt.nil (w : World) (O : Nat) (A : Option Addr) : LeftAt w O A 0 [] := ⟨rfl, fun j z h => by cases h⟩
theorem LeftAt.keep {w w' : World} {O n : Nat} {A : Option Addr} {l : List Int} (h : LeftAt w O A n l) (hs : w.heap.size ≤ w'.heap.size) (hc : ∀ b o, b ≠ O → b < w.heap.size → w'.cell? ⟨b, o, none⟩ = w.cell? ⟨b, o, none⟩) : LeftAt w' O A n l :=
  ⟨h.1, fun j z hj => by
    obtain ⟨b, o, e, hb, hl, hcell⟩ := h.2 j z hj
    exact ⟨b, o, e, hb, by omega, (hc b _ hb hl).trans hcell⟩⟩
/-- A row of ints in the block O. -/
def Arr (w : World) (O : Nat) (os : List Int) : Prop := w.heap[O]? = some (.cells (ints os).toArray 3 (0, 0))
theorem Arr.lt {w : World} {O : Nat} {os : List Int} (h : Arr w O os) : O < w.heap.size := by
  rcases Nat.lt_or_ge O w.heap.size with hh | hh
  · exact hh
  · unfold Arr at h; rw [Array.getElem?_eq_none hh] at h; cases h
theorem Arr.cell {w : World} {O : Nat} {os : List Int} (h : Arr w O os) {k : Nat} {z : Int} (hk : os[k]? = some z) : w.cell? ⟨O, k, none⟩ = some (.int .i64 z) := by
  rw [cell_of_row _ _ _ (ints os).toArray _ (0, 0) h, List.getElem?_toArray]; unfold ints; rw [List.getElem?_map, hk]; rfl
theorem Arr.frozen {w : World} {O : Nat} {os : List Int} (h : Arr w O os) (k : Nat) : w.frozen? ⟨O, k, none⟩ = false := by
  unfold Arr at h; simp [World.frozen?, h]
theorem Arr.set {w : World} {O : Nat} {os : List Int} (h : Arr w O os) (k : Nat) (x : Int) : Arr (w.setCell ⟨O, k, none⟩ (.int .i64 x)) O (os.set k x) := by
  unfold Arr at h ⊢
  unfold World.setCell
  simp only [Option.isSome_none, Bool.false_eq_true, if_false]
  rw [Array.getElem?_modify, if_pos rfl, h]
  simp [ints, List.map_set]
theorem Arr.below {w w' : World} {O : Nat} {os : List Int} (h : Arr w O os) (hb : Below w.heap.size w w') : Arr w' O os := by
  unfold Arr; rw [hb.block O h.lt]; exact h
theorem Arr.ints_ {w : World} {O : Nat} {os : List Int} (h : Arr w O os) : Ints w w.heap.size (some ⟨O, 0, none⟩) os.length os := by
  refine ⟨by rw [ints_len]; omega, fun _ => ⟨_, rfl, h.lt, fun j u hu => ?_⟩⟩
  obtain ⟨z, hz, rfl⟩ := ints_get hu
  rw [Addr.add_mid, Nat.zero_add]; exact h.cell hz
theorem made_ints (n : Nat) : madeCells #[Value.int .i64 0] n = (ints (List.replicate n 0)).toArray := by
  apply Array.ext
  · simp [madeCells, ints]
  · intro i h1 h2
    simp [madeCells, ints, Nat.mod_one]
theorem fill_step {os : List Int} {k n : Nat} (h : os.length = k) (hk : k < n) (x : Int) : (os ++ List.replicate (n - k) 0).set k x = (os ++ [x]) ++ List.replicate (n - (k + 1)) 0 := by
  rw [show n - k = (n - (k + 1)) + 1 by omega, List.replicate_succ, List.set_append, if_neg (by omega), show k - os.length = 0 by omega]
  simp
theorem fill_at {os : List Int} {k n : Nat} (h : os.length = k) (hk : k < n) : (os ++ List.replicate (n - k) 0)[k]? = some 0 := by
  rw [List.getElem?_append_right (by omega), show k - os.length = 0 by omega, show n - k = (n - (k + 1)) + 1 by omega, List.replicate_succ]; rfl
end Go.Proofs.Ytoippgiahldkmaa
