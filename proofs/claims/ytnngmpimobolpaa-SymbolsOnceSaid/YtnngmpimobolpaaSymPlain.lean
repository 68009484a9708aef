/- Names of lines in plain words: all names, their values, the line of a label. -/
import Derived.Test.YtnngmpimobolpaaTermPlain
import Derived.Test.YtnngmpimobolpaaHas
import Derived.Test.YtnngmpimobolpaaLines
namespace Go.Proofs.Ytnngmpimobolpaa
open Go.RowKit Mem
set_option linter.unusedVariables false
/-- The names that a line tells. -/
def ownOf (L : Ln) : List ByteArray := (if L.lab.size = 0 then [] else [L.lab]) ++ (if L.kind = 6 then [L.ref] else [])
def addAll : List ByteArray → List ByteArray → Option (List ByteArray)
  | out, [] => some out
  | out, s :: r => if hasB s out = true then none else addAll (out ++ [s]) r
/-- All names; the error's number, its line. -/
def namesF : Nat → List ByteArray → List Ln → List ByteArray × Int × Int
  | _, out, [] => (out, 0, 0)
  | i, out, L :: r => match addAll out (ownOf L) with
    | none => ([], 5, (i : Int) + 1)
    | some o => namesF (i + 1) o r
def namesOf (ls : List Ln) : List ByteArray × Int × Int := namesF 0 [] ls
/-- The names of the lines that give values, and the values; the error's number, its line. -/
def valsF (d : Nat) : Nat → List ByteArray → List Int → List (Ln × Tm) → List ByteArray × List Int × Int × Int
  | _, ns, vs, [] => (ns, vs, 0, 0)
  | i, ns, vs, (L, t) :: r => if L.kind = 6 then (if (evalR d t ns vs).2 = 0 then valsF d (i + 1) (ns ++ [L.ref]) (vs ++ [(evalR d t ns vs).1]) r else ([], [], (evalR d t ns vs).2, (i : Int) + 1)) else valsF d (i + 1) ns vs r
def valsOf (d : Nat) (ls : List (Ln × Tm)) : List ByteArray × List Int × Int × Int :=
  if (namesOf (ls.map (·.1))).2.1 = 0 then valsF d 0 [] [] ls else ([], [], (namesOf (ls.map (·.1))).2.1, (namesOf (ls.map (·.1))).2.2)
/-- The line of a label; -1: none. -/
def targetOf (ls : List Ln) (nm : ByteArray) : Int := if nm.size = 0 then -1 else match ls.findIdx? (fun L => L.lab == nm) with
  | some i => i
  | none => -1
theorem addAll_app (out l : List ByteArray) (s : ByteArray) : addAll out (l ++ [s]) = (addAll out l).bind fun o => if hasB s o = true then none else some (o ++ [s]) := by
  induction l generalizing out with
  | nil => simp only [List.nil_append, addAll, Option.bind_some]
  | cons x l ih =>
    show addAll out (x :: (l ++ [s])) = _
    simp only [addAll]
    split
    · rfl
    · exact ih _
theorem addAll_nodup {out l o : List ByteArray} (h : addAll out l = some o) (hn : out.Nodup) : o.Nodup ∧ o = out ++ l := by
  induction l generalizing out with
  | nil => cases h; exact ⟨hn, (List.append_nil _).symm⟩
  | cons x l ih =>
    simp only [addAll] at h
    split at h
    · cases h
    · rename_i hx
      have := ih h (List.nodup_append.2 ⟨hn, by simp, fun a ha b hb => by simp at hb; subst hb; exact fun e => hx (hasB_iff.2 (e ▸ ha))⟩)
      exact ⟨this.1, by rw [this.2]; simp⟩
theorem names_nodup {ls : List Ln} {i : Nat} {out o : List ByteArray} {a : Int} (h : namesF i out ls = (o, 0, a)) (hn : out.Nodup) : o.Nodup ∧ o = out ++ ls.flatMap ownOf ∧ a = 0 := by
  induction ls generalizing i out with
  | nil => cases h; exact ⟨hn, by simp, rfl⟩
  | cons L r ih =>
    simp only [namesF] at h
    split at h
    · simp at h
    · rename_i o1 h1
      have h2 := addAll_nodup h1 hn
      have h3 := ih h h2.1
      exact ⟨h3.1, by rw [h3.2.1, h2.2]; simp, h3.2.2⟩
theorem names_fault {ls : List Ln} {i : Nat} {out o : List ByteArray} {e a : Int} (h : namesF i out ls = (o, e, a)) (he : e ≠ 0) : o = [] ∧ e = 5 ∧ (i : Int) + 1 ≤ a ∧ a ≤ (i : Int) + ls.length := by
  induction ls generalizing i out with
  | nil => cases h; exact absurd rfl he
  | cons L r ih =>
    simp only [namesF] at h
    split at h
    · cases h
      refine ⟨rfl, rfl, by omega, by simp only [List.length_cons]; omega⟩
    · have := ih h
      simp only [List.length_cons]
      refine ⟨this.1, this.2.1, by have := this.2.2.1; omega, by have := this.2.2.2; omega⟩
theorem names_err {ls : List Ln} {i : Nat} {out : List ByteArray} : (namesF i out ls).2.1 = 0 ∨ (namesF i out ls).2.1 = 5 := by
  rcases h : namesF i out ls with ⟨o, e, a⟩
  by_cases he : e = 0
  · exact .inl he
  · exact .inr (names_fault h he).2.1
/-- Where names are told, a label's line is the first one that has it. -/
theorem label_once {ls : List Ln} {o : List ByteArray} {a : Int} (h : namesOf ls = (o, 0, a)) {k : Nat} {L : Ln} (hk : ls[k]? = some L) (hl : L.lab.size ≠ 0) : targetOf ls L.lab = k := by
  have hn := (names_nodup h List.nodup_nil).1
  rw [(names_nodup h List.nodup_nil).2.1, List.nil_append] at hn
  obtain ⟨hkl, e⟩ := List.getElem?_eq_some_iff.1 hk
  unfold targetOf
  rw [if_neg hl]
  have : ls.findIdx? (fun M => M.lab == L.lab) = some k := by
    rw [List.findIdx?_eq_some_iff_getElem]
    refine ⟨hkl, by rw [e]; exact ba_self _, fun j hj => ?_⟩
    intro hc
    have hjl : j < ls.length := by omega
    have hlab : ls[j].lab = L.lab := ba_beq.1 (by simpa using hc)
    have hp := (List.pairwise_flatMap.1 hn).2
    have hdis := List.pairwise_iff_getElem.1 hp j k hjl hkl hj
    have h1 : L.lab ∈ ownOf ls[j] := by unfold ownOf; rw [hlab]; simp [hl]
    have h2 : L.lab ∈ ownOf ls[k] := by rw [e]; unfold ownOf; simp [hl]
    exact hdis _ h1 _ h2 rfl
  rw [this]
theorem names_step {ls : List Ln} {k : Nat} {out : List ByteArray} {L : Ln} {r : List ByteArray × Int × Int} (hk : ls[k]? = some L) (h : r = namesF k out (ls.drop k)) :
    r = match addAll out (ownOf L) with
      | none => ([], 5, (k : Int) + 1)
      | some o => namesF (k + 1) o (ls.drop (k + 1)) := by
  obtain ⟨hl, e⟩ := List.getElem?_eq_some_iff.1 hk
  rw [h, List.drop_eq_getElem_cons hl, e]; rfl
theorem names_end {ls : List Ln} {k : Nat} {out : List ByteArray} {r : List ByteArray × Int × Int} (hk : ls.length ≤ k) (h : r = namesF k out (ls.drop k)) : r = (out, 0, 0) := by
  rw [h, List.drop_eq_nil_of_le hk]; rfl
theorem add_step {own : List ByteArray} {j : Nat} {cur : List ByteArray} {s : ByteArray} {r : Option (List ByteArray)} (hj : own[j]? = some s) (h : r = addAll cur (own.drop j)) : r = if hasB s cur = true then none else addAll (cur ++ [s]) (own.drop (j + 1)) := by
  obtain ⟨hl, e⟩ := List.getElem?_eq_some_iff.1 hj
  rw [h, List.drop_eq_getElem_cons hl, e]; rfl
theorem add_end {own : List ByteArray} {j : Nat} {cur : List ByteArray} {r : Option (List ByteArray)} (hj : own.length ≤ j) (h : r = addAll cur (own.drop j)) : r = some cur := by
  rw [h, List.drop_eq_nil_of_le hj]; rfl
theorem vals_step {d : Nat} {ls : List (Ln × Tm)} {k : Nat} {ns : List ByteArray} {vs : List Int} {L : Ln} {t : Tm} {r : List ByteArray × List Int × Int × Int} (hk : ls[k]? = some (L, t)) (h : r = valsF d k ns vs (ls.drop k)) :
    r = if L.kind = 6 then (if (evalR d t ns vs).2 = 0 then valsF d (k + 1) (ns ++ [L.ref]) (vs ++ [(evalR d t ns vs).1]) (ls.drop (k + 1)) else ([], [], (evalR d t ns vs).2, (k : Int) + 1)) else valsF d (k + 1) ns vs (ls.drop (k + 1)) := by
  obtain ⟨hl, e⟩ := List.getElem?_eq_some_iff.1 hk
  rw [h, List.drop_eq_getElem_cons hl, e]; rfl
theorem vals_end {d : Nat} {ls : List (Ln × Tm)} {k : Nat} {ns : List ByteArray} {vs : List Int} {r : List ByteArray × List Int × Int × Int} (hk : ls.length ≤ k) (h : r = valsF d k ns vs (ls.drop k)) : r = (ns, vs, 0, 0) := by
  rw [h, List.drop_eq_nil_of_le hk]; rfl
theorem own_len (L : Ln) : (ownOf L).length ≤ 2 := by
  unfold ownOf
  repeat' split
  all_goals simp
theorem add_len {out l o : List ByteArray} (h : addAll out l = some o) : o.length = out.length + l.length := by
  induction l generalizing out with
  | nil => cases h; rfl
  | cons x l ih =>
    simp only [addAll] at h
    split at h
    · cases h
    · rw [ih h]; simp; omega
end Go.Proofs.Ytnngmpimobolpaa
