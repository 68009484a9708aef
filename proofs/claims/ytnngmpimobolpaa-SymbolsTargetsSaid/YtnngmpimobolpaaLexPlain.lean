/- Layer 16 in plain words: what a line's tokens are, and what is shown of them; no program in sight. -/
import Derived.Lib.SlTrimSet
import Derived.Lib.Hide
namespace Go.Proofs.Ytnngmpimobolpaa
namespace Lx
set_option linter.unusedVariables false
abbrev Bs := List UInt8
def letter (c : UInt8) : Bool := decide (97 ≤ c.toNat ∧ c.toNat ≤ 122) || decide (c.toNat = 95) || decide (c.toNat = 46)
def digit (c : UInt8) : Bool := decide (48 ≤ c.toNat ∧ c.toNat ≤ 57)
def spanGo : Bool → Bs → Nat
  | _, [] => 0
  | more, c :: t => if (letter c || (more && digit c)) = true then spanGo true t + 1 else 0
/-- How many bytes of a name a text begins with. -/
def span (l : Bs) : Nat := spanGo false l
def isDig (base : Nat) (c : UInt8) : Bool := digit c || (decide (base = 16) && decide (97 ≤ c.toNat ∧ c.toNat ≤ 102))
def dig (c : UInt8) : Nat := if digit c = true then c.toNat - 48 else c.toNat - 87
def numGo (base : Nat) : Nat → Bs → Nat × Nat
  | v, [] => (0, v)
  | v, c :: t => if isDig base c = true then ((numGo base (min (v * base + dig c) 4294967296) t).1 + 1, (numGo base (min (v * base + dig c) 4294967296) t).2) else (0, v)
def headLetter : Bs → Bool
  | [] => false
  | c :: _ => letter c
def hex (l : Bs) : Bool := [48, 120].isPrefixOf l
def baseOf (l : Bs) : Nat := if hex l = true then 16 else 10
def fromOf (l : Bs) : Nat := if hex l = true then 2 else 0
def numR (l : Bs) : Nat × Nat := numGo (baseOf l) 0 (l.drop (fromOf l))
def number (l : Bs) : Nat × Nat :=
  if (numR l).1 = 0 ∨ (numR l).2 = 4294967296 ∨ headLetter (l.drop (fromOf l + (numR l).1)) = true then (0, 0) else (fromOf l + (numR l).1, (numR l).2)
def signs : Bs := [44, 58, 35, 91, 93, 123, 125, 33, 61, 40, 41, 43, 45, 42, 38, 124, 126]
def oneSign : Bs → Nat
  | [] => 0
  | c :: _ => if signs.contains c = true then 1 else 0
def signLen (l : Bs) : Nat := if ([60, 60].isPrefixOf l || [62, 62].isPrefixOf l) = true then 2 else oneSign l
structure Tk where
  (kind n : Int) (text : ByteArray)
deriving DecidableEq
def ba (l : Bs) : ByteArray := ⟨l.toArray⟩
def tok : Bs → Option (Nat × Tk)
  | [] => none
  | c :: t =>
    if letter c = true then (if 32 < span (c :: t) then none else some (span (c :: t), ⟨1, 0, ba ((c :: t).take (span (c :: t)))⟩))
    else if digit c = true then (if (number (c :: t)).1 = 0 then none else some ((number (c :: t)).1, ⟨2, (number (c :: t)).2, ba []⟩))
    else if signLen (c :: t) = 0 then none else some (signLen (c :: t), ⟨3, 0, ba ((c :: t).take (signLen (c :: t)))⟩)
def blank (c : UInt8) : Bool := [9, 13, 32].contains c
def ends (c : UInt8) : Bool := decide (c.toNat = 64) || decide (c.toNat = 59)
def lexGo : Nat → Bs → Option (List Tk)
  | 0, _ => some []
  | _ + 1, [] => some []
  | f + 1, c :: t => if blank c = true then lexGo f t else if ends c = true then some [] else
    match tok (c :: t) with
    | none => none
    | some (n, k) => (lexGo f ((c :: t).drop n)).map (k :: ·)
def lexL (l : Bs) : Option (List Tk) := lexGo l.length l
/-- A line's tokens; none: it has none. -/
def lexS (s : ByteArray) : Option (List Tk) := if 256 < s.size then none else lexL s.data.toList

theorem spanGo_le : ∀ (m : Bool) (l : Bs), spanGo m l ≤ l.length
  | _, [] => Nat.le_refl _
  | m, c :: t => by
    have := spanGo_le true t
    unfold spanGo
    split
    · simp; exact this
    · simp
theorem span_le (l : Bs) : span l ≤ l.length := spanGo_le _ _
theorem span_pos {c : UInt8} {t : Bs} (h : letter c = true) : 1 ≤ span (c :: t) := by
  unfold span spanGo; simp [h]
theorem numGo_le (b : Nat) : ∀ (v : Nat) (l : Bs), (numGo b v l).1 ≤ l.length
  | v, [] => Nat.le_refl _
  | v, c :: t => by
    have := numGo_le b (min (v * b + dig c) 4294967296) t
    unfold numGo
    split
    · simp; exact this
    · simp
theorem numGo_cap (b : Nat) : ∀ (v : Nat) (l : Bs), v ≤ 4294967296 → (numGo b v l).2 ≤ 4294967296
  | v, [], h => h
  | v, c :: t, h => by
    have := numGo_cap b (min (v * b + dig c) 4294967296) t (by omega)
    unfold numGo
    split
    · exact this
    · exact h
theorem prefix_len : ∀ (p l : Bs), p.isPrefixOf l = true → p.length ≤ l.length
  | [], l, _ => by simp
  | a :: p, [], h => by simp [List.isPrefixOf] at h
  | a :: p, b :: l, h => by
    simp only [List.isPrefixOf, Bool.and_eq_true] at h
    have := prefix_len p l h.2
    simp; exact this
theorem number_le (l : Bs) : (number l).1 ≤ l.length := by
  unfold number
  split
  · simp
  · have h1 : (numR l).1 ≤ (l.drop (fromOf l)).length := numGo_le _ _ _
    rw [List.length_drop] at h1
    have h2 : fromOf l ≤ l.length := by
      unfold fromOf hex
      split
      · rename_i h; exact prefix_len _ _ h
      · omega
    simp only; omega
theorem signLen_le (l : Bs) : signLen l ≤ l.length := by
  unfold signLen
  split
  · rename_i h
    rw [Bool.or_eq_true] at h
    rcases h with h | h <;> exact prefix_len _ _ h
  · cases l with
    | nil => simp [oneSign]
    | cons c t => simp [oneSign]; split <;> omega
theorem tok_bd {l : Bs} {n : Nat} {k : Tk} (h : tok l = some (n, k)) : 1 ≤ n ∧ n ≤ l.length := by
  cases l with
  | nil => cases h
  | cons c t =>
    simp only [tok] at h
    split at h
    · rename_i hl
      split at h
      · cases h
      · cases h
        exact ⟨span_pos hl, span_le _⟩
    · split at h
      · split at h
        · cases h
        · cases h
          exact ⟨by omega, number_le _⟩
      · split at h
        · cases h
        · cases h
          exact ⟨by omega, signLen_le _⟩
theorem lexGo_fuel : ∀ (f g : Nat) (l : Bs), l.length ≤ f → l.length ≤ g → lexGo f l = lexGo g l
  | 0, g, l, h, _ => by
    have : l = [] := List.length_eq_zero_iff.1 (by omega)
    subst this
    cases g <;> rfl
  | f + 1, 0, l, _, h => by
    have : l = [] := List.length_eq_zero_iff.1 (by omega)
    subst this
    rfl
  | f + 1, g + 1, [], _, _ => rfl
  | f + 1, g + 1, c :: t, hf, hg => by
    simp only [List.length_cons] at hf hg
    unfold lexGo
    split
    · exact lexGo_fuel f g t (by omega) (by omega)
    · split
      · rfl
      · cases ht : tok (c :: t) with
        | none => rfl
        | some p =>
          obtain ⟨n, k⟩ := p
          have hb := tok_bd ht
          simp only
          rw [lexGo_fuel f g ((c :: t).drop n) (by simp; omega) (by simp; omega)]
theorem lexL_nil : lexL [] = some [] := rfl
theorem lexL_blank {c : UInt8} {t : Bs} (h : blank c = true) : lexL (c :: t) = lexL t := by
  unfold lexL
  show (if _ then _ else _) = _
  rw [if_pos h]
theorem lexL_ends {c : UInt8} {t : Bs} (h : blank c = false) (h2 : ends c = true) : lexL (c :: t) = some [] := by
  unfold lexL
  show (if _ then _ else _) = _
  rw [if_neg (by simp [h]), if_pos h2]
theorem lexL_none {c : UInt8} {t : Bs} (h : blank c = false) (h2 : ends c = false) (h3 : tok (c :: t) = none) : lexL (c :: t) = none := by
  unfold lexL
  show (if _ then _ else _) = _
  rw [if_neg (by simp [h]), if_neg (by simp [h2]), h3]
theorem lexL_some {c : UInt8} {t : Bs} {n : Nat} {k : Tk} (h : blank c = false) (h2 : ends c = false) (h3 : tok (c :: t) = some (n, k)) : lexL (c :: t) = (lexL ((c :: t).drop n)).map (k :: ·) := by
  have hb := tok_bd h3
  simp only [List.length_cons] at hb
  unfold lexL
  show (if _ then _ else _) = _
  rw [if_neg (by simp [h]), if_neg (by simp [h2]), h3]
  simp only
  rw [lexGo_fuel _ ((c :: t).drop n).length _ (by simp; omega) (Nat.le_refl _)]
theorem lexL_trim : ∀ (l : Bs), lexL (Lib.trimLeftS l [9, 13, 32]) = lexL l
  | [] => rfl
  | c :: t => by
    have ih := lexL_trim t
    unfold Lib.trimLeftS at ih ⊢
    cases hb : blank c with
    | true =>
      have h2 : [9, 13, 32].contains c = true := hb
      rw [List.dropWhile_cons_of_pos h2, ih, lexL_blank hb]
    | false =>
      have h2 : ¬ [9, 13, 32].contains c = true := by rw [show [9, 13, 32].contains c = blank c from rfl, hb]; decide
      rw [List.dropWhile_cons_of_neg h2]
theorem trim_head {l : Bs} {c : UInt8} {t : Bs} (h : Lib.trimLeftS l [9, 13, 32] = c :: t) : blank c = false := by
  have := List.head?_dropWhile_not ([9, 13, 32].contains ·) l
  unfold Lib.trimLeftS at h
  rw [h] at this
  simp only [List.head?_cons] at this
  show [9, 13, 32].contains c = false
  simpa using this

/-! What stands behind changes nothing. -/
structure Stop (x : UInt8) : Prop where
  let_ : letter x = false
  dig_ : digit x = false
  lt : x ≠ 60
  gt : x ≠ 62
theorem hexd_letter {x : UInt8} (h : letter x = false) : decide (97 ≤ x.toNat ∧ x.toNat ≤ 102) = false := by
  unfold letter at h
  simp only [Bool.or_eq_false_iff, decide_eq_false_iff_not] at h ⊢
  omega
theorem Stop.isDig {x : UInt8} (h : Stop x) (b : Nat) : isDig b x = false := by
  unfold Lx.isDig; rw [h.dig_, hexd_letter h.let_]; simp
theorem spanGo_app {x : UInt8} (hx : Stop x) (X : Bs) : ∀ (m : Bool) (l : Bs), spanGo m (l ++ x :: X) = spanGo m l
  | m, [] => by show (if _ then _ else _) = 0; rw [if_neg (by simp [hx.let_, hx.dig_])]
  | m, c :: t => by
    simp only [List.cons_append, spanGo]
    rw [spanGo_app hx X true t]
theorem numGo_app {x : UInt8} (hx : Stop x) (X : Bs) (b : Nat) : ∀ (v : Nat) (l : Bs), numGo b v (l ++ x :: X) = numGo b v l
  | v, [] => by show (if _ then _ else _) = _; rw [if_neg (by simp [hx.isDig])]; rfl
  | v, c :: t => by
    simp only [List.cons_append, numGo]
    rw [numGo_app hx X b _ t]
theorem hex_app {x : UInt8} (hx : Stop x) (X : Bs) (l : Bs) : hex (l ++ x :: X) = hex l := by
  have h1 : (48 == x) = false := by
    cases h : (48 == x) with
    | false => rfl
    | true => have e := eq_of_beq h; have := hx.dig_; rw [← e] at this; exact absurd this (by decide)
  have h2 : (120 == x) = false := by
    cases h : (120 == x) with
    | false => rfl
    | true => have e := eq_of_beq h; have := hx.let_; rw [← e] at this; exact absurd this (by decide)
  unfold hex
  match l with
  | [] => simp [List.isPrefixOf, h1]
  | [a] => simp [List.isPrefixOf, h2]
  | a :: b :: t => simp [List.isPrefixOf]
theorem headLetter_app {x : UInt8} (hx : Stop x) (X : Bs) (l : Bs) (n : Nat) (h : n ≤ l.length) : headLetter ((l ++ x :: X).drop n) = headLetter (l.drop n) := by
  rw [List.drop_append_of_le_length h]
  cases l.drop n with
  | nil => exact hx.let_
  | cons c t => rfl
theorem fromOf_le (l : Bs) : fromOf l ≤ l.length := by
  unfold fromOf hex
  split
  · rename_i h; exact prefix_len _ _ h
  · omega
theorem numR_le (l : Bs) : fromOf l + (numR l).1 ≤ l.length := by
  have h1 : (numR l).1 ≤ (l.drop (fromOf l)).length := numGo_le _ _ _
  rw [List.length_drop] at h1
  have := fromOf_le l
  omega
theorem number_app {x : UInt8} (hx : Stop x) (X : Bs) (l : Bs) : number (l ++ x :: X) = number l := by
  have hf : fromOf (l ++ x :: X) = fromOf l := by unfold fromOf; rw [hex_app hx]
  have hr : numR (l ++ x :: X) = numR l := by
    unfold numR baseOf
    rw [hf, hex_app hx, List.drop_append_of_le_length (fromOf_le l), numGo_app hx]
  unfold number
  rw [hr, hf, headLetter_app hx X l _ (numR_le l)]
theorem signLen_app {x : UInt8} (hx : Stop x) (X : Bs) (c : UInt8) (t : Bs) : signLen ((c :: t) ++ x :: X) = signLen (c :: t) := by
  have h1 : (60 == x) = false := by simpa using fun e => hx.lt e.symm
  have h2 : (62 == x) = false := by simpa using fun e => hx.gt e.symm
  unfold signLen
  cases t with
  | nil => simp [List.isPrefixOf, h1, h2, oneSign]
  | cons b t => simp [List.isPrefixOf, oneSign]
theorem tok_app {x : UInt8} (hx : Stop x) (X : Bs) (c : UInt8) (t : Bs) : tok ((c :: t) ++ x :: X) = tok (c :: t) := by
  have h1 : span ((c :: t) ++ x :: X) = span (c :: t) := spanGo_app hx X _ _
  have h2 := number_app hx X (c :: t)
  have h3 := signLen_app hx X c t
  have e : (c :: t) ++ x :: X = c :: (t ++ x :: X) := rfl
  have t1 : (c :: (t ++ x :: X)).take (span (c :: t)) = (c :: t).take (span (c :: t)) := by rw [← e, List.take_append_of_le_length (span_le _)]
  have t3 : (c :: (t ++ x :: X)).take (signLen (c :: t)) = (c :: t).take (signLen (c :: t)) := by rw [← e, List.take_append_of_le_length (signLen_le _)]
  rw [e] at h1 h2 h3 ⊢
  simp only [tok]
  rw [h1, h2, h3, t1, t3]
theorem lex_app {x : UInt8} (hx : Stop x) {X : Bs} (hX : lexL (x :: X) = some []) : ∀ (n : Nat) (l : Bs), l.length ≤ n → lexL (l ++ x :: X) = lexL l
  | 0, l, h => by
    have : l = [] := List.length_eq_zero_iff.1 (by omega)
    subst this
    exact hX
  | n + 1, [], h => hX
  | n + 1, c :: t, h => by
    simp only [List.length_cons] at h
    cases hb : blank c with
    | true =>
      show lexL (c :: (t ++ x :: X)) = _
      rw [lexL_blank hb, lexL_blank hb]
      exact lex_app hx hX n t (by omega)
    | false =>
      cases he : ends c with
      | true =>
        show lexL (c :: (t ++ x :: X)) = _
        rw [lexL_ends hb he, lexL_ends hb he]
      | false =>
        have ha : tok (c :: (t ++ x :: X)) = tok (c :: t) := tok_app hx X c t
        cases ht : tok (c :: t) with
        | none =>
          rw [ht] at ha
          rw [lexL_none hb he ht]
          exact lexL_none hb he ha
        | some p =>
          obtain ⟨m, k⟩ := p
          rw [ht] at ha
          have hbd := tok_bd ht
          rw [lexL_some hb he ht]
          show lexL (c :: (t ++ x :: X)) = _
          rw [lexL_some hb he ha]
          show Option.map _ (lexL (((c :: t) ++ x :: X).drop m)) = _
          rw [List.drop_append_of_le_length hbd.2]
          rw [lex_app hx hX n ((c :: t).drop m) (by simp at hbd ⊢; omega)]
theorem lex_behind {x : UInt8} (hx : Stop x) {X : Bs} (hX : lexL (x :: X) = some []) (l : Bs) : lexL (l ++ x :: X) = lexL l := lex_app hx hX l.length l (Nat.le_refl _)
theorem stop64 : Stop 64 := ⟨by decide, by decide, by decide, by decide⟩
theorem stop32 : Stop 32 := ⟨by decide, by decide, by decide, by decide⟩
theorem stop9 : Stop 9 := ⟨by decide, by decide, by decide, by decide⟩
theorem lex_at (l t : Bs) : lexL (l ++ 64 :: t) = lexL l := lex_behind stop64 (lexL_ends (by decide) (by decide)) l
theorem lex_semi (l t : Bs) : lexL (l ++ 32 :: 59 :: t) = lexL l := lex_behind stop32 (by rw [lexL_blank (by decide)]; exact lexL_ends (by decide) (by decide)) l
theorem lex_tab (l : Bs) : lexL (l ++ [9, 13]) = lexL l := lex_behind stop9 (by decide) l
end Lx
end Go.Proofs.Ytnngmpimobolpaa
