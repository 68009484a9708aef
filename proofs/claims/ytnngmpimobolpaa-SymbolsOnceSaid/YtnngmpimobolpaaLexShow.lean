/- Layer 16 in plain words: digits, what is shown of tokens, and that it has the same tokens. -/
import Derived.Test.YtnngmpimobolpaaLexPlain
import Derived.Lib.Join
namespace Go.Proofs.Ytnngmpimobolpaa
namespace Lx
set_option linter.unusedVariables false
def dgt (n : Nat) : UInt8 := UInt8.ofNat (48 + n % 10)
def digGo : Nat → Nat → Bs
  | 0, _ => []
  | f + 1, n => if n < 10 then [dgt n] else digGo f (n / 10) ++ [dgt n]
/-- A number in digits. -/
def digs (n : Nat) : Bs := digGo (n + 1) n
theorem digGo_fuel : ∀ (f g n : Nat), n < f → n < g → digGo f n = digGo g n
  | 0, _, n, h, _ => by omega
  | _ + 1, 0, n, _, h => by omega
  | f + 1, g + 1, n, hf, hg => by
    unfold digGo
    split
    · rfl
    · rw [digGo_fuel f g (n / 10) (by omega) (by omega)]
theorem digs_one {n : Nat} (h : n < 10) : digs n = [dgt n] := by unfold digs digGo; rw [if_pos h]
theorem digs_more {n : Nat} (h : ¬ n < 10) : digs n = digs (n / 10) ++ [dgt n] := by
  unfold digs
  conv => lhs; unfold digGo
  rw [if_neg h, digGo_fuel n (n / 10 + 1) (n / 10) (by omega) (by omega)]
theorem dgt_nat (n : Nat) : (dgt n).toNat = 48 + n % 10 := by
  unfold dgt
  rw [UInt8.toNat_ofNat']
  exact Nat.mod_eq_of_lt (by omega)
theorem dgt_digit (n : Nat) : digit (dgt n) = true := by
  unfold digit; rw [dgt_nat]; simp; omega
theorem dgt_dig (n : Nat) : dig (dgt n) = n % 10 := by
  unfold dig; rw [if_pos (dgt_digit n), dgt_nat]; omega
theorem digs_all : ∀ (f n : Nat), n ≤ f → ∀ c ∈ digs n, digit c = true
  | 0, n, h, c, hc => by
    rw [digs_one (by omega)] at hc
    rw [List.mem_singleton.1 hc]; exact dgt_digit n
  | f + 1, n, h, c, hc => by
    by_cases h1 : n < 10
    · rw [digs_one h1] at hc
      rw [List.mem_singleton.1 hc]; exact dgt_digit n
    · rw [digs_more h1] at hc
      rcases List.mem_append.1 hc with hc | hc
      · exact digs_all f (n / 10) (by omega) c hc
      · rw [List.mem_singleton.1 hc]; exact dgt_digit n
theorem digs_ne (n : Nat) : digs n ≠ [] := by
  by_cases h : n < 10
  · rw [digs_one h]; simp
  · rw [digs_more h]; simp
theorem digs_cons (n : Nat) : ∃ c t, digs n = c :: t ∧ digit c = true ∧ ∀ x ∈ t, digit x = true := by
  cases h : digs n with
  | nil => exact absurd h (digs_ne n)
  | cons c t =>
    have := digs_all n n (Nat.le_refl _)
    rw [h] at this
    exact ⟨c, t, rfl, this c (by simp), fun x hx => this x (by simp [hx])⟩
theorem digs_len : ∀ (k n : Nat), n < 10 ^ (k + 1) → (digs n).length ≤ k + 1
  | 0, n, h => by rw [digs_one (by simpa using h)]; simp
  | k + 1, n, h => by
    by_cases h1 : n < 10
    · rw [digs_one h1]; simp
    · rw [digs_more h1]
      have := digs_len k (n / 10) (by rw [Nat.pow_succ] at h; omega)
      simp; omega
theorem isDig_digit {c : UInt8} (h : digit c = true) (b : Nat) : isDig b c = true := by unfold isDig; rw [h]; rfl
theorem numGo_all (b : Nat) : ∀ (v : Nat) (l R : Bs), (∀ c ∈ l, isDig b c = true) → numGo b v (l ++ R) = (l.length + (numGo b (numGo b v l).2 R).1, (numGo b (numGo b v l).2 R).2)
  | v, [], R, _ => by simp [numGo]
  | v, c :: t, R, h => by
    have hc := h c (by simp)
    have ih := numGo_all b (min (v * b + dig c) 4294967296) t R (fun x hx => h x (by simp [hx]))
    have e1 : numGo b v (c :: t) = ((numGo b (min (v * b + dig c) 4294967296) t).1 + 1, (numGo b (min (v * b + dig c) 4294967296) t).2) := by
      show (if _ then _ else _) = _; rw [if_pos hc]
    have e2 : numGo b v (c :: (t ++ R)) = ((numGo b (min (v * b + dig c) 4294967296) (t ++ R)).1 + 1, (numGo b (min (v * b + dig c) 4294967296) (t ++ R)).2) := by
      show (if _ then _ else _) = _; rw [if_pos hc]
    show numGo b v (c :: (t ++ R)) = _
    rw [e2, e1, ih]
    refine Prod.ext ?_ rfl
    simp only [List.length_cons]
    omega
theorem numGo_one (b v : Nat) {c : UInt8} (h : isDig b c = true) : numGo b v [c] = (1, min (v * b + dig c) 4294967296) := by
  show (if _ then _ else _) = _; rw [if_pos h]; rfl
theorem numGo_digs : ∀ (f n : Nat), n ≤ f → numGo 10 0 (digs n) = ((digs n).length, min n 4294967296)
  | 0, n, h => by
    rw [digs_one (by omega), numGo_one _ _ (isDig_digit (dgt_digit n) _), dgt_dig]
    have : n = 0 := by omega
    subst this; rfl
  | f + 1, n, h => by
    by_cases h1 : n < 10
    · rw [digs_one h1, numGo_one _ _ (isDig_digit (dgt_digit n) _), dgt_dig]
      simp; omega
    · have ih := numGo_digs f (n / 10) (by omega)
      rw [digs_more h1, numGo_all 10 0 (digs (n / 10)) [dgt n] (fun c hc => isDig_digit (digs_all _ _ (Nat.le_refl _) c hc) _), ih, numGo_one _ _ (isDig_digit (dgt_digit n) _), dgt_dig]
      simp only [List.length_append, List.length_cons, List.length_nil]
      have : min (min (n / 10) 4294967296 * 10 + n % 10) 4294967296 = min n 4294967296 := by omega
      rw [this]
theorem digs_nohex (n : Nat) : hex (digs n) = false := by
  have hall := digs_all n n (Nat.le_refl _)
  unfold hex
  match h : digs n with
  | [] => rfl
  | [a] => simp [List.isPrefixOf]
  | a :: b :: t =>
    rw [h] at hall
    have hb := hall b (by simp)
    have : (120 == b) = false := by
      cases e : (120 == b) with
      | false => rfl
      | true => rw [← eq_of_beq e] at hb; exact absurd hb (by decide)
    simp [List.isPrefixOf, this]
theorem number_digs (n : Nat) : number (digs n) = if 4294967296 ≤ n then (0, 0) else ((digs n).length, n) := by
  have hf : fromOf (digs n) = 0 := by unfold fromOf; rw [digs_nohex]; rfl
  have hb : baseOf (digs n) = 10 := by unfold baseOf; rw [digs_nohex]; rfl
  have hr : numR (digs n) = ((digs n).length, min n 4294967296) := by
    unfold numR; rw [hf, hb]; exact numGo_digs n n (Nat.le_refl _)
  have hne : (digs n).length ≠ 0 := fun e => digs_ne n (List.length_eq_zero_iff.1 e)
  unfold number
  rw [hr, hf]
  simp only [Nat.zero_add]
  have hd : headLetter ((digs n).drop (digs n).length) = false := by rw [List.drop_length]; rfl
  rw [hd]
  by_cases hc : 4294967296 ≤ n
  · rw [if_pos (.inr (.inl (by omega))), if_pos hc]
  · rw [if_neg (by simp [hne]; omega), if_neg hc]
    congr 1; omega
theorem digit_noletter {c : UInt8} (h : digit c = true) : letter c = false := by
  unfold digit at h; unfold letter
  simp only [decide_eq_true_eq] at h
  simp; omega
theorem tok_digs {n : Nat} : tok (digs n) = if 4294967296 ≤ n then none else some ((digs n).length, ⟨2, n, ba []⟩) := by
  obtain ⟨c, t, he, hc, _⟩ := digs_cons n
  have hn := number_digs n
  have hne : (digs n).length ≠ 0 := fun e => digs_ne n (List.length_eq_zero_iff.1 e)
  rw [he] at hn hne ⊢
  simp only [tok]
  rw [if_neg (by simp [digit_noletter hc]), if_pos hc, hn]
  by_cases h : 4294967296 ≤ n
  · rw [if_pos h, if_pos h]; simp
  · rw [if_neg h, if_neg h, if_neg hne]
/-- Of a number that a line is: just that one, if it is one of 32 bits. -/
theorem lex_digs (n : Nat) : lexL (digs n) = if 4294967296 ≤ n then none else some [⟨2, n, ba []⟩] := by
  have ht := tok_digs (n := n)
  obtain ⟨c, t, he, hc, _⟩ := digs_cons n
  have hb : blank c = false := by
    cases h : blank c with
    | false => rfl
    | true =>
      have h2 : c ∈ [9, 13, 32] := by simpa [blank] using h
      exact absurd hc (by
        rcases (by simpa using h2 : c = 9 ∨ c = 13 ∨ c = 32) with rfl | rfl | rfl <;> decide)
  have hend : ends c = false := by
    unfold digit at hc; unfold ends
    simp only [decide_eq_true_eq] at hc
    simp; omega
  rw [he] at ht ⊢
  by_cases h : 4294967296 ≤ n
  · rw [if_pos h] at ht ⊢
    exact lexL_none hb hend ht
  · rw [if_neg h] at ht ⊢
    rw [lexL_some hb hend ht, List.drop_length]
    rfl
/-- What is shown of a token. -/
def text (k : Tk) : Bs := if k.kind = 2 then digs k.n.toNat else k.text.data.toList
def plain (c : UInt8) : Prop := blank c = false ∧ ends c = false
structure Good (k : Tk) : Prop where
  head : ∃ c t, text k = c :: t ∧ plain c
  tok_ : tok (text k) = some ((text k).length, k)
  small : (text k).length ≤ 32
  bd : 0 ≤ k.n ∧ k.n < 4294967296
  txt : k.text.size ≤ 32
theorem nat_plain {c : UInt8} (h : c.toNat ≠ 9 ∧ c.toNat ≠ 13 ∧ c.toNat ≠ 32 ∧ c.toNat ≠ 64 ∧ c.toNat ≠ 59) : plain c := by
  refine ⟨?_, ?_⟩
  · cases e : blank c with
    | false => rfl
    | true =>
      have h2 : c ∈ [9, 13, 32] := by simpa [blank] using e
      rcases (by simpa using h2 : c = 9 ∨ c = 13 ∨ c = 32) with rfl | rfl | rfl <;> simp at h
  · unfold ends; simp; omega
theorem letter_plain {c : UInt8} (h : letter c = true) : plain c := by
  apply nat_plain
  unfold letter at h
  simp only [Bool.or_eq_true, decide_eq_true_eq] at h
  omega
theorem digit_plain {c : UInt8} (h : digit c = true) : plain c := by
  apply nat_plain
  unfold digit at h
  simp only [decide_eq_true_eq] at h
  omega
theorem spanGo_take : ∀ (m : Bool) (l : Bs), spanGo m (l.take (spanGo m l)) = spanGo m l
  | m, [] => rfl
  | m, c :: t => by
    by_cases h : (letter c || (m && digit c)) = true
    · have e : spanGo m (c :: t) = spanGo true t + 1 := by show (if _ then _ else _) = _; rw [if_pos h]
      rw [e]
      show spanGo m (c :: t.take (spanGo true t)) = _
      have e2 : spanGo m (c :: t.take (spanGo true t)) = spanGo true (t.take (spanGo true t)) + 1 := by show (if _ then _ else _) = _; rw [if_pos h]
      rw [e2, spanGo_take true t]
    · have e : spanGo m (c :: t) = 0 := by show (if _ then _ else _) = _; rw [if_neg h]
      rw [e]; rfl
theorem ba_list (l : Bs) : (ba l).data.toList = l := by simp [ba]
theorem signLen_two (l : Bs) : signLen l ≤ 2 := by
  unfold signLen
  split
  · omega
  · cases l with
    | nil => simp [oneSign]
    | cons c t => simp [oneSign]; split <;> omega
theorem oneSign_no {c : UInt8} {t : Bs} (h : signs.contains c = false) : oneSign (c :: t) = 0 := by show (if _ then _ else _) = _; rw [if_neg (by rw [h]; decide)]
theorem oneSign_yes {c : UInt8} {t : Bs} (h : signs.contains c = true) : oneSign (c :: t) = 1 := by show (if _ then _ else _) = _; rw [if_pos h]
theorem signLen_take (c : UInt8) (t : Bs) (h : signLen (c :: t) ≠ 0) : signLen ((c :: t).take (signLen (c :: t))) = signLen (c :: t) := by
  cases h1 : ([60, 60].isPrefixOf (c :: t) || [62, 62].isPrefixOf (c :: t)) with
  | true =>
    have e : signLen (c :: t) = 2 := by unfold signLen; rw [h1]; rfl
    rw [e]
    cases t with
    | nil => simp [List.isPrefixOf] at h1
    | cons b t =>
      have : ([60, 60].isPrefixOf [c, b] || [62, 62].isPrefixOf [c, b]) = true := by simpa [List.isPrefixOf] using h1
      show signLen [c, b] = 2
      unfold signLen
      rw [if_pos this]
  | false =>
    have e : signLen (c :: t) = oneSign (c :: t) := by unfold signLen; rw [h1]; rfl
    have e1 : signs.contains c = true := by
      cases hc : signs.contains c with
      | true => rfl
      | false => rw [e, oneSign_no hc] at h; exact absurd rfl h
    have e2 : signLen (c :: t) = 1 := by rw [e, oneSign_yes e1]
    rw [e2]
    show signLen [c] = 1
    unfold signLen
    rw [if_neg (by simp [List.isPrefixOf]), oneSign_yes e1]
theorem sign_plain {c : UInt8} {t : Bs} (h : signLen (c :: t) ≠ 0) : plain c := by
  have key : c = 60 ∨ c = 62 ∨ signs.contains c = true := by
    unfold signLen at h
    split at h
    · rename_i h1
      rw [Bool.or_eq_true] at h1
      rcases h1 with h1 | h1
      · simp only [List.isPrefixOf, Bool.and_eq_true] at h1
        exact .inl (eq_of_beq h1.1).symm
      · simp only [List.isPrefixOf, Bool.and_eq_true] at h1
        exact .inr (.inl (eq_of_beq h1.1).symm)
    · cases hc : signs.contains c with
      | true => exact .inr (.inr rfl)
      | false => rw [oneSign_no hc] at h; exact absurd rfl h
  have all : ∀ c ∈ signs, c.toNat ≠ 9 ∧ c.toNat ≠ 13 ∧ c.toNat ≠ 32 ∧ c.toNat ≠ 64 ∧ c.toNat ≠ 59 := by decide
  apply nat_plain
  rcases key with rfl | rfl | h
  · decide
  · decide
  · exact all c (by simpa using h)
theorem tok_good {c : UInt8} {t : Bs} {n : Nat} {k : Tk} (h : tok (c :: t) = some (n, k)) : Good k := by
  simp only [tok] at h
  by_cases h1 : letter c = true
  · rw [if_pos h1] at h
    by_cases h32 : 32 < span (c :: t)
    · rw [if_pos h32] at h; cases h
    · rw [if_neg h32] at h
      cases h
      have hp := span_pos (t := t) h1
      have hle := span_le (c :: t)
      obtain ⟨m, hm⟩ : ∃ m, span (c :: t) = m + 1 := ⟨_, (Nat.sub_add_cancel hp).symm⟩
      have htk : (c :: t).take (span (c :: t)) = c :: t.take m := by rw [hm]; rfl
      have hsp : span (c :: t.take m) = span (c :: t) := by rw [← htk]; exact spanGo_take false (c :: t)
      have htx : text ⟨1, 0, ba ((c :: t).take (span (c :: t)))⟩ = c :: t.take m := by
        unfold text; rw [if_neg (by simp)]; simp only; rw [ba_list, htk]
      have hlen : (c :: t.take m).length = span (c :: t) := by rw [← htk, List.length_take]; omega
      refine ⟨⟨c, _, htx, letter_plain h1⟩, ?_, ?_, ⟨by simp, by simp⟩, ?_⟩
      · rw [htx, hlen]
        simp only [tok]
        rw [if_pos h1, hsp, if_neg h32]
        have : (c :: t.take m).take (span (c :: t)) = c :: t.take m := by rw [List.take_of_length_le (by omega)]
        rw [this, htk]
      · rw [htx]; omega
      · show ((c :: t).take (span (c :: t))).toArray.size ≤ 32
        rw [htk]; simp at hlen ⊢; omega
  · rw [if_neg h1] at h
    by_cases h2 : digit c = true
    · rw [if_pos h2] at h
      by_cases h0 : (number (c :: t)).1 = 0
      · rw [if_pos h0] at h; cases h
      · rw [if_neg h0] at h
        cases h
        have hv : (number (c :: t)).2 < 4294967296 := by
          have hcap : (numR (c :: t)).2 ≤ 4294967296 := numGo_cap _ _ _ (by omega)
          unfold number at h0 ⊢
          split
          · decide
          · rename_i hh
            simp only
            have : ¬ (numR (c :: t)).2 = 4294967296 := fun e => hh (.inr (.inl e))
            omega
        generalize (number (c :: t)).2 = v at hv ⊢
        have htx : text ⟨2, v, ba []⟩ = digs v := by unfold text; rw [if_pos rfl]; simp
        obtain ⟨d, u, he, hd, _⟩ := digs_cons v
        refine ⟨⟨d, u, by rw [htx, he], digit_plain hd⟩, ?_, ?_, ⟨by simp, by simp; omega⟩, by simp [ba, ByteArray.size]⟩
        · rw [htx, tok_digs, if_neg (by omega)]
        · rw [htx]
          have := digs_len 9 v (by omega)
          omega
    · rw [if_neg h2] at h
      by_cases h0 : signLen (c :: t) = 0
      · rw [if_pos h0] at h; cases h
      · rw [if_neg h0] at h
        cases h
        have hle := signLen_le (c :: t)
        have h2' := signLen_two (c :: t)
        have hst := signLen_take c t h0
        obtain ⟨m, hm⟩ : ∃ m, signLen (c :: t) = m + 1 := ⟨_, (Nat.sub_add_cancel (Nat.pos_of_ne_zero h0)).symm⟩
        have htk : (c :: t).take (signLen (c :: t)) = c :: t.take m := by rw [hm]; rfl
        have htx : text ⟨3, 0, ba ((c :: t).take (signLen (c :: t)))⟩ = c :: t.take m := by
          unfold text; rw [if_neg (by simp)]; simp only; rw [ba_list, htk]
        have hlen : (c :: t.take m).length = signLen (c :: t) := by rw [← htk, List.length_take]; omega
        rw [htk] at hst
        refine ⟨⟨c, _, htx, sign_plain h0⟩, ?_, ?_, ⟨by simp, by simp⟩, ?_⟩
        · rw [htx, hlen]
          simp only [tok]
          rw [if_neg h1, if_neg h2, hst, if_neg h0]
          have : (c :: t.take m).take (signLen (c :: t)) = c :: t.take m := by rw [List.take_of_length_le (by omega)]
          rw [this, htk]
        · rw [htx]; omega
        · show ((c :: t).take (signLen (c :: t))).toArray.size ≤ 32
          rw [htk]; simp at hlen ⊢; omega
theorem lex_good : ∀ (n : Nat) (l : Bs) (ks : List Tk), l.length ≤ n → lexL l = some ks → (∀ k ∈ ks, Good k) ∧ ks.length ≤ l.length
  | 0, l, ks, h, hl => by
    have : l = [] := List.length_eq_zero_iff.1 (by omega)
    subst this
    cases hl
    exact ⟨fun k hk => (by cases hk), Nat.le_refl _⟩
  | n + 1, [], ks, h, hl => by
    cases hl
    exact ⟨fun k hk => (by cases hk), Nat.le_refl _⟩
  | n + 1, c :: t, ks, h, hl => by
    simp only [List.length_cons] at h
    cases hb : blank c with
    | true =>
      rw [lexL_blank hb] at hl
      have := lex_good n t ks (by omega) hl
      exact ⟨this.1, by simp; omega⟩
    | false =>
      cases he : ends c with
      | true =>
        rw [lexL_ends hb he] at hl
        cases hl
        exact ⟨fun k hk => (by cases hk), by simp⟩
      | false =>
        cases ht : tok (c :: t) with
        | none => rw [lexL_none hb he ht] at hl; cases hl
        | some p =>
          obtain ⟨m, k⟩ := p
          have hbd := tok_bd ht
          rw [lexL_some hb he ht] at hl
          cases hr : lexL ((c :: t).drop m) with
          | none => rw [hr] at hl; cases hl
          | some ks' =>
            rw [hr] at hl
            cases hl
            have := lex_good n ((c :: t).drop m) ks' (by simp at hbd ⊢; omega) hr
            refine ⟨fun k' hk' => ?_, ?_⟩
            · rcases List.mem_cons.1 hk' with rfl | hk'
              · exact tok_good ht
              · exact this.1 k' hk'
            · have h2 := this.2
              simp at hbd h2 ⊢; omega
def show_ (ks : List Tk) : Bs := Lib.join (ks.map text) [32]
theorem joinTail_cons (k : Tk) (ks : List Tk) : Lib.joinTail [32] ((k :: ks).map text) = 32 :: show_ (k :: ks) := by
  show ([32] ++ text k) ++ Lib.joinTail [32] (ks.map text) = _
  unfold show_
  rw [List.map_cons, Lib.join_cons]; simp
/-- What is shown of good tokens has just these. -/
theorem lex_show : ∀ (ks : List Tk), (∀ k ∈ ks, Good k) → lexL (show_ ks) = some ks
  | [], _ => by unfold show_; rw [List.map_nil, Lib.join_nil]; rfl
  | [k], h => by
    have hk := h k (by simp)
    obtain ⟨c, t, he, hb, hn⟩ := hk.head
    have ht := hk.tok_
    have e : show_ [k] = text k := by unfold show_; rw [List.map_cons, Lib.join_cons]; simp [Lib.joinTail]
    rw [e, he]
    rw [he] at ht
    rw [lexL_some hb hn ht, List.drop_length]
    rfl
  | k :: k2 :: ks, h => by
    have hk := h k (by simp)
    have ih := lex_show (k2 :: ks) (fun x hx => h x (by simp [hx]))
    obtain ⟨c, t, he, hb, hn⟩ := hk.head
    have ht := hk.tok_
    have e : show_ (k :: k2 :: ks) = text k ++ 32 :: show_ (k2 :: ks) := by
      have := joinTail_cons k2 ks
      rw [← this]
      unfold show_; rw [List.map_cons, Lib.join_cons]
    rw [e, he]
    rw [he] at ht
    have ha : tok (c :: (t ++ 32 :: show_ (k2 :: ks))) = tok (c :: t) := tok_app stop32 (show_ (k2 :: ks)) c t
    rw [ht] at ha
    show lexL (c :: (t ++ 32 :: show_ (k2 :: ks))) = _
    rw [lexL_some hb hn ha]
    show Option.map _ (lexL (((c :: t) ++ 32 :: show_ (k2 :: ks)).drop _)) = _
    rw [List.drop_append_of_le_length (Nat.le_refl _), List.drop_length, List.nil_append, lexL_blank (by decide), ih]
    rfl
end Lx
end Go.Proofs.Ytnngmpimobolpaa
