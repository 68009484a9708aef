/- Contracts of layer 16's signs and names, and of their references. -/
import Derived.Test.YtpkpinljbkedlaaDoorLexNumber
import Derived.Lib.IndexLaws
namespace Go.Proofs.YtpkpinljbkedlaaDoor
open Go.RowKit Mem
set_option linter.unusedVariables false
theorem index_has (l : List UInt8) (c : UInt8) : decide ((0 : Int) ≤ Lib.indexByte l c) = l.contains c := by
  induction l with
  | nil => rfl
  | cons a t ih =>
    have hg := Lib.indexByte_ge t c
    rw [Lib.indexByte]
    by_cases h : a = c
    · subst h; simp
    · rw [List.contains_cons]
      have h2 : (c == a) = false := by simpa using fun e => h e.symm
      simp only [h2, Bool.false_or, ← ih]
      have h3 : (a == c) = false := by simpa using h
      simp only [h3, Bool.false_eq_true, if_false]
      by_cases h4 : Lib.indexByte t c = -1
      · rw [h4]; rfl
      · have h5 : (Lib.indexByte t c == -1) = false := by simpa using h4
        rw [h5]
        simp only [Bool.false_eq_true, if_false]
        rw [Bool.eq_iff_iff]
        simp only [decide_eq_true_eq]
        omega
/-- What stands ahead, as a text. -/
def headText (s : ByteArray) (n : Nat) : ByteArray := s.extract 0 n
theorem head_ba (s : ByteArray) (n : Nat) : headText s n = Lx.ba (s.data.toList.take n) := by
  unfold headText Lx.ba
  apply ByteArray.ext
  apply Array.toList_inj.1
  simp
theorem pre_lt (s : ByteArray) (w : World) : Calls Tryd.prog 36 #[.string s, .string ⟨#[60, 60]⟩] w fun e w' => e = .returned (.bool ([60, 60].isPrefixOf s.data.toList)) ∧ w' = w := Tryd.strings_HasPrefix s ⟨#[60, 60]⟩ w
theorem pre_gt (s : ByteArray) (w : World) : Calls Tryd.prog 36 #[.string s, .string ⟨#[62, 62]⟩] w fun e w' => e = .returned (.bool ([62, 62].isPrefixOf s.data.toList)) ∧ w' = w := Tryd.strings_HasPrefix s ⟨#[62, 62]⟩ w
theorem idx_sign (c : UInt8) (w : World) : Calls Tryd.prog 29 #[.string ⟨#[44, 58, 35, 91, 93, 123, 125, 33, 61, 40, 41, 43, 45, 42, 38, 124, 126]⟩, .int .u8 c.toNat] w fun e w' => e = .returned (.int .i64 (Lib.indexByte Lx.signs c)) ∧ w' = w := by
  have := Tryd.strings_IndexByte ⟨#[44, 58, 35, 91, 93, 123, 125, 33, 61, 40, 41, 43, 45, 42, 38, 124, 126]⟩ c.toNat w
  rw [Int.toNat_natCast, show c.toNat.toUInt8 = c by simp] at this
  exact this
theorem sign_pre {s : ByteArray} (h : ([60, 60].isPrefixOf s.data.toList || [62, 62].isPrefixOf s.data.toList) = true) : Lx.signLen s.data.toList = 2 ∧ 2 ≤ s.size := by
  refine ⟨by unfold Lx.signLen; rw [if_pos h], ?_⟩
  have e : s.data.toList.length = s.size := by simp
  rw [Bool.or_eq_true] at h
  rcases h with h | h
  · have := Lx.prefix_len _ _ h; simp at this; omega
  · have := Lx.prefix_len _ _ h; simp at this; omega
theorem sign_one {s : ByteArray} (hp : 0 < s.size) (h1 : [60, 60].isPrefixOf s.data.toList = false) (h2 : [62, 62].isPrefixOf s.data.toList = false) : Lx.signLen s.data.toList = if Lx.signs.contains s[0] = true then 1 else 0 := by
  unfold Lx.signLen
  rw [if_neg (by rw [h1, h2]; decide), head_at s hp]; rfl
set_option maxRecDepth 100000 in
set_option maxHeartbeats 1000000 in
theorem lex_sign (s : ByteArray) (w : World) (hp : 0 < s.size) (hs : s.size ≤ 9223372036854775806) :
    Calls Tryd.prog 19 #[.string s] w fun e w' => e = .returned (.string (headText s (Lx.signLen s.data.toList))) ∧ w' = w := by
  obtain ⟨r, hr⟩ : ∃ r, r = headText s (Lx.signLen s.data.toList) := ⟨_, rfl⟩
  rw [← hr]
  have HR := Lib.hid hr
  clear hr
  cases h1 : [60, 60].isPrefixOf s.data.toList with
  | true =>
    obtain ⟨hn, h2⟩ := sign_pre (s := s) (by rw [h1]; rfl)
    have HN := Lib.hid hn; have H1 := Lib.hid h1
    clear hn h1
    go_enter Tryd.func19, Tryd.ntmps19
    go_wp2_with (go_at_call 36; refine (pre_lt s _).mono ?_; rintro e w' ⟨rfl, rfl⟩; rw [H1.out])
    go_ret
    exact ⟨ret_str (by rw [HR.out, HN.out]; rfl), rfl⟩
  | false =>
    cases h2 : [62, 62].isPrefixOf s.data.toList with
    | true =>
      obtain ⟨hn, h3⟩ := sign_pre (s := s) (by rw [h1, h2]; rfl)
      have HN := Lib.hid hn; have H1 := Lib.hid h1; have H2 := Lib.hid h2
      clear hn h1 h2
      go_enter Tryd.func19, Tryd.ntmps19
      go_wp2_with (first | (go_at_call 36; ((with_reducible refine (pre_lt s _).mono ?_)); rintro e w' ⟨rfl, rfl⟩; rw [H1.out]) | (go_at_call 36; ((with_reducible refine (pre_gt s _).mono ?_)); rintro e w' ⟨rfl, rfl⟩; rw [H2.out]))
      go_ret
      exact ⟨ret_str (by rw [HR.out, HN.out]; rfl), rfl⟩
    | false =>
      have HN := Lib.hid (sign_one hp h1 h2)
      have H1 := Lib.hid h1; have H2 := Lib.hid h2
      clear h1 h2
      cases h3 : Lx.signs.contains s[0] with
      | true =>
        have h4 : decide ((0 : Int) ≤ Lib.indexByte Lx.signs s[0]) = true := by rw [index_has, h3]
        have H3 := Lib.hid h3
        clear h3
        go_enter Tryd.func19, Tryd.ntmps19
        go_wp2_with (first | (go_at_call 36; ((with_reducible refine (pre_lt s _).mono ?_)); rintro e w' ⟨rfl, rfl⟩; rw [H1.out]) | (go_at_call 36; ((with_reducible refine (pre_gt s _).mono ?_)); rintro e w' ⟨rfl, rfl⟩; rw [H2.out]) | (go_at_call 29; refine (idx_sign s[0] _).mono ?_; rintro e w' ⟨rfl, rfl⟩))
        go_ret
        exact ⟨ret_str (by rw [HR.out, HN.out, if_pos H3.out]; rfl), rfl⟩
      | false =>
        have h4 : decide ((0 : Int) ≤ Lib.indexByte Lx.signs s[0]) = false := by rw [index_has, h3]
        have H3 := Lib.hid h3
        clear h3
        go_enter Tryd.func19, Tryd.ntmps19
        go_wp2_with (first | (go_at_call 36; ((with_reducible refine (pre_lt s _).mono ?_)); rintro e w' ⟨rfl, rfl⟩; rw [H1.out]) | (go_at_call 36; ((with_reducible refine (pre_gt s _).mono ?_)); rintro e w' ⟨rfl, rfl⟩; rw [H2.out]) | (go_at_call 29; refine (idx_sign s[0] _).mono ?_; rintro e w' ⟨rfl, rfl⟩))
        go_ret
        exact ⟨ret_str (by rw [HR.out, HN.out, if_neg (by rw [H3.out]; decide), head_ba]; rfl), rfl⟩
end Go.Proofs.YtpkpinljbkedlaaDoor
