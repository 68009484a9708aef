/- Contracts of layer 16's small functions: letter, digit, span, value, number, sign, Name, and of their references. -/
import Derived.Test.YtnngmpimobolpaaProg
import Derived.Test.YtnngmpimobolpaaBase
import Derived.Test.YtnngmpimobolpaaMem
import Derived.Test.YtnngmpimobolpaaShelf
import Derived.Test.YtnngmpimobolpaaLexShow
import Derived.WalkLawsBesides
import Derived.Deep.QuietTactic
import Derived.BigQuiet
import Derived.Deep.LoopGhost
import Derived.Outline
namespace Go.Proofs.Ytnngmpimobolpaa
open Go.RowKit Mem
set_option linter.unusedVariables false
theorem drop_at (s : ByteArray) (pos : Nat) (h : pos < s.size) : s.data.toList.drop pos = (s[pos]'h) :: s.data.toList.drop (pos + 1) :=
  List.drop_eq_getElem_cons (by simpa using h)
theorem drop_end (s : ByteArray) (pos : Nat) (h : ¬ pos < s.size) : s.data.toList.drop pos = [] :=
  List.drop_eq_nil_of_le (by simp; omega)
theorem u8_bd (c : UInt8) : (c.toNat : Int) ≤ 255 := by have := c.toNat_lt; omega
theorem lex_letter (c : UInt8) (w : World) : Calls Try.prog 72 #[.int .u8 c.toNat] w fun e w' => e = .returned (.bool (Lx.letter c)) ∧ w' = w := by
  have hc := u8_bd c
  obtain ⟨r, hr⟩ : ∃ r, r = Lx.letter c := ⟨_, rfl⟩
  rw [← hr]
  have HR := Lib.hid hr
  clear hr
  go_enter Try.func72, Try.ntmps72
  go_wp2
  all_goals
    go_ret
    exact ⟨ret_bool (by rw [HR.out]; unfold Lx.letter; rw [Bool.eq_iff_iff]; simp; omega), rfl⟩
theorem ref_letter (c : UInt8) (w : World) : Calls Try.prog 75 #[.int .u8 c.toNat] w fun e w' => e = .returned (.bool (Lx.letter c)) ∧ w' = w := by
  have hc := u8_bd c
  obtain ⟨r, hr⟩ : ∃ r, r = Lx.letter c := ⟨_, rfl⟩
  rw [← hr]
  have HR := Lib.hid hr
  clear hr
  go_enter Try.func75, Try.ntmps75
  go_wp2
  all_goals
    go_ret
    exact ⟨ret_bool (by rw [HR.out]; unfold Lx.letter; rw [Bool.eq_iff_iff]; simp; omega), rfl⟩
theorem lex_digit (c : UInt8) (w : World) : Calls Try.prog 73 #[.int .u8 c.toNat] w fun e w' => e = .returned (.bool (Lx.digit c)) ∧ w' = w := by
  have hc := u8_bd c
  obtain ⟨r, hr⟩ : ∃ r, r = Lx.digit c := ⟨_, rfl⟩
  rw [← hr]
  have HR := Lib.hid hr
  clear hr
  go_enter Try.func73, Try.ntmps73
  go_wp2
  all_goals
    go_ret
    exact ⟨ret_bool (by rw [HR.out]; unfold Lx.digit; rw [Bool.eq_iff_iff]; simp; omega), rfl⟩
theorem ref_digit (c : UInt8) (w : World) : Calls Try.prog 76 #[.int .u8 c.toNat] w fun e w' => e = .returned (.bool (Lx.digit c)) ∧ w' = w := by
  have hc := u8_bd c
  obtain ⟨r, hr⟩ : ∃ r, r = Lx.digit c := ⟨_, rfl⟩
  rw [← hr]
  have HR := Lib.hid hr
  clear hr
  go_enter Try.func76, Try.ntmps76
  go_wp2
  all_goals
    go_ret
    exact ⟨ret_bool (by rw [HR.out]; unfold Lx.digit; rw [Bool.eq_iff_iff]; simp; omega), rfl⟩
theorem span_on {s : ByteArray} {n r : Nat} (hp : n < s.size) (m : Bool) (hg : r = n + Lx.spanGo m (s.data.toList.drop n)) (hl : (Lx.letter s[n] || (m && Lx.digit s[n])) = true) : r = (n + 1) + Lx.spanGo (decide (0 < n + 1)) (s.data.toList.drop (n + 1)) := by
  rw [hg, drop_at s n hp]
  simp only [Lx.spanGo]
  rw [if_pos hl]; simp; omega
theorem span_off {s : ByteArray} {n r : Nat} (hp : n < s.size) (m : Bool) (hg : r = n + Lx.spanGo m (s.data.toList.drop n)) (hl : (Lx.letter s[n] || (m && Lx.digit s[n])) = false) : r = n := by
  rw [hg, drop_at s n hp]
  simp only [Lx.spanGo]
  rw [if_neg (by rw [hl]; decide)]; rfl
theorem span_end {s : ByteArray} {n r : Nat} (hp : ¬ n < s.size) (m : Bool) (hg : r = n + Lx.spanGo m (s.data.toList.drop n)) : r = n := by
  rw [hg, drop_end s n hp]; rfl
set_option maxRecDepth 100000 in
set_option maxHeartbeats 1000000 in
theorem lex_span (s : ByteArray) (w : World) (hs : s.size ≤ 9223372036854775807) :
    Calls Try.prog 69 #[.string s] w fun e w' => e = .returned (.int .i64 (Lx.span s.data.toList)) ∧ w' = w := by
  obtain ⟨r, hr⟩ : ∃ r, r = Lx.span s.data.toList := ⟨_, rfl⟩
  rw [← hr]
  have HR := Lib.hid hr
  clear hr
  go_enter Try.func69, Try.ntmps69
  go_wp2
  go_loop [3] (fun nv => ∃ (n : Nat), nv = .int .i64 n ∧ n ≤ s.size ∧ r = n + Lx.spanGo (decide (0 < n)) (s.data.toList.drop n)) (fun nv => s.size - (intOf nv).toNat)
  case atStart => exact ⟨0, rfl, by omega, by rw [HR.out]; simp [Lx.span]⟩
  case round =>
    obtain ⟨n, rfl, hn, hg⟩ := hrel
    have HG := Lib.hid hg
    clear hg
    by_cases hp : n < s.size
    · cases hl : Lx.letter s[n] with
      | true =>
        have HS := Lib.hid (span_on hp _ HG.out (by rw [hl]; rfl))
        go_wp2_with (go_at_call 72; refine (lex_letter s[n] _).mono ?_; rintro e w' ⟨rfl, rfl⟩; rw [hl])
        go_round
        case rel => exact ⟨n + 1, by go_num, by omega, HS.out⟩
        case measure => simp [intOf]; omega
      | false =>
        by_cases h0 : 0 < n
        · cases hd : Lx.digit s[n] with
          | true =>
            have HS := Lib.hid (span_on hp _ HG.out (by rw [hl, hd]; simp [h0]))
            go_wp2_with (first | (go_at_call 72; refine (lex_letter s[n] _).mono ?_; rintro e w' ⟨rfl, rfl⟩; rw [hl]) | (go_at_call 73; refine (lex_digit s[n] _).mono ?_; rintro e w' ⟨rfl, rfl⟩; rw [hd]))
            go_round
            case rel => exact ⟨n + 1, by go_num, by omega, HS.out⟩
            case measure => simp [intOf]; omega
          | false =>
            have HS := Lib.hid (span_off hp _ HG.out (by rw [hl, hd]; simp))
            go_wp2_with (first | (go_at_call 72; refine (lex_letter s[n] _).mono ?_; rintro e w' ⟨rfl, rfl⟩; rw [hl]) | (go_at_call 73; refine (lex_digit s[n] _).mono ?_; rintro e w' ⟨rfl, rfl⟩; rw [hd]))
            go_ret
            exact ⟨ret_int (by rw [HS.out]), rfl⟩
        · have HS := Lib.hid (span_off hp _ HG.out (by rw [hl]; simp [h0]))
          go_wp2_with (go_at_call 72; refine (lex_letter s[n] _).mono ?_; rintro e w' ⟨rfl, rfl⟩; rw [hl])
          go_ret
          exact ⟨ret_int (by rw [HS.out]), rfl⟩
    · have HS := Lib.hid (span_end hp _ HG.out)
      go_wp2
      go_ret
      exact ⟨ret_int (by rw [HS.out]), rfl⟩
theorem head_at (s : ByteArray) (h : 0 < s.size) : s.data.toList = (s[0]'h) :: s.data.toList.drop 1 := by
  have := drop_at s 0 h
  simpa using this
theorem size_zero {s : ByteArray} (h : ¬ 0 < s.size) : s = ⟨#[]⟩ := by
  cases s with
  | mk d =>
    have : d = #[] := Array.eq_empty_of_size_eq_zero (by simpa [ByteArray.size] using h)
    rw [this]
theorem pos_emp {s : ByteArray} (h : 0 < s.size) : s.toList.isEmpty = false := str_emp (fun e => by rw [e] at h; exact absurd h (by decide))
set_option maxRecDepth 100000 in
set_option maxHeartbeats 1000000 in
theorem ref_run (s : ByteArray) (w : World) (hs : s.size ≤ 9223372036854775807) :
    Calls Try.prog 71 #[.string s] w fun e w' => e = .returned (.int .i64 (Lx.span s.data.toList)) ∧ w' = w := by
  by_cases hpos : 0 < s.size
  · cases hl0 : Lx.letter s[0] with
    | false =>
      have HZ := Lib.hid (show Lx.span s.data.toList = 0 by rw [head_at s hpos]; unfold Lx.span Lx.spanGo; rw [if_neg (by rw [hl0]; simp)])
      obtain ⟨r, hr⟩ : ∃ r, r = Lx.span s.data.toList := ⟨_, rfl⟩
      rw [← hr]
      have HR := Lib.hid hr
      clear hr
      have he := pos_emp hpos
      go_enter Try.func71, Try.ntmps71
      go_wp2_with (go_at_call 75; refine (ref_letter s[0] _).mono ?_; rintro e w' ⟨rfl, rfl⟩; rw [hl0])
      go_ret
      exact ⟨ret_int (by rw [HR.out, HZ.out]; rfl), rfl⟩
    | true =>
      obtain ⟨r, hr⟩ : ∃ r, r = Lx.span s.data.toList := ⟨_, rfl⟩
      have HR := Lib.hid (show r = 1 + Lx.spanGo true (s.data.toList.drop 1) by rw [hr, head_at s hpos]; unfold Lx.span; simp only [Lx.spanGo, hl0]; simp; omega)
      rw [← hr]
      clear hr
      have he := pos_emp hpos
      go_enter Try.func71, Try.ntmps71
      go_wp2_with (go_at_call 75; refine (ref_letter s[0] _).mono ?_; rintro e w' ⟨rfl, rfl⟩; rw [hl0])
      clear hl0 he
      go_loop [3] (fun nv => ∃ (n : Nat), nv = .int .i64 n ∧ 1 ≤ n ∧ n ≤ s.size ∧ r = n + Lx.spanGo true (s.data.toList.drop n)) (fun nv => s.size - (intOf nv).toNat)
      case atStart => exact ⟨1, rfl, by omega, by omega, HR.out⟩
      case round =>
        obtain ⟨n, rfl, hn1, hn, hg⟩ := hrel
        have HG := Lib.hid hg
        clear hg
        have e1 : decide (0 < n + 1) = true := by simp
        by_cases hp : n < s.size
        · cases hl : Lx.letter s[n] with
          | true =>
            have HS := Lib.hid (by have := span_on hp _ HG.out (by rw [hl]; rfl); rw [e1] at this; exact this)
            clear e1
            go_wp2_with (go_at_call 75; refine (ref_letter s[n] _).mono ?_; rintro e w' ⟨rfl, rfl⟩; rw [hl])
            go_round
            case rel => exact ⟨n + 1, by go_num, by omega, by omega, HS.out⟩
            case measure => simp [intOf]; omega
          | false =>
            cases hd : Lx.digit s[n] with
            | true =>
              have HS := Lib.hid (by have := span_on hp _ HG.out (by rw [hl, hd]; rfl); rw [e1] at this; exact this)
              clear e1
              go_wp2_with (first | (go_at_call 75; refine (ref_letter s[n] _).mono ?_; rintro e w' ⟨rfl, rfl⟩; rw [hl]) | (go_at_call 76; refine (ref_digit s[n] _).mono ?_; rintro e w' ⟨rfl, rfl⟩; rw [hd]))
              go_round
              case rel => exact ⟨n + 1, by go_num, by omega, by omega, HS.out⟩
              case measure => simp [intOf]; omega
            | false =>
              have HS := Lib.hid (span_off hp _ HG.out (by rw [hl, hd]; rfl))
              clear e1
              go_wp2_with (first | (go_at_call 75; refine (ref_letter s[n] _).mono ?_; rintro e w' ⟨rfl, rfl⟩; rw [hl]) | (go_at_call 76; refine (ref_digit s[n] _).mono ?_; rintro e w' ⟨rfl, rfl⟩; rw [hd]))
              go_ret
              exact ⟨ret_int (by rw [HS.out]), rfl⟩
        · have HS := Lib.hid (span_end hp _ HG.out)
          clear e1
          go_wp2
          go_ret
          exact ⟨ret_int (by rw [HS.out]), rfl⟩
  · obtain rfl := size_zero hpos
    go_enter Try.func71, Try.ntmps71
    go_wp2
    go_ret
    exact ⟨rfl, rfl⟩
/-! Numbers. -/
def valOf (b : Nat) (c : UInt8) : Int := if Lx.isDig b c = true then (Lx.dig c : Int) else b
def valRef (b : Nat) (c : UInt8) : Int := if Lx.isDig b c = true then (Lx.dig c : Int) else -1
theorem digit_iff {c : UInt8} : Lx.digit c = true ↔ 48 ≤ c.toNat ∧ c.toNat ≤ 57 := by unfold Lx.digit; simp
theorem isDig_hex {b : Nat} {c : UInt8} (h : Lx.digit c = false) (h1 : 97 ≤ c.toNat) (h2 : c.toNat ≤ 102) : Lx.isDig b c = decide (b = 16) := by unfold Lx.isDig; rw [h]; simp [h1, h2]
theorem isDig_no {b : Nat} {c : UInt8} (h : Lx.digit c = false) (h1 : ¬ (97 ≤ c.toNat ∧ c.toNat ≤ 102)) : Lx.isDig b c = false := by unfold Lx.isDig; rw [h]; simp; omega
theorem val_digit {b : Nat} {c : UInt8} (h : Lx.digit c = true) : valOf b c = (c.toNat : Int) - 48 ∧ valRef b c = (c.toNat : Int) - 48 := by
  have h2 := digit_iff.1 h
  unfold valOf valRef Lx.dig
  rw [if_pos (Lx.isDig_digit h b), if_pos (Lx.isDig_digit h b), if_pos h]; omega
theorem val_hex {b : Nat} {c : UInt8} (h : Lx.digit c = false) (h1 : 97 ≤ c.toNat) (h2 : c.toNat ≤ 102) (hb : b = 10 ∨ b = 16) : valOf b c = min ((c.toNat : Int) - 87) b ∧ valRef b c = if b = 16 then (c.toNat : Int) - 87 else -1 := by
  have hd2 : Lx.dig c = c.toNat - 87 := by unfold Lx.dig; rw [if_neg (by rw [h]; decide)]
  unfold valOf valRef
  rw [isDig_hex h h1 h2, hd2]
  rcases hb with rfl | rfl
  · refine ⟨?_, ?_⟩
    · rw [if_neg (by decide)]; omega
    · rw [if_neg (by decide), if_neg (by decide)]
  · refine ⟨?_, ?_⟩
    · rw [if_pos (by decide)]; omega
    · rw [if_pos (by decide), if_pos rfl]; omega
theorem val_no {b : Nat} {c : UInt8} (h : Lx.digit c = false) (h1 : ¬ (97 ≤ c.toNat ∧ c.toNat ≤ 102)) : valOf b c = b ∧ valRef b c = -1 := by
  unfold valOf valRef
  rw [isDig_no h h1]; simp
/-- What is read of a number, and what is to come. -/
structure NumAt (s : ByteArray) (B F n v : Nat) : Prop where
  from_ : F ≤ n
  to_ : n ≤ s.size
  cap : v ≤ 4294967296
  rest : Lx.numR s.data.toList = ((Lx.numGo B v (s.data.toList.drop n)).1 + (n - F), (Lx.numGo B v (s.data.toList.drop n)).2)
theorem NumAt.start {s : ByteArray} {B F : Nat} (hB : Lx.baseOf s.data.toList = B) (hF : Lx.fromOf s.data.toList = F) : NumAt s B F F 0 :=
  ⟨Nat.le_refl _, by have := Lx.fromOf_le s.data.toList; rw [hF] at this; simpa using this, by omega, by unfold Lx.numR; rw [hB, hF]; simp⟩
theorem NumAt.on {s : ByteArray} {B F n v : Nat} (h : NumAt s B F n v) (hp : n < s.size) (hd : Lx.isDig B s[n] = true) : NumAt s B F (n + 1) (min (v * B + Lx.dig s[n]) 4294967296) := by
  obtain ⟨h1, h2, h3, h4⟩ := h
  refine ⟨by omega, by omega, by omega, ?_⟩
  rw [h4, drop_at s n hp]
  simp only [Lx.numGo]
  rw [if_pos hd]
  refine Prod.ext ?_ rfl
  simp only
  omega
theorem NumAt.off {s : ByteArray} {B F n v : Nat} (h : NumAt s B F n v) (hp : n < s.size) (hd : Lx.isDig B s[n] = false) : Lx.numR s.data.toList = (n - F, v) := by
  rw [h.rest, drop_at s n hp]
  simp only [Lx.numGo]
  rw [if_neg (by rw [hd]; decide)]; simp
theorem NumAt.endd {s : ByteArray} {B F n v : Nat} (h : NumAt s B F n v) (hp : ¬ n < s.size) : Lx.numR s.data.toList = (n - F, v) := by
  rw [h.rest, drop_end s n hp]
  simp [Lx.numGo]
theorem number_of {l : Lx.Bs} {F n v : Nat} (hF : Lx.fromOf l = F) (hr : Lx.numR l = (n - F, v)) (hFn : F ≤ n) : Lx.number l = if n = F ∨ v = 4294967296 ∨ Lx.headLetter (l.drop n) = true then (0, 0) else (n, v) := by
  unfold Lx.number
  rw [hr, hF]
  simp only
  rw [show F + (n - F) = n by omega]
  by_cases h : n = F
  · rw [if_pos (.inl (by omega)), if_pos (.inl h)]
  · by_cases h2 : v = 4294967296
    · rw [if_pos (.inr (.inl h2)), if_pos (.inr (.inl h2))]
    · by_cases h3 : Lx.headLetter (l.drop n) = true
      · rw [if_pos (.inr (.inr h3)), if_pos (.inr (.inr h3))]
      · rw [if_neg (by rintro (a | a | a); omega; exact h2 a; exact h3 a), if_neg (by rintro (a | a | a); exact h a; exact h2 a; exact h3 a)]
theorem head_letter {s : ByteArray} {n : Nat} (hp : n < s.size) : Lx.headLetter (s.data.toList.drop n) = Lx.letter s[n] := by rw [drop_at s n hp]; rfl
theorem head_none {s : ByteArray} {n : Nat} (hp : ¬ n < s.size) : Lx.headLetter (s.data.toList.drop n) = false := by rw [drop_end s n hp]; rfl
theorem dig_lt {B : Nat} {c : UInt8} (hB : B = 10 ∨ B = 16) (h : Lx.isDig B c = true) : Lx.dig c < B := by
  unfold Lx.isDig at h
  unfold Lx.dig
  cases hd : Lx.digit c with
  | true => have := digit_iff.1 hd; rw [if_pos rfl]; omega
  | false =>
    rw [hd] at h
    simp at h
    rw [if_neg (by decide)]; omega
theorem val_yes {B : Nat} {c : UInt8} (h : Lx.isDig B c = true) : valOf B c = (Lx.dig c : Int) ∧ valRef B c = (Lx.dig c : Int) := by unfold valOf valRef; rw [if_pos h, if_pos h]; exact ⟨rfl, rfl⟩
theorem val_not {B : Nat} {c : UInt8} (h : Lx.isDig B c = false) : valOf B c = (B : Int) ∧ valRef B c = -1 := by unfold valOf valRef; rw [if_neg (by rw [h]; decide), if_neg (by rw [h]; decide)]; exact ⟨rfl, rfl⟩
theorem hex_cases (l : Lx.Bs) : (Lx.hex l = true ∧ Lx.baseOf l = 16 ∧ Lx.fromOf l = 2) ∨ (Lx.hex l = false ∧ Lx.baseOf l = 10 ∧ Lx.fromOf l = 0) := by
  unfold Lx.baseOf Lx.fromOf
  cases Lx.hex l with
  | true => exact .inl ⟨rfl, rfl, rfl⟩
  | false => exact .inr ⟨rfl, rfl, rfl⟩
theorem pair_eq {a b : Nat × Nat} (h : a = b) : (Ending.returned (.tuple #[.int .i64 b.1, .int .i64 b.2])) = .returned (.tuple #[.int .i64 a.1, .int .i64 a.2]) := by rw [h]
end Go.Proofs.Ytnngmpimobolpaa
