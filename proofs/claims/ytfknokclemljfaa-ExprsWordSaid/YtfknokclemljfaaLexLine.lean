/- Contract of lex.Line (printed by mklexline.py). -/
import Derived.Test.YtfknokclemljfaaLexToks
namespace Go.Proofs.Ytfknokclemljfaa
open Go.RowKit Mem
set_option linter.unusedVariables false
theorem own_keep {w w' : World} {base n : Nat} {e : TypeId} {size : Nat} {v : Value} {xs : List Value} (h : w.ownsRow base e size v n xs) (hb : Below w.heap.size w w') : w'.ownsRow base e size v n xs := by
  obtain ⟨hl, hv | ⟨g, cap, cur, hv, hbb, hg, h1⟩⟩ := h
  · exact ⟨hl, .inl hv⟩
  · exact ⟨hl, .inr ⟨g, cap, cur, hv, hbb, (hb.block g (Array.getElem?_eq_some_iff.1 hg).1).trans hg, h1⟩⟩
/-- What Line hands back: a line's tokens. -/
def LineGot (s : ByteArray) (w : World) (e : Ending) (w' : World) : Prop :=
  ∃ (A : Option Addr) (n c : Nat), e = .returned (.tuple #[.slice A n c, .bool (Lx.lexS s).isSome]) ∧ Toks w' w'.heap.size A n ((Lx.lexS s).getD []) ∧ Below w.heap.size w w'
/-- At the label: what is left of the line, and the tokens so far. -/
structure LineAt (s : ByteArray) (w : World) (t : ByteArray) (l : Value) (ks : List Lx.Tk) (wr : World) : Prop where
  size : t.size + ks.length ≤ 256
  lex : Lx.lexS s = (Lx.lexL t.data.toList).map (ks ++ ·)
  own : wr.ownsRow w.heap.size 55 3 l ks.length (tcells ks)
  bel : Below w.heap.size w wr
def LineJ (s : ByteArray) (w : World) : Act → World → Prop := (fun a' w' => ∃ (t : ByteArray) (l : Value) (ks : List Lx.Tk) (u5 u6 u7 u8 u9 u10 u11 u12 u13 u14 u15 u16 u17 u18 u19 u20 u21 u22 u23 u24 u25 u26 u27 u28 u29 u30 u31 u32 u33 u34 u35 u36 u37 u38 u39 u40 u41 u42 u43 u44 u45 u46 u47 u48 u49 u50 u51 u52 u53 u54 u55 u56 u57 u58 u59 u60 u61 u62 u63 u64 u65 u66 u67 u68 u69 : Value), a' = { tmps := #[.string t, undef, .slice none 0 0, .bool false, l, u5, u6, u7, u8, u9, u10, u11, u12, u13, u14, u15, u16, u17, u18, u19, u20, u21, u22, u23, u24, u25, u26, u27, u28, u29, u30, u31, u32, u33, u34, u35, u36, u37, u38, u39, u40, u41, u42, u43, u44, u45, u46, u47, u48, u49, u50, u51, u52, u53, u54, u55, u56, u57, u58, u59, u60, u61, u62, u63, u64, u65, u66, u67, u68, u69], defers := [] } ∧ LineAt s w t l ks w')
def lineMu (a' : Act) (_ : World) : Nat := match a'.tmps.getD 0 undef with | .string t => t.size | _ => 0
theorem Try.infoTok : (Try.prog.info? 55).map (fun i => (i.zero, i.size, i.bytes)) = some (some (.agg #[.int .i64 0, .int .i64 0, .string ⟨#[]⟩]), 3, 32) := by kernel_rfl
theorem line_end {s t : ByteArray} {w w' w1 : World} {A : Option Addr} {n c : Nat} {ks : List Lx.Tk} (hat : LineAt s w t (.slice A n c) ks w') (hl : Lx.lexL t.data.toList = some []) (hb : Below w'.heap.size w' w1) : LineGot s w (.returned (.tuple #[.slice A n c, .bool true])) w1 := by
  have hlex := hat.lex
  rw [hl] at hlex
  simp only [Option.map_some, List.append_nil] at hlex
  have hn : n = ks.length := by
    obtain ⟨A', c', e, _⟩ := own_shape hat.own
    cases e; rfl
  subst hn
  refine ⟨A, _, c, by rw [hlex]; rfl, ?_, hat.bel.trans (hb.mono hat.bel.size)⟩
  rw [hlex]
  exact ((Toks.of_own hat.own).below hb).more hb.size
theorem line_none {s t : ByteArray} {w w' w1 : World} {l : Value} {ks : List Lx.Tk} (hat : LineAt s w t l ks w') (hl : Lx.lexL t.data.toList = none) (hb : Below w'.heap.size w' w1) : LineGot s w (.returned (.tuple #[.slice none 0 0, .bool false])) w1 := by
  have hlex := hat.lex
  rw [hl] at hlex
  simp only [Option.map_none] at hlex
  refine ⟨none, 0, 0, by rw [hlex]; rfl, ?_, hat.bel.trans (hb.mono hat.bel.size)⟩
  rw [hlex]
  exact Toks.nil
theorem ext_drop (t : ByteArray) (n : Nat) : (t.extract n t.size).data.toList = t.data.toList.drop n := by
  rw [Lib.extract_data, List.take_of_length_le (by simp)]
theorem line_next {s t t2 : ByteArray} {w w' w2 wx : World} {l v : Value} {ks : List Lx.Tk} {n : Nat} {k : Lx.Tk} (hat : LineAt s w t l ks w') (h2 : Lx.lexL t2.data.toList = Lx.lexL t.data.toList) (hsz : t2.size ≤ t.size) {c : UInt8} {T : Lx.Bs} (hT : t2.data.toList = c :: T) (hbl : Lx.blank c = false) (hen : Lx.ends c = false) (htok : Lx.tok (c :: T) = some (n, k))
    (hown : wx.ownsRow w.heap.size 55 3 v (ks.length + 1) (tcells ks ++ tkCells k)) (hb : Below w'.heap.size w' w2) (hg : w2.grownBy wx l.ownBlock) : LineAt s w (t2.extract n t2.size) v (ks ++ [k]) wx ∧ (t2.extract n t2.size).size < t.size := by
  have hbd := Lx.tok_bd htok
  have hsz2 : t2.size = (c :: T).length := by rw [← hT]; simp
  have hd : (t2.extract n t2.size).size = t2.size - n := by rw [ByteArray.size_extract]; omega
  refine ⟨⟨?_, ?_, ?_, ?_⟩, by omega⟩
  · have := hat.size
    rw [hd]; simp; omega
  · rw [hat.lex, ← h2, hT, Lx.lexL_some hbl hen htok, ext_drop, hT]
    cases Lx.lexL ((c :: T).drop n) <;> simp
  · rw [tcells_append, tcells_one]; simpa using hown
  · have hs := hat.bel.size
    exact (hat.bel.trans (hb.mono hs)).grown hg (Nat.le_trans hs hb.size) (fun k hk => ((own_block hat.own) k hk).1)
theorem sign_digit {c : UInt8} {T : Lx.Bs} (h : Lx.digit c = true) : Lx.signLen (c :: T) = 0 := by
  cases e : decide (Lx.signLen (c :: T) = 0) with
  | true => simpa using e
  | false =>
    have e2 : Lx.signLen (c :: T) ≠ 0 := by simpa using e
    have hd := digit_iff.1 h
    have key : c = 60 ∨ c = 62 ∨ Lx.signs.contains c = true := by
      unfold Lx.signLen at e2
      split at e2
      · rename_i h1
        rw [Bool.or_eq_true] at h1
        rcases h1 with h1 | h1
        · simp only [List.isPrefixOf, Bool.and_eq_true] at h1
          exact .inl (eq_of_beq h1.1).symm
        · simp only [List.isPrefixOf, Bool.and_eq_true] at h1
          exact .inr (.inl (eq_of_beq h1.1).symm)
      · cases hc : Lx.signs.contains c with
        | true => exact .inr (.inr rfl)
        | false => rw [Lx.oneSign_no hc] at e2; exact absurd rfl e2
    have all : ∀ c ∈ Lx.signs, ¬ (48 ≤ c.toNat ∧ c.toNat ≤ 57) := by decide
    rcases key with rfl | rfl | h2
    · exact absurd hd (by decide)
    · exact absurd hd (by decide)
    · exact absurd hd (all c (by simpa using h2))
end Go.Proofs.Ytfknokclemljfaa

