/- Contract of lex.Line (printed by mklexline.py). -/
import Derived.Test.YtpkpinljbkedlaaDoorLexToks
namespace Go.Proofs.YtpkpinljbkedlaaDoor
open Go.RowKit Mem
set_option linter.unusedVariables false
theorem own_keep {w w' : World} {base n : Nat} {e : TypeId} {size : Nat} {v : Value} {xs : List Value} (h : w.ownsRow base e size v n xs) (hb : Below w.heap.size w w') : w'.ownsRow base e size v n xs := by
  obtain ⟨hl, hv | ⟨g, cap, cur, hv, hbb, hg, h1⟩⟩ := h
  · exact ⟨hl, .inl hv⟩
  · exact ⟨hl, .inr ⟨g, cap, cur, hv, hbb, (hb.block g (Array.getElem?_eq_some_iff.1 hg).1).trans hg, h1⟩⟩
/-- What Line hands back: a line's tokens. -/
def LineGot (s : ByteArray) (w : World) (e : Ending) (w' : World) : Prop :=
  ∃ (A : Option Addr) (n c : Nat), e = .returned (.tuple #[.slice A n c, .bool (Lx.lexS s).isSome]) ∧ Toks w' w'.heap.size A n ((Lx.lexS s).getD []) ∧ Below w.heap.size w w'
/-- At the label: what is left of the line, and the tokens so far. -/
structure LineAt (s : ByteArray) (w : World) (t : ByteArray) (l : Value) (ks : List Lx.Tk) (wr : World) : Prop where
  size : t.size + ks.length ≤ 256
  lex : Lx.lexS s = (Lx.lexL t.data.toList).map (ks ++ ·)
  own : wr.ownsRow w.heap.size 32 3 l ks.length (tcells ks)
  bel : Below w.heap.size w wr
def LineJ (s : ByteArray) (w : World) : Act → World → Prop := (fun a' w' => ∃ (t : ByteArray) (l : Value) (ks : List Lx.Tk) (u5 u6 u7 u8 u9 u10 u11 u12 u13 u14 u15 u16 u17 u18 u19 u20 u21 u22 u23 u24 u25 u26 u27 u28 u29 u30 u31 u32 u33 u34 u35 u36 u37 u38 u39 u40 u41 u42 u43 u44 u45 u46 u47 u48 u49 u50 u51 u52 u53 u54 u55 u56 u57 u58 u59 u60 u61 u62 u63 u64 u65 u66 u67 u68 u69 : Value), a' = { tmps := #[.string t, undef, .slice none 0 0, .bool false, l, u5, u6, u7, u8, u9, u10, u11, u12, u13, u14, u15, u16, u17, u18, u19, u20, u21, u22, u23, u24, u25, u26, u27, u28, u29, u30, u31, u32, u33, u34, u35, u36, u37, u38, u39, u40, u41, u42, u43, u44, u45, u46, u47, u48, u49, u50, u51, u52, u53, u54, u55, u56, u57, u58, u59, u60, u61, u62, u63, u64, u65, u66, u67, u68, u69], defers := [] } ∧ LineAt s w t l ks w')
def lineMu (a' : Act) (_ : World) : Nat := match a'.tmps.getD 0 undef with | .string t => t.size | _ => 0
theorem Tryd.infoTok : (Tryd.prog.info? 32).map (fun i => (i.zero, i.size, i.bytes)) = some (some (.agg #[.int .i64 0, .int .i64 0, .string ⟨#[]⟩]), 3, 32) := by kernel_rfl
theorem line_end {s t : ByteArray} {w w' w1 : World} {A : Option Addr} {n c : Nat} {ks : List Lx.Tk} (hat : LineAt s w t (.slice A n c) ks w') (hl : Lx.lexL t.data.toList = some []) (hb : Below w'.heap.size w' w1) : LineGot s w (.returned (.tuple #[.slice A n c, .bool true])) w1 := by
  have hlex := hat.lex
  rw [hl] at hlex
  simp only [Option.map_some, List.append_nil] at hlex
  have hn : n = ks.length := by
    obtain ⟨A', c', e, _⟩ := own_shape hat.own
    cases e; rfl
  subst hn
  refine ⟨A, _, c, by rw [hlex]; rfl, ?_, hat.bel.trans (hb.mono hat.bel.size)⟩
  rw [hlex]
  exact ((Toks.of_own hat.own).below hb).more hb.size
theorem line_none {s t : ByteArray} {w w' w1 : World} {l : Value} {ks : List Lx.Tk} (hat : LineAt s w t l ks w') (hl : Lx.lexL t.data.toList = none) (hb : Below w'.heap.size w' w1) : LineGot s w (.returned (.tuple #[.slice none 0 0, .bool false])) w1 := by
  have hlex := hat.lex
  rw [hl] at hlex
  simp only [Option.map_none] at hlex
  refine ⟨none, 0, 0, by rw [hlex]; rfl, ?_, hat.bel.trans (hb.mono hat.bel.size)⟩
  rw [hlex]
  exact Toks.nil
theorem ext_drop (t : ByteArray) (n : Nat) : (t.extract n t.size).data.toList = t.data.toList.drop n := by
  rw [Lib.extract_data, List.take_of_length_le (by simp)]
theorem line_next {s t t2 : ByteArray} {w w' w2 wx : World} {l v : Value} {ks : List Lx.Tk} {n : Nat} {k : Lx.Tk} (hat : LineAt s w t l ks w') (h2 : Lx.lexL t2.data.toList = Lx.lexL t.data.toList) (hsz : t2.size ≤ t.size) {c : UInt8} {T : Lx.Bs} (hT : t2.data.toList = c :: T) (hbl : Lx.blank c = false) (hen : Lx.ends c = false) (htok : Lx.tok (c :: T) = some (n, k))
    (hown : wx.ownsRow w.heap.size 32 3 v (ks.length + 1) (tcells ks ++ tkCells k)) (hb : Below w'.heap.size w' w2) (hg : w2.grownBy wx l.ownBlock) : LineAt s w (t2.extract n t2.size) v (ks ++ [k]) wx ∧ (t2.extract n t2.size).size < t.size := by
  have hbd := Lx.tok_bd htok
  have hsz2 : t2.size = (c :: T).length := by rw [← hT]; simp
  have hd : (t2.extract n t2.size).size = t2.size - n := by rw [ByteArray.size_extract]; omega
  refine ⟨⟨?_, ?_, ?_, ?_⟩, by omega⟩
  · have := hat.size
    rw [hd]; simp; omega
  · rw [hat.lex, ← h2, hT, Lx.lexL_some hbl hen htok, ext_drop, hT]
    cases Lx.lexL ((c :: T).drop n) <;> simp
  · rw [tcells_append, tcells_one]; simpa using hown
  · have hs := hat.bel.size
    exact (hat.bel.trans (hb.mono hs)).grown hg (Nat.le_trans hs hb.size) (fun k hk => ((own_block hat.own) k hk).1)
theorem trim_any (t : ByteArray) : ∃ t2 : ByteArray, (∀ w, Calls Tryd.prog 18 #[.string t, .string ⟨#[9, 13, 32]⟩] w fun e w' => e = .returned (.string t2) ∧ Below w.heap.size w w') ∧ Lx.lexL t2.data.toList = Lx.lexL t.data.toList ∧ t2.size ≤ t.size ∧ (∀ c T, t2.data.toList = c :: T → Lx.blank c = false) := by
  refine ⟨⟨(Lib.trimLeftS t.data.toList [9, 13, 32]).toArray⟩, fun w => ?_, ?_, ?_, fun c T h => ?_⟩
  · exact Any.strings_TrimLeft_laid Tryd.lays161 (by kernel_rfl) t ⟨#[9, 13, 32]⟩ w (by decide) (ascii_of_all (by decide))
  · exact Lx.lexL_trim _
  · show (Lib.trimLeftS t.data.toList [9, 13, 32]).toArray.size ≤ _
    have : (Lib.trimLeftS t.data.toList [9, 13, 32]).length ≤ t.data.toList.length := by
      unfold Lib.trimLeftS; exact List.Sublist.length_le (List.dropWhile_sublist _)
    simpa using this
  · exact Lx.trim_head (l := t.data.toList) (by simpa using h)
theorem sign_digit {c : UInt8} {T : Lx.Bs} (h : Lx.digit c = true) : Lx.signLen (c :: T) = 0 := by
  cases e : decide (Lx.signLen (c :: T) = 0) with
  | true => simpa using e
  | false =>
    have e2 : Lx.signLen (c :: T) ≠ 0 := by simpa using e
    have hd := digit_iff.1 h
    have key : c = 60 ∨ c = 62 ∨ Lx.signs.contains c = true := by
      unfold Lx.signLen at e2
      split at e2
      · rename_i h1
        rw [Bool.or_eq_true] at h1
        rcases h1 with h1 | h1
        · simp only [List.isPrefixOf, Bool.and_eq_true] at h1
          exact .inl (eq_of_beq h1.1).symm
        · simp only [List.isPrefixOf, Bool.and_eq_true] at h1
          exact .inr (.inl (eq_of_beq h1.1).symm)
      · cases hc : Lx.signs.contains c with
        | true => exact .inr (.inr rfl)
        | false => rw [Lx.oneSign_no hc] at e2; exact absurd rfl e2
    have all : ∀ c ∈ Lx.signs, ¬ (48 ≤ c.toNat ∧ c.toNat ≤ 57) := by decide
    rcases key with rfl | rfl | h2
    · exact absurd hd (by decide)
    · exact absurd hd (by decide)
    · exact absurd hd (all c (by simpa using h2))
set_option maxRecDepth 100000 in
set_option maxHeartbeats 4000000 in
theorem lex_Line (s : ByteArray) (w : World) (hs : s.size ≤ 9223372036854775806) :
    Calls Tryd.prog 10 #[.string s] w (LineGot s w) := by
  by_cases h256 : s.size ≤ 256
  · go_enter Tryd.func10, Tryd.ntmps10
    go_wp2
    refine wp_scope_jumps3 0 (LineJ s w) lineMu rfl ?_ ?_
    · intro Q' hJ
      go_wp2
      go_step3
      rename_i K hK
      exact hK _ _ (hJ _ _ ⟨s, .slice none 0 0, [], _, _, _, _, _, _, _, _, _, _, _, _, _, _, _, _, _, _, _, _, _, _, _, _, _, _, _, _, _, _, _, _, _, _, _, _, _, _, _, _, _, _, _, _, _, _, _, _, _, _, _, _, _, _, _, _, _, _, _, _, _, _, _, _, _, rfl, ⟨by simpa using h256, by unfold Lx.lexS; rw [if_neg (by omega)]; simp, own_nil _ _ _, Below.refl _ _⟩⟩)
    · rintro a' w' ⟨t, l, ks, u5, u6, u7, u8, u9, u10, u11, u12, u13, u14, u15, u16, u17, u18, u19, u20, u21, u22, u23, u24, u25, u26, u27, u28, u29, u30, u31, u32, u33, u34, u35, u36, u37, u38, u39, u40, u41, u42, u43, u44, u45, u46, u47, u48, u49, u50, u51, u52, u53, u54, u55, u56, u57, u58, u59, u60, u61, u62, u63, u64, u65, u66, u67, u68, u69, rfl, hat⟩
      obtain ⟨A, c, rfl, hlc, hcm⟩ := own_shape hat.own
      have hsz0 := hat.size
      have HA := Lib.hid hat
      clear hat
      obtain ⟨t2, htrim, hlex, hsz, hbl⟩ := trim_any t
      have HTR := Lib.hid htrim; have HL := Lib.hid hlex; have HBL := Lib.hid hbl
      clear htrim hlex hbl
      by_cases h0 : 0 < t2.size
      · have hT := head_at t2 h0
        have HBK := Lib.hid (HBL.out _ _ hT)
        have HT := Lib.hid hT
        clear hT
        have he := pos_emp h0
        have hs2 : t2.size ≤ 9223372036854775806 := by omega
        cases e64 : ((t2[0].toNat : Int) == 64) with
        | true =>
          have HE := Lib.hid (show Lx.lexL t2.data.toList = some [] by rw [HT.out]; exact Lx.lexL_ends HBK.out (by unfold Lx.ends; rw [beq_iff_eq] at e64; simp; omega))
          go_wp2_with (go_at_call 18; refine (HTR.out _).mono ?_; rintro e w1 ⟨rfl, hb⟩; have HB := Lib.hid hb; clear hb)
          simp only [Exit.jump]
          go_ret2
          exact line_end HA.out (by rw [← HL.out]; exact HE.out) HB.out
        | false =>
          cases e59 : ((t2[0].toNat : Int) == 59) with
          | true =>
            have HE := Lib.hid (show Lx.lexL t2.data.toList = some [] by rw [HT.out]; exact Lx.lexL_ends HBK.out (by unfold Lx.ends; rw [beq_iff_eq] at e59; simp; omega))
            go_wp2_with (go_at_call 18; refine (HTR.out _).mono ?_; rintro e w1 ⟨rfl, hb⟩; have HB := Lib.hid hb; clear hb)
            simp only [Exit.jump]
            go_ret2
            exact line_end HA.out (by rw [← HL.out]; exact HE.out) HB.out
          | false =>
            have HEN := Lib.hid (show Lx.ends t2[0] = false by unfold Lx.ends; rw [beq_eq_false_iff_ne] at e59 e64; simp; omega)
            obtain ⟨x, hx⟩ : ∃ x, x = headText t2 (Lx.signLen t2.data.toList) := ⟨_, rfl⟩
            have HX := Lib.hid hx
            have hxs : x.size = Lx.signLen t2.data.toList := by
              have h1 := Lx.signLen_le t2.data.toList
              rw [hx, headText, ByteArray.size_extract]
              simp at h1; omega
            have HXS := Lib.hid hxs
            have hxle : x.size ≤ t2.size := by rw [hxs]; have h1 := Lx.signLen_le t2.data.toList; simpa using h1
            clear hx hxs
            obtain ⟨i0, hi, hz0, hz1, hz2⟩ := info_parts Tryd.infoTok
            cases hlt : Lx.letter t2[0] with
            | true =>
              have HLT := Lib.hid hlt
              obtain ⟨n, hn⟩ : ∃ n, n = Lx.span t2.data.toList := ⟨_, rfl⟩
              have HN := Lib.hid hn
              have hn1 : 1 ≤ n := by rw [hn, HT.out]; exact Lx.span_pos hlt
              have hn2 : n ≤ t2.size := by have := Lx.span_le t2.data.toList; rw [← hn] at this; simpa using this
              have hnz : ((n : Int) == 0) = false := by rw [beq_eq_false_iff_ne]; omega
              clear hlt hn
              by_cases h32 : 32 < n
              · have HE := Lib.hid (show Lx.lexL t2.data.toList = none by rw [HT.out]; exact Lx.lexL_none HBK.out HEN.out (by simp only [Lx.tok]; rw [if_pos HLT.out, ← HT.out, ← HN.out, if_pos h32]))
                go_wp2_with (first | (go_at_call 18; refine (HTR.out _).mono ?_; rintro e w1 ⟨rfl, hb⟩; have HB := Lib.hid hb; clear hb) | (go_at_call 19; refine (lex_sign t2 _ h0 hs2).mono ?_; rintro e w1 ⟨rfl, rfl⟩; rw [← HX.out]) | (go_at_call 20; refine (lex_letter t2[0] _).mono ?_; rintro e w1 ⟨rfl, rfl⟩; rw [HLT.out]) | (go_at_call 21; refine (lex_span t2 _ hs2).mono ?_; rintro e w1 ⟨rfl, rfl⟩; rw [← HN.out]))
                simp only [Exit.jump]
                go_ret2
                exact line_none HA.out (by rw [← HL.out]; exact HE.out) (HB.out.alloc HB.out.size _)
              · have HE := Lib.hid (show Lx.tok (t2[0] :: t2.data.toList.drop 1) = some (n, ⟨1, 0, headText t2 n⟩) by
                  simp only [Lx.tok]; rw [if_pos HLT.out, ← HT.out, ← HN.out, if_neg h32, head_ba])
                go_wp2_with (first | (go_at_call 18; refine (HTR.out _).mono ?_; rintro e w1 ⟨rfl, hb⟩; have HB := Lib.hid hb; clear hb) | (go_at_call 19; refine (lex_sign t2 _ h0 hs2).mono ?_; rintro e w1 ⟨rfl, rfl⟩; rw [← HX.out]) | (go_at_call 20; refine (lex_letter t2[0] _).mono ?_; rintro e w1 ⟨rfl, rfl⟩; rw [HLT.out]) | (go_at_call 21; refine (lex_span t2 _ hs2).mono ?_; rintro e w1 ⟨rfl, rfl⟩; rw [← HN.out]) | (at_builtin; refine wpList_append_lies _ rfl _ _ _ rfl w.heap.size 32 i0 _ 3 32 Tryd.underlying23 hi hz0 hz1 hz2 rfl (by omega) _ ks.length (tcells ks) rfl (((own_keep HA.out.own HB.out).alloc _).alloc _) ⟨w1.heap.size + 1, 0, none⟩ 1 1 [.int .i64 1, .int .i64 0, .string (t2.extract 0 n)] rfl rfl (World.news_of_block (cs := #[.int .i64 1, .int .i64 0, .string (t2.extract 0 n)]) (t := 32) (fr := (0, 0)) (by have := heap_alloc_new (w1.alloc (.cells #[.int .i64 1, .int .i64 0, .string (t2.extract 0 n)] 32)) (.cells #[.int .i64 1, .int .i64 0, .string (t2.extract 0 n)] 32); simpa using this)) (by simp [Value.oneCell']) (by omega) (by unfold maxLen; omega) (by omega) (by have := HA.out.bel.size; have := HB.out.size; simp; omega) (w1.heap.size + 2) (by simp) ?_; intro g cap wx hown1 hgrow hatg hlt1))
                obtain ⟨hN1, hN2⟩ := line_next HA.out HL.out hsz HT.out HBK.out HEN.out HE.out hown1 ((HB.out.alloc HB.out.size _).alloc (by have := HB.out.size; simp; omega) _) hgrow
                have HN1 := Lib.hid hN1
                have HN2 := Lib.hid hN2
                clear hown1 hgrow hatg hN1 hN2
                go_wp2
                go_step3
                exact ⟨rfl, ⟨_, _, _, _, _, _, _, _, _, _, _, _, _, _, _, _, _, _, _, _, _, _, _, _, _, _, _, _, _, _, _, _, _, _, _, _, _, _, _, _, _, _, _, _, _, _, _, _, _, _, _, _, _, _, _, _, _, _, _, _, _, _, _, _, _, _, _, _, rfl, HN1.out⟩, HN2.out⟩
            | false =>
              have HLT := Lib.hid hlt
              clear hlt
              cases hdg : Lx.digit t2[0] with
              | true =>
                have HDG := Lib.hid hdg
                have hx0 : x = ⟨#[]⟩ := by rw [HX.out, HT.out, sign_digit hdg, head_ba]; rfl
                clear hdg
                subst hx0
                obtain ⟨⟨n, v⟩, hn⟩ : ∃ r, r = Lx.number t2.data.toList := ⟨_, rfl⟩
                have HN := Lib.hid hn
                have hn2 : n ≤ t2.size := by have := Lx.number_le t2.data.toList; rw [← hn] at this; simpa using this
                have HTK := Lib.hid (show Lx.tok (t2[0] :: t2.data.toList.drop 1) = if n = 0 then none else some (n, ⟨2, v, ⟨#[]⟩⟩) by
                  simp only [Lx.tok]; rw [if_neg (by rw [HLT.out]; decide), if_pos HDG.out, ← HT.out, ← HN.out]; rfl)
                clear hn
                by_cases hz : n = 0
                · have HE := Lib.hid (show Lx.lexL t2.data.toList = none by rw [HT.out]; exact Lx.lexL_none HBK.out HEN.out (by rw [HTK.out, if_pos hz]))
                  have hnz : ((n : Int) == 0) = true := by rw [beq_iff_eq]; omega
                  clear hz
                  go_wp2_with (first | (go_at_call 18; refine (HTR.out _).mono ?_; rintro e w1 ⟨rfl, hb⟩; have HB := Lib.hid hb; clear hb) | (go_at_call 19; refine (lex_sign t2 _ h0 hs2).mono ?_; rintro e w1 ⟨rfl, rfl⟩; rw [← HX.out]) | (go_at_call 20; refine (lex_letter t2[0] _).mono ?_; rintro e w1 ⟨rfl, rfl⟩; rw [HLT.out]) | (go_at_call 22; refine (lex_digit t2[0] _).mono ?_; rintro e w1 ⟨rfl, rfl⟩; rw [HDG.out]) | (go_at_call 23; refine (lex_number t2 _ hs2).mono ?_; rintro e w1 ⟨rfl, rfl⟩; rw [← HN.out]))
                  simp only [Exit.jump]
                  go_ret2
                  exact line_none HA.out (by rw [← HL.out]; exact HE.out) (HB.out.alloc HB.out.size _)
                · have HE := Lib.hid (show Lx.tok (t2[0] :: t2.data.toList.drop 1) = some (n, ⟨2, v, ⟨#[]⟩⟩) by rw [HTK.out, if_neg hz])
                  have hnz : ((n : Int) == 0) = false := by rw [beq_eq_false_iff_ne]; omega
                  clear hz
                  go_wp2_with (first | (go_at_call 18; refine (HTR.out _).mono ?_; rintro e w1 ⟨rfl, hb⟩; have HB := Lib.hid hb; clear hb) | (go_at_call 19; refine (lex_sign t2 _ h0 hs2).mono ?_; rintro e w1 ⟨rfl, rfl⟩; rw [← HX.out]) | (go_at_call 20; refine (lex_letter t2[0] _).mono ?_; rintro e w1 ⟨rfl, rfl⟩; rw [HLT.out]) | (go_at_call 22; refine (lex_digit t2[0] _).mono ?_; rintro e w1 ⟨rfl, rfl⟩; rw [HDG.out]) | (go_at_call 23; refine (lex_number t2 _ hs2).mono ?_; rintro e w1 ⟨rfl, rfl⟩; rw [← HN.out]) | (at_builtin; refine wpList_append_lies _ rfl _ _ _ rfl w.heap.size 32 i0 _ 3 32 Tryd.underlying23 hi hz0 hz1 hz2 rfl (by omega) _ ks.length (tcells ks) rfl (((own_keep HA.out.own HB.out).alloc _).alloc _) ⟨w1.heap.size + 1, 0, none⟩ 1 1 [.int .i64 2, .int .i64 (v : Int), .string ⟨#[]⟩] rfl rfl (World.news_of_block (cs := #[.int .i64 2, .int .i64 (v : Int), .string ⟨#[]⟩]) (t := 32) (fr := (0, 0)) (by have := heap_alloc_new (w1.alloc (.cells #[.int .i64 2, .int .i64 (v : Int), .string ⟨#[]⟩] 32)) (.cells #[.int .i64 2, .int .i64 (v : Int), .string ⟨#[]⟩] 32); simpa using this)) (by simp [Value.oneCell']) (by omega) (by unfold maxLen; omega) (by omega) (by have := HA.out.bel.size; have := HB.out.size; simp; omega) (w1.heap.size + 2) (by simp) ?_; intro g cap wx hown1 hgrow hatg hlt1))
                  obtain ⟨hN1, hN2⟩ := line_next HA.out HL.out hsz HT.out HBK.out HEN.out HE.out hown1 ((HB.out.alloc HB.out.size _).alloc (by have := HB.out.size; simp; omega) _) hgrow
                  have HN1 := Lib.hid hN1
                  have HN2 := Lib.hid hN2
                  clear hown1 hgrow hatg hN1 hN2
                  go_wp2
                  go_step3
                  exact ⟨rfl, ⟨_, _, _, _, _, _, _, _, _, _, _, _, _, _, _, _, _, _, _, _, _, _, _, _, _, _, _, _, _, _, _, _, _, _, _, _, _, _, _, _, _, _, _, _, _, _, _, _, _, _, _, _, _, _, _, _, _, _, _, _, _, _, _, _, _, _, _, _, rfl, HN1.out⟩, HN2.out⟩
              | false =>
                have HDG := Lib.hid hdg
                clear hdg
                have HTK := Lib.hid (show Lx.tok (t2[0] :: t2.data.toList.drop 1) = if x.size = 0 then none else some (x.size, ⟨3, 0, x⟩) by
                  simp only [Lx.tok]; rw [if_neg (by rw [HLT.out]; decide), if_neg (by rw [HDG.out]; decide), ← HT.out, ← HXS.out, ← head_ba, HXS.out, ← HX.out])
                by_cases hz : x.size = 0
                · have HE := Lib.hid (show Lx.lexL t2.data.toList = none by rw [HT.out]; exact Lx.lexL_none HBK.out HEN.out (by rw [HTK.out, if_pos hz]))
                  have hnz : ((x.size : Int) == 0) = true := by rw [beq_iff_eq]; omega
                  clear hz
                  go_wp2_with (first | (go_at_call 18; refine (HTR.out _).mono ?_; rintro e w1 ⟨rfl, hb⟩; have HB := Lib.hid hb; clear hb) | (go_at_call 19; refine (lex_sign t2 _ h0 hs2).mono ?_; rintro e w1 ⟨rfl, rfl⟩; rw [← HX.out]) | (go_at_call 20; refine (lex_letter t2[0] _).mono ?_; rintro e w1 ⟨rfl, rfl⟩; rw [HLT.out]) | (go_at_call 22; refine (lex_digit t2[0] _).mono ?_; rintro e w1 ⟨rfl, rfl⟩; rw [HDG.out]))
                  simp only [Exit.jump]
                  go_ret2
                  exact line_none HA.out (by rw [← HL.out]; exact HE.out) (HB.out.alloc HB.out.size _)
                · have HE := Lib.hid (show Lx.tok (t2[0] :: t2.data.toList.drop 1) = some (x.size, ⟨3, 0, x⟩) by rw [HTK.out, if_neg hz])
                  have hnz : ((x.size : Int) == 0) = false := by rw [beq_eq_false_iff_ne]; omega
                  clear hz
                  go_wp2_with (first | (go_at_call 18; refine (HTR.out _).mono ?_; rintro e w1 ⟨rfl, hb⟩; have HB := Lib.hid hb; clear hb) | (go_at_call 19; refine (lex_sign t2 _ h0 hs2).mono ?_; rintro e w1 ⟨rfl, rfl⟩; rw [← HX.out]) | (go_at_call 20; refine (lex_letter t2[0] _).mono ?_; rintro e w1 ⟨rfl, rfl⟩; rw [HLT.out]) | (go_at_call 22; refine (lex_digit t2[0] _).mono ?_; rintro e w1 ⟨rfl, rfl⟩; rw [HDG.out]) | (at_builtin; refine wpList_append_lies _ rfl _ _ _ rfl w.heap.size 32 i0 _ 3 32 Tryd.underlying23 hi hz0 hz1 hz2 rfl (by omega) _ ks.length (tcells ks) rfl (((own_keep HA.out.own HB.out).alloc _).alloc _) ⟨w1.heap.size + 1, 0, none⟩ 1 1 [.int .i64 3, .int .i64 0, .string x] rfl rfl (World.news_of_block (cs := #[.int .i64 3, .int .i64 0, .string x]) (t := 32) (fr := (0, 0)) (by have := heap_alloc_new (w1.alloc (.cells #[.int .i64 3, .int .i64 0, .string x] 32)) (.cells #[.int .i64 3, .int .i64 0, .string x] 32); simpa using this)) (by simp [Value.oneCell']) (by omega) (by unfold maxLen; omega) (by omega) (by have := HA.out.bel.size; have := HB.out.size; simp; omega) (w1.heap.size + 2) (by simp) ?_; intro g cap wx hown1 hgrow hatg hlt1))
                  obtain ⟨hN1, hN2⟩ := line_next HA.out HL.out hsz HT.out HBK.out HEN.out HE.out hown1 ((HB.out.alloc HB.out.size _).alloc (by have := HB.out.size; simp; omega) _) hgrow
                  have HN1 := Lib.hid hN1
                  have HN2 := Lib.hid hN2
                  clear hown1 hgrow hatg hN1 hN2
                  go_wp2
                  go_step3
                  exact ⟨rfl, ⟨_, _, _, _, _, _, _, _, _, _, _, _, _, _, _, _, _, _, _, _, _, _, _, _, _, _, _, _, _, _, _, _, _, _, _, _, _, _, _, _, _, _, _, _, _, _, _, _, _, _, _, _, _, _, _, _, _, _, _, _, _, _, _, _, _, _, _, _, rfl, HN1.out⟩, HN2.out⟩
      · obtain rfl := size_zero h0
        go_wp2_with (go_at_call 18; refine (HTR.out _).mono ?_; rintro e w1 ⟨rfl, hb⟩; have HB := Lib.hid hb; clear hb)
        simp only [Exit.jump]
        go_ret2
        exact line_end HA.out (by rw [← HL.out]; rfl) HB.out
  · have HE := Lib.hid (show Lx.lexS s = none by unfold Lx.lexS; rw [if_pos (by omega)])
    go_enter Tryd.func10, Tryd.ntmps10
    go_wp2
    go_step3
    go_wp2
    rw [Exit.noGoto_ret]
    go_ret2
    exact ⟨none, 0, 0, by rw [HE.out]; rfl, by rw [HE.out]; exact Toks.nil, Below.refl _ _⟩
end Go.Proofs.YtpkpinljbkedlaaDoor

