/- Contract of the reference's Line (printed by mkrefline.py). -/
import Derived.Test.YtfknokclemljfaaLexLine
namespace Go.Proofs.Ytfknokclemljfaa
open Go.RowKit Mem
set_option linter.unusedVariables false
/-- At a round's head: the place, and the tokens so far. -/
structure RefAt (s : ByteArray) (w : World) (pos : Nat) (l : Value) (ks : List Lx.Tk) (wr : World) : Prop where
  in_ : pos ≤ s.size
  few : ks.length ≤ pos
  lex : Lx.lexS s = (Lx.lexL (s.data.toList.drop pos)).map (ks ++ ·)
  own : wr.ownsRow w.heap.size 55 3 l ks.length (tcells ks)
  bel : Below w.heap.size w wr
theorem drop_ext (s : ByteArray) (n : Nat) : (s.extract n s.size).data.toList = s.data.toList.drop n := ext_drop s n
section
variable {s : ByteArray} {w w' w1 : World} {pos : Nat} {l v : Value} {ks : List Lx.Tk}
theorem ref_end {A : Option Addr} {n c : Nat} (hat : RefAt s w s.size (.slice A n c) ks w') : LineGot s w (.returned (.tuple #[.slice A n c, .bool true])) w' := by
  have hlex := hat.lex
  rw [List.drop_eq_nil_of_le (by simp)] at hlex
  have hl2 : Lx.lexS s = some ks := by rw [hlex]; simp [Lx.lexL_nil]
  have hn : n = ks.length := by
    obtain ⟨A', c', e, _⟩ := own_shape hat.own
    cases e; rfl
  subst hn
  refine ⟨A, _, c, by rw [hl2]; rfl, ?_, hat.bel⟩
  rw [hl2]
  exact Toks.of_own hat.own
theorem ref_none (hat : RefAt s w pos l ks w') (hl : Lx.lexL (s.data.toList.drop pos) = none) (hb : Below w'.heap.size w' w1) : LineGot s w (.returned (.tuple #[.slice none 0 0, .bool false])) w1 := by
  have hlex := hat.lex
  rw [hl] at hlex
  simp only [Option.map_none] at hlex
  refine ⟨none, 0, 0, by rw [hlex]; rfl, ?_, hat.bel.trans (hb.mono hat.bel.size)⟩
  rw [hlex]
  exact Toks.nil
theorem ref_drop {t2 : ByteArray} (h2 : s.extract pos s.size = t2) {c : UInt8} {T : Lx.Bs} (hT : t2.data.toList = c :: T) : s.data.toList.drop pos = c :: T := by
  rw [← hT, ← h2, drop_ext]
theorem ref_blank {t2 : ByteArray} (hat : RefAt s w pos l ks w') (h2 : s.extract pos s.size = t2) (hlt : pos < s.size) {c : UInt8} {T : Lx.Bs} (hT : t2.data.toList = c :: T) (hb : Lx.blank c = true) : RefAt s w (pos + 1) l ks w' := by
  have hd := ref_drop h2 hT
  refine ⟨by omega, by have := hat.few; omega, ?_, hat.own, hat.bel⟩
  rw [hat.lex, hd, Lx.lexL_blank hb, show s.data.toList.drop (pos + 1) = T by rw [← List.drop_drop, hd]; rfl]
theorem ref_ends {t2 : ByteArray} (hat : RefAt s w pos l ks w') (h2 : s.extract pos s.size = t2) (hlt : pos < s.size) {c : UInt8} {T : Lx.Bs} (hT : t2.data.toList = c :: T) (hb : Lx.blank c = false) (he : Lx.ends c = true) : RefAt s w s.size l ks w' := by
  have hd := ref_drop h2 hT
  refine ⟨by omega, by have := hat.few; omega, ?_, hat.own, hat.bel⟩
  rw [hat.lex, hd, Lx.lexL_ends hb he, List.drop_eq_nil_of_le (by simp)]; rfl
theorem ref_next {t2 : ByteArray} {w2 wx : World} {n : Nat} {k : Lx.Tk} (hat : RefAt s w pos l ks w') (h2 : s.extract pos s.size = t2) (hlt : pos < s.size) {c : UInt8} {T : Lx.Bs} (hT : t2.data.toList = c :: T) (hbl : Lx.blank c = false) (hen : Lx.ends c = false) (htok : Lx.tok (c :: T) = some (n, k))
    (hown : wx.ownsRow w.heap.size 55 3 v (ks.length + 1) (tcells ks ++ tkCells k)) (hb : Below w'.heap.size w' w2) (hg : w2.grownBy wx l.ownBlock) : RefAt s w (pos + n) v (ks ++ [k]) wx := by
  have hd := ref_drop h2 hT
  have hbd := Lx.tok_bd htok
  have hl : (s.data.toList.drop pos).length = (c :: T).length := by rw [hd]
  have hs := hat.bel.size
  refine ⟨?_, ?_, ?_, ?_, (hat.bel.trans (hb.mono hs)).grown hg (Nat.le_trans hs hb.size) (fun k hk => ((own_block hat.own) k hk).1)⟩
  · rw [List.length_drop] at hl; simp at hl hbd; omega
  · have := hat.few; simp; omega
  · rw [hat.lex, hd, Lx.lexL_some hbl hen htok, ← List.drop_drop, hd]
    cases Lx.lexL ((c :: T).drop n) <;> simp
  · rw [tcells_append, tcells_one]; simpa using hown
theorem blank_of {c : UInt8} (h : c.toNat = 9 ∨ c.toNat = 13 ∨ c.toNat = 32) : Lx.blank c = true := by
  have : c = 9 ∨ c = 13 ∨ c = 32 := by
    rcases h with h | h | h
    · exact .inl (UInt8.toNat_inj.1 h)
    · exact .inr (.inl (UInt8.toNat_inj.1 h))
    · exact .inr (.inr (UInt8.toNat_inj.1 h))
  rcases this with rfl | rfl | rfl <;> rfl
theorem blank_not {c : UInt8} (h : c.toNat ≠ 9 ∧ c.toNat ≠ 13 ∧ c.toNat ≠ 32) : Lx.blank c = false := by
  cases e : Lx.blank c with
  | false => rfl
  | true =>
    have h2 : c ∈ [9, 13, 32] := by simpa [Lx.blank] using e
    rcases (by simpa using h2 : c = 9 ∨ c = 13 ∨ c = 32) with rfl | rfl | rfl <;> simp at h
end
set_option maxRecDepth 100000 in
set_option maxHeartbeats 8000000 in
theorem ref_Line (s : ByteArray) (w : World) (hs : s.size ≤ 9223372036854775807) :
    Calls Try.prog 10 #[.string s] w (LineGot s w) := by
  by_cases h256 : s.size ≤ 256
  · have h256' : ¬ 256 < s.size := by omega
    go_enter Try.func10, Try.ntmps10
    go_wp2
    clear h256'
    go_loopw [4, 5] (fun lv iv wr => ∃ (pos : Nat) (ks : List Lx.Tk), iv = .int .i64 pos ∧ RefAt s w pos lv ks wr) (fun _ iv _ => s.size - (intOf iv).toNat)
    case atStart => exact ⟨0, [], rfl, ⟨by omega, by simp, by unfold Lx.lexS; rw [if_neg (by omega)]; simp, own_nil _ _ _, Below.refl _ _⟩⟩
    case round =>
    obtain ⟨pos, ks, rfl, hat⟩ := hrel
    obtain ⟨A, c, rfl, hlc, hcm⟩ := own_shape hat.own
    have HA := Lib.hid hat
    clear hat
    by_cases hlt : pos < s.size
    · obtain ⟨t2, ht2⟩ : ∃ t2, s.extract pos s.size = t2 := ⟨_, rfl⟩
      have HT2 := Lib.hid ht2
      have hsz2 : t2.size = s.size - pos := by rw [← ht2, ByteArray.size_extract]; omega
      have h0 : 0 < t2.size := by omega
      have hs2 : t2.size ≤ 9223372036854775807 := by omega
      have hle2 : t2.size ≤ 256 - pos := by omega
      clear hsz2
      have hT := head_at t2 h0
      have HT := Lib.hid hT
      clear hT
      have hpl := HA.out.few
      cases bb : ((t2[0].toNat : Int) == 9) with
      | true =>
        have HN1 := Lib.hid (ref_blank HA.out HT2.out hlt HT.out (show Lx.blank t2[0] = true from blank_of (by simp only [beq_iff_eq] at bb; omega)))
        go_wp2
        go_roundw
        case rel => exact ⟨pos + 1, _, by go_num, HN1.out⟩
        case measure => simp [intOf]; omega
      | false =>
        cases bc : ((t2[0].toNat : Int) == 13) with
        | true =>
          have bd := bb; have bb := bc; clear bc
          have HN1 := Lib.hid (ref_blank HA.out HT2.out hlt HT.out (show Lx.blank t2[0] = true from blank_of (by simp only [beq_iff_eq] at bb; omega)))
          go_wp2
          go_roundw
          case rel => exact ⟨pos + 1, _, by go_num, HN1.out⟩
          case measure => simp [intOf]; omega
        | false =>
          cases bd : ((t2[0].toNat : Int) == 32) with
          | true =>
            have be := bb; have bb := bd; clear bd
            have HN1 := Lib.hid (ref_blank HA.out HT2.out hlt HT.out (show Lx.blank t2[0] = true from blank_of (by simp only [beq_iff_eq] at bb; omega)))
            go_wp2
            go_roundw
            case rel => exact ⟨pos + 1, _, by go_num, HN1.out⟩
            case measure => simp [intOf]; omega
          | false =>
            have HBK := Lib.hid (show Lx.blank t2[0] = false from blank_not (by rw [beq_eq_false_iff_ne] at bb bc bd; omega))
            cases b64 : ((t2[0].toNat : Int) == 64) with
            | true =>
              have be := bb; have bb := b64; clear b64
              have HN1 := Lib.hid (ref_ends HA.out HT2.out hlt HT.out HBK.out (show Lx.ends t2[0] = true by unfold Lx.ends; simp only [beq_iff_eq] at bb; simp; omega))
              go_wp2
              go_roundw
              case rel => exact ⟨s.size, _, rfl, HN1.out⟩
              case measure => simp [intOf]; omega
            | false =>
              cases b59 : ((t2[0].toNat : Int) == 59) with
              | true =>
                have be := bb; have bb := b59; clear b59
                have HN1 := Lib.hid (ref_ends HA.out HT2.out hlt HT.out HBK.out (show Lx.ends t2[0] = true by unfold Lx.ends; simp only [beq_iff_eq] at bb; simp; omega))
                go_wp2
                go_roundw
                case rel => exact ⟨s.size, _, rfl, HN1.out⟩
                case measure => simp [intOf]; omega
              | false =>
                have HEN := Lib.hid (show Lx.ends t2[0] = false by unfold Lx.ends; rw [beq_eq_false_iff_ne] at b59 b64; simp; omega)
                obtain ⟨i0, hi, hz0, hz1, hz2⟩ := info_parts Try.infoTok
                cases hl : Lx.letter t2[0] with
                | true =>
                  have HLT := Lib.hid hl
                  obtain ⟨n, hn⟩ : ∃ n, n = Lx.span t2.data.toList := ⟨_, rfl⟩
                  have HN := Lib.hid hn
                  have hn1 : 1 ≤ n := by rw [hn, HT.out]; exact Lx.span_pos hl
                  have hn2 : n ≤ t2.size := by have := Lx.span_le t2.data.toList; rw [← hn] at this; simpa using this
                  clear hl hn
                  by_cases h32 : 32 < n
                  · have HE := Lib.hid (show Lx.lexL t2.data.toList = none by rw [HT.out]; exact Lx.lexL_none HBK.out HEN.out (by simp only [Lx.tok]; rw [if_pos HLT.out, ← HT.out, ← HN.out, if_pos h32]))
                    go_wp2_with (first | (go_at_call 21; refine (ref_letter t2[0] _).mono ?_; rintro e wr ⟨rfl, rfl⟩; rw [HLT.out]) | (go_at_call 22; refine (ref_run t2 _ hs2).mono ?_; rintro e wr ⟨rfl, rfl⟩; rw [← HN.out]))
                    go_ret2
                    exact ref_none HA.out (by rw [← drop_ext, HT2.out]; exact HE.out) (Below.refl _ _)
                  · have HE := Lib.hid (show Lx.tok (t2[0] :: t2.data.toList.drop 1) = some (n, ⟨1, 0, headText t2 n⟩) by
                      simp only [Lx.tok]; rw [if_pos HLT.out, ← HT.out, ← HN.out, if_neg h32, head_ba])
                    go_wp2_with (first | (go_at_call 21; refine (ref_letter t2[0] _).mono ?_; rintro e wr ⟨rfl, rfl⟩; rw [HLT.out]) | (go_at_call 22; refine (ref_run t2 _ hs2).mono ?_; rintro e wr ⟨rfl, rfl⟩; rw [← HN.out]) | (at_builtin; refine wpList_append_lies _ rfl _ _ _ rfl w.heap.size 55 i0 _ 3 32 Try.underlying37 hi hz0 hz1 hz2 rfl (by omega) _ ks.length (tcells ks) rfl ((HA.out.own).alloc _) ⟨wr.heap.size, 0, none⟩ 1 1 [.int .i64 1, .int .i64 0, .string (t2.extract 0 n)] rfl rfl (World.news_of_block (cs := #[.int .i64 1, .int .i64 0, .string (t2.extract 0 n)]) (t := 55) (fr := (0, 0)) (heap_alloc_new wr _)) (by simp [Value.oneCell']) (by omega) (by unfold maxLen; omega) (by omega) (by have := HA.out.bel.size; simp; omega) (wr.heap.size + 1) (by simp) ?_; intro g cap wx hown1 hgrow hatg hlt1))
                    have HN1 := Lib.hid (ref_next HA.out HT2.out hlt HT.out HBK.out HEN.out HE.out hown1 ((Below.refl _ _).alloc (Nat.le_refl _) _) hgrow)
                    clear hown1 hgrow hatg
                    go_wp2
                    go_roundw
                    case rel => exact ⟨pos + n, _, by go_num, HN1.out⟩
                    case measure => simp [intOf]; omega
                | false =>
                  have HLT := Lib.hid hl
                  clear hl
                  cases hdg : Lx.digit t2[0] with
                  | true =>
                    have HDG := Lib.hid hdg
                    clear hdg
                    obtain ⟨⟨n, v⟩, hn⟩ : ∃ r, r = Lx.number t2.data.toList := ⟨_, rfl⟩
                    have HN := Lib.hid hn
                    have hn2 : n ≤ t2.size := by have := Lx.number_le t2.data.toList; rw [← hn] at this; simpa using this
                    have HTK := Lib.hid (show Lx.tok (t2[0] :: t2.data.toList.drop 1) = if n = 0 then none else some (n, ⟨2, v, ⟨#[]⟩⟩) by
                      simp only [Lx.tok]; rw [if_neg (by rw [HLT.out]; decide), if_pos HDG.out, ← HT.out, ← HN.out]; rfl)
                    clear hn
                    by_cases hz : n = 0
                    · have HE := Lib.hid (show Lx.lexL t2.data.toList = none by rw [HT.out]; exact Lx.lexL_none HBK.out HEN.out (by rw [HTK.out, if_pos hz]))
                      have hnz : ((n : Int) == 0) = true := by rw [beq_iff_eq]; omega
                      clear hz
                      go_wp2_with (first | (go_at_call 21; refine (ref_letter t2[0] _).mono ?_; rintro e wr ⟨rfl, rfl⟩; rw [HLT.out]) | (go_at_call 23; refine (ref_digit t2[0] _).mono ?_; rintro e wr ⟨rfl, rfl⟩; rw [HDG.out]) | (go_at_call 24; refine (ref_number t2 _ hs2).mono ?_; rintro e wr ⟨rfl, rfl⟩; rw [← HN.out]))
                      go_ret2
                      exact ref_none HA.out (by rw [← drop_ext, HT2.out]; exact HE.out) (Below.refl _ _)
                    · have HE := Lib.hid (show Lx.tok (t2[0] :: t2.data.toList.drop 1) = some (n, ⟨2, v, ⟨#[]⟩⟩) by rw [HTK.out, if_neg hz])
                      have hnz : ((n : Int) == 0) = false := by rw [beq_eq_false_iff_ne]; omega
                      have hn1 : 1 ≤ n := by omega
                      clear hz
                      go_wp2_with (first | (go_at_call 21; refine (ref_letter t2[0] _).mono ?_; rintro e wr ⟨rfl, rfl⟩; rw [HLT.out]) | (go_at_call 23; refine (ref_digit t2[0] _).mono ?_; rintro e wr ⟨rfl, rfl⟩; rw [HDG.out]) | (go_at_call 24; refine (ref_number t2 _ hs2).mono ?_; rintro e wr ⟨rfl, rfl⟩; rw [← HN.out]) | (at_builtin; refine wpList_append_lies _ rfl _ _ _ rfl w.heap.size 55 i0 _ 3 32 Try.underlying37 hi hz0 hz1 hz2 rfl (by omega) _ ks.length (tcells ks) rfl ((HA.out.own).alloc _) ⟨wr.heap.size, 0, none⟩ 1 1 [.int .i64 2, .int .i64 (v : Int), .string ⟨#[]⟩] rfl rfl (World.news_of_block (cs := #[.int .i64 2, .int .i64 (v : Int), .string ⟨#[]⟩]) (t := 55) (fr := (0, 0)) (heap_alloc_new wr _)) (by simp [Value.oneCell']) (by omega) (by unfold maxLen; omega) (by omega) (by have := HA.out.bel.size; simp; omega) (wr.heap.size + 1) (by simp) ?_; intro g cap wx hown1 hgrow hatg hlt1))
                      have HN1 := Lib.hid (ref_next HA.out HT2.out hlt HT.out HBK.out HEN.out HE.out hown1 ((Below.refl _ _).alloc (Nat.le_refl _) _) hgrow)
                      clear hown1 hgrow hatg
                      go_wp2
                      go_roundw
                      case rel => exact ⟨pos + n, _, by go_num, HN1.out⟩
                      case measure => simp [intOf]; omega
                  | false =>
                    have HDG := Lib.hid hdg
                    clear hdg
                    obtain ⟨n, hn⟩ : ∃ n, n = Lx.signLen t2.data.toList := ⟨_, rfl⟩
                    have HN := Lib.hid hn
                    have hn2 : n ≤ t2.size := by have := Lx.signLen_le t2.data.toList; rw [← hn] at this; simpa using this
                    have HTK := Lib.hid (show Lx.tok (t2[0] :: t2.data.toList.drop 1) = if n = 0 then none else some (n, ⟨3, 0, headText t2 n⟩) by
                      simp only [Lx.tok]; rw [if_neg (by rw [HLT.out]; decide), if_neg (by rw [HDG.out]; decide), ← HT.out, ← HN.out, ← head_ba])
                    clear hn
                    by_cases hz : n = 0
                    · have HE := Lib.hid (show Lx.lexL t2.data.toList = none by rw [HT.out]; exact Lx.lexL_none HBK.out HEN.out (by rw [HTK.out, if_pos hz]))
                      have hnz : ((n : Int) == 0) = true := by rw [beq_iff_eq]; omega
                      clear hz
                      go_wp2_with (first | (go_at_call 21; refine (ref_letter t2[0] _).mono ?_; rintro e wr ⟨rfl, rfl⟩; rw [HLT.out]) | (go_at_call 23; refine (ref_digit t2[0] _).mono ?_; rintro e wr ⟨rfl, rfl⟩; rw [HDG.out]) | (go_at_call 25; refine (ref_sign t2 _ h0 hs2).mono ?_; rintro e w1 ⟨rfl, nd, rfl⟩; rw [← HN.out]))
                      go_ret2
                      exact ref_none HA.out (by rw [← drop_ext, HT2.out]; exact HE.out) (below_drewN (Below.refl _ _) _)
                    · have HE := Lib.hid (show Lx.tok (t2[0] :: t2.data.toList.drop 1) = some (n, ⟨3, 0, headText t2 n⟩) by rw [HTK.out, if_neg hz])
                      have hnz : ((n : Int) == 0) = false := by rw [beq_eq_false_iff_ne]; omega
                      have hn1 : 1 ≤ n := by omega
                      clear hz
                      go_wp2_with (first | (go_at_call 21; refine (ref_letter t2[0] _).mono ?_; rintro e wr ⟨rfl, rfl⟩; rw [HLT.out]) | (go_at_call 23; refine (ref_digit t2[0] _).mono ?_; rintro e wr ⟨rfl, rfl⟩; rw [HDG.out]) | (go_at_call 25; refine (ref_sign t2 _ h0 hs2).mono ?_; rintro e w1 ⟨rfl, nd, rfl⟩; rw [← HN.out]) | (at_builtin; refine wpList_append_lies _ rfl _ _ _ rfl w.heap.size 55 i0 _ 3 32 Try.underlying37 hi hz0 hz1 hz2 rfl (by omega) _ ks.length (tcells ks) rfl ((HA.out.own).alloc _) ⟨wr.heap.size, 0, none⟩ 1 1 [.int .i64 3, .int .i64 0, .string (t2.extract 0 n)] rfl rfl (World.news_of_block (cs := #[.int .i64 3, .int .i64 0, .string (t2.extract 0 n)]) (t := 55) (fr := (0, 0)) (heap_alloc_new _ _)) (by simp [Value.oneCell']) (by omega) (by unfold maxLen; omega) (by omega) (by have := HA.out.bel.size; simp; omega) (wr.heap.size + 1) (by simp) ?_; intro g cap wx hown1 hgrow hatg hlt1))
                      have HN1 := Lib.hid (ref_next HA.out HT2.out hlt HT.out HBK.out HEN.out HE.out hown1 (below_drewN ((Below.refl _ _).alloc (Nat.le_refl _) _) _) hgrow)
                      clear hown1 hgrow hatg
                      go_wp2
                      go_roundw
                      case rel => exact ⟨pos + n, _, by go_num, HN1.out⟩
                      case measure => simp [intOf]; omega
    · obtain rfl : pos = s.size := by have := HA.out.in_; omega
      go_wp2
      go_ret2
      exact ref_end HA.out
  · have HE := Lib.hid (show Lx.lexS s = none by unfold Lx.lexS; rw [if_pos (by omega)])
    go_enter Try.func10, Try.ntmps10
    go_wp2
    go_ret2
    exact ⟨none, 0, 0, by rw [HE.out]; rfl, by rw [HE.out]; exact Toks.nil, Below.refl _ _⟩
end Go.Proofs.Ytfknokclemljfaa

