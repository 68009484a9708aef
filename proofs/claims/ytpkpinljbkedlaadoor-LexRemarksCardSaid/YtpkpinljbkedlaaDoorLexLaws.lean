/- The walks of layer 16's statements: each returns true, and the world keeps all that was there. -/
import Derived.Test.YtpkpinljbkedlaaDoorLexAwake
namespace Go.Proofs.YtpkpinljbkedlaaDoor
open Go.RowKit Mem
set_option linter.unusedVariables false
set_option maxRecDepth 100000 in
set_option maxHeartbeats 2000000 in
theorem law_LexLines (s : ByteArray) (w : World) (hs : s.size ≤ 9223372036854775807) :
    Calls Tryd.prog 3 #[.string s] w fun e w' => e = .returned (.bool true) ∧ Below w.heap.size w w' := by
  by_cases h : 2000 < s.size
  · go_enter Tryd.func3, Tryd.ntmps3
    go_wp2_with (go_at_call 9; refine (awake_true _).mono ?_; rintro e w1 ⟨rfl, hb⟩)
    go_ret
    exact ⟨rfl, hb⟩
  · obtain ⟨ks, hks⟩ : ∃ ks, (Lx.lexS s).getD [] = ks := ⟨_, rfl⟩
    obtain ⟨ok, hok⟩ : ∃ ok, (Lx.lexS s).isSome = ok := ⟨_, rfl⟩
    have HK := Lib.hid hks; have HO := Lib.hid hok
    clear hks hok
    have hoo : (ok == ok) = true := by simp
    go_enter Tryd.func3, Tryd.ntmps3
    go_wp2_with fail
    refine (lex_Line _ _ (by omega)).mono ?_
    rintro e w1 ⟨A, n, c, rfl, ht, hb⟩
    rw [HK.out] at ht
    rw [HO.out]
    have HT := Lib.hid ht; have HB := Lib.hid hb
    clear ht hb
    go_wp2_with fail
    refine (ref_Line _ _ (by omega)).mono ?_
    rintro e w2 ⟨A', n', c', rfl, ht, hb2⟩
    rw [HK.out] at ht
    rw [HO.out]
    obtain rfl : n = n' := HT.out.len.symm.trans ht.len
    have HT1 := Lib.hid ((HT.out.below hb2).more hb2.size)
    have HT2 := Lib.hid ht
    have HB2 := Lib.hid (HB.out.trans (hb2.mono HB.out.size))
    clear ht hb2
    have hn : n ≤ 256 := by
      rw [← HT.out.len, ← HK.out]
      cases h : Lx.lexS s with
      | none => simp
      | some ks => exact (line_good h).2
    go_wp2_with fail
    refine (ref_Same _ _ _ _ _ ks _ HT1.out HT2.out (by omega)).mono ?_
    rintro e w3 ⟨rfl, m, rfl⟩
    have HB3 := Lib.hid (below_drewN HB2.out m)
    go_wp2_with (go_at_call 9; refine (awake_true _).mono ?_; rintro e w4 ⟨rfl, hb4⟩)
    go_ret
    exact ⟨rfl, HB3.out.trans (hb4.mono HB3.out.size)⟩
set_option maxRecDepth 100000 in
set_option maxHeartbeats 2000000 in
theorem law_LexNames (s : ByteArray) (w : World) (hs : s.size ≤ 9223372036854775807) :
    Calls Tryd.prog 4 #[.string s] w fun e w' => e = .returned (.bool true) ∧ Below w.heap.size w w' := by
  by_cases h : 1000 < s.size
  · go_enter Tryd.func4, Tryd.ntmps4
    go_wp2
    go_ret
    exact ⟨rfl, Below.refl _ _⟩
  · obtain ⟨ok, hok⟩ : ∃ ok, nameB s.data.toList = ok := ⟨_, rfl⟩
    have HO := Lib.hid hok
    clear hok
    have hoo : (ok == ok) = true := by simp
    go_enter Tryd.func4, Tryd.ntmps4
    go_wp2_with (first | (go_at_call 13; refine (lex_Name _ _ (by omega)).mono ?_; rintro e w ⟨rfl, rfl⟩; rw [HO.out]) | (go_at_call 14; refine (ref_Name _ _ (by omega)).mono ?_; rintro e w ⟨rfl, rfl⟩; rw [HO.out]) | (go_at_call 9; refine (awake_true _).mono ?_; rintro e w1 ⟨rfl, hb⟩))
    go_ret
    exact ⟨rfl, hb⟩
theorem few_of {s : ByteArray} {ks : List Lx.Tk} (h : (Lx.lexS s).getD [] = ks) : ks.length ≤ 256 := by
  rw [← h]
  cases h : Lx.lexS s with
  | none => simp
  | some ks => exact (line_good h).2
theorem lexS_small {s : ByteArray} (h : s.size ≤ 256) : Lx.lexS s = Lx.lexL s.data.toList := by unfold Lx.lexS; rw [if_neg (by omega)]
theorem lexS_at {s t : ByteArray} (h : s.size ≤ 100) (h2 : t.size ≤ 100) : Lx.lexS (s ++ ⟨#[64]⟩ ++ t) = Lx.lexS s := by
  rw [lexS_small (by simp [ByteArray.size_append]; have : (⟨#[64]⟩ : ByteArray).size = 1 := rfl; omega), lexS_small (by omega), ba_app, ba_app]
  have := Lx.lex_at s.data.toList t.data.toList
  simpa using this
theorem lexS_semi {s t : ByteArray} (h : s.size ≤ 100) (h2 : t.size ≤ 100) : Lx.lexS (s ++ ⟨#[32, 59]⟩ ++ t) = Lx.lexS s := by
  rw [lexS_small (by simp [ByteArray.size_append]; have : (⟨#[32, 59]⟩ : ByteArray).size = 2 := rfl; omega), lexS_small (by omega), ba_app, ba_app]
  have := Lx.lex_semi s.data.toList t.data.toList
  simpa using this
theorem lexS_ahead {s : ByteArray} (h : s.size ≤ 200) : Lx.lexS (⟨#[32]⟩ ++ s) = Lx.lexS s := by
  rw [lexS_small (by simp [ByteArray.size_append]; have : (⟨#[32]⟩ : ByteArray).size = 1 := rfl; omega), lexS_small (by omega), ba_app]
  exact Lx.lexL_blank (by decide)
theorem lexS_tab {s : ByteArray} (h : s.size ≤ 200) : Lx.lexS (s ++ ⟨#[9, 13]⟩) = Lx.lexS s := by
  rw [lexS_small (by simp [ByteArray.size_append]; have : (⟨#[9, 13]⟩ : ByteArray).size = 2 := rfl; omega), lexS_small (by omega), ba_app]
  exact Lx.lex_tab _
set_option maxRecDepth 100000 in
set_option maxHeartbeats 4000000 in
theorem law_LexRemarks (s t : ByteArray) (w : World) (hs : s.size ≤ 9223372036854775807) (ht : t.size ≤ 9223372036854775807) :
    Calls Tryd.prog 6 #[.string s, .string t] w fun e w' => e = .returned (.bool true) ∧ Below w.heap.size w w' := by
  by_cases h : 100 < s.size
  · go_enter Tryd.func6, Tryd.ntmps6
    go_wp2_with (go_at_call 9; refine (awake_true _).mono ?_; rintro e w9 ⟨rfl, hb9⟩)
    go_ret
    exact ⟨rfl, hb9⟩
  by_cases h2 : 100 < t.size
  · go_enter Tryd.func6, Tryd.ntmps6
    go_wp2_with (go_at_call 9; refine (awake_true _).mono ?_; rintro e w9 ⟨rfl, hb9⟩)
    go_ret
    exact ⟨rfl, hb9⟩
  · have H2 := Lib.hid (lexS_at (s := s) (t := t) (by omega) (by omega))
    have H3 := Lib.hid (lexS_semi (s := s) (t := t) (by omega) (by omega))
    have z1 : (⟨#[64]⟩ : ByteArray).size = 1 := rfl
    have z2 : (⟨#[32, 59]⟩ : ByteArray).size = 2 := rfl
    have Z1 := Lib.hid z1; have Z2 := Lib.hid z2
    clear z1 z2
    obtain ⟨ks, hks⟩ : ∃ ks, (Lx.lexS s).getD [] = ks := ⟨_, rfl⟩
    obtain ⟨ok, hok⟩ : ∃ ok, (Lx.lexS s).isSome = ok := ⟨_, rfl⟩
    have HN := Lib.hid (few_of hks)
    have HK := Lib.hid hks; have HO := Lib.hid hok
    clear hks hok
    have hoo : (ok == ok) = true := by simp
    go_enter Tryd.func6, Tryd.ntmps6
    go_wp2_with fail
    refine (lex_Line _ _ (by omega)).mono ?_
    rintro e w1 ⟨A, n, c, rfl, ht, hb⟩
    rw [HK.out] at ht
    rw [HO.out]
    have HT := Lib.hid ht; have HB1 := Lib.hid hb
    clear ht hb
    have hn : n ≤ 256 := by rw [← HT.out.len]; exact HN.out
    go_wp2_with fail
    refine (lex_Line _ _ (by have := Z1.out; have := Z2.out; simp only [ByteArray.size_append]; omega)).mono ?_
    rintro e w2 ⟨A2, n2, c2, rfl, ht, hb2⟩
    rw [H2.out, HK.out] at ht
    rw [H2.out, HO.out]
    obtain rfl : n = n2 := HT.out.len.symm.trans ht.len
    have HT1 := Lib.hid ((HT.out.below hb2).more hb2.size)
    have HT2 := Lib.hid ht
    have HB2 := Lib.hid (HB1.out.trans (hb2.mono HB1.out.size))
    clear ht hb2
    go_wp2_with fail
    refine (lex_Line _ _ (by have := Z1.out; have := Z2.out; simp only [ByteArray.size_append]; omega)).mono ?_
    rintro e w3 ⟨A3, n3, c3, rfl, ht, hb3⟩
    rw [H3.out, HK.out] at ht
    rw [H3.out, HO.out]
    obtain rfl : n = n3 := HT.out.len.symm.trans ht.len
    have HT3 := Lib.hid ((HT1.out.below hb3).more hb3.size)
    have HT4 := Lib.hid ((HT2.out.below hb3).more hb3.size)
    have HT5 := Lib.hid ht
    have HB3 := Lib.hid (HB2.out.trans (hb3.mono HB2.out.size))
    clear ht hb3
    go_wp2_with fail
    refine (ref_Same _ _ _ _ _ ks _ HT3.out HT4.out (by omega)).mono ?_
    rintro e w4 ⟨rfl, m, rfl⟩
    go_wp2_with fail
    refine (ref_Same _ _ _ _ _ ks _ (HT3.out.drewN m) (HT5.out.drewN m) (by omega)).mono ?_
    rintro e w4 ⟨rfl, m', rfl⟩
    have HB5 := Lib.hid (below_drewN HB3.out (m + m'))
    go_wp2_with (go_at_call 9; refine (awake_true _).mono ?_; rintro e w9 ⟨rfl, hb9⟩)
    go_ret
    exact ⟨rfl, HB5.out.trans (hb9.mono HB5.out.size)⟩
set_option maxRecDepth 100000 in
set_option maxHeartbeats 4000000 in
theorem law_LexBlanks (s : ByteArray) (w : World) (hs : s.size ≤ 9223372036854775807) :
    Calls Tryd.prog 7 #[.string s] w fun e w' => e = .returned (.bool true) ∧ Below w.heap.size w w' := by
  by_cases h : 200 < s.size
  · go_enter Tryd.func7, Tryd.ntmps7
    go_wp2_with (go_at_call 9; refine (awake_true _).mono ?_; rintro e w9 ⟨rfl, hb9⟩)
    go_ret
    exact ⟨rfl, hb9⟩
  · have H2 := Lib.hid (lexS_ahead (s := s) (by omega))
    have H3 := Lib.hid (lexS_tab (s := s) (by omega))
    have z1 : (⟨#[32]⟩ : ByteArray).size = 1 := rfl
    have z2 : (⟨#[9, 13]⟩ : ByteArray).size = 2 := rfl
    have Z1 := Lib.hid z1; have Z2 := Lib.hid z2
    clear z1 z2
    obtain ⟨ks, hks⟩ : ∃ ks, (Lx.lexS s).getD [] = ks := ⟨_, rfl⟩
    obtain ⟨ok, hok⟩ : ∃ ok, (Lx.lexS s).isSome = ok := ⟨_, rfl⟩
    have HN := Lib.hid (few_of hks)
    have HK := Lib.hid hks; have HO := Lib.hid hok
    clear hks hok
    have hoo : (ok == ok) = true := by simp
    go_enter Tryd.func7, Tryd.ntmps7
    go_wp2_with fail
    refine (lex_Line _ _ (by omega)).mono ?_
    rintro e w1 ⟨A, n, c, rfl, ht, hb⟩
    rw [HK.out] at ht
    rw [HO.out]
    have HT := Lib.hid ht; have HB1 := Lib.hid hb
    clear ht hb
    have hn : n ≤ 256 := by rw [← HT.out.len]; exact HN.out
    go_wp2_with fail
    refine (lex_Line _ _ (by have := Z1.out; have := Z2.out; simp only [ByteArray.size_append]; omega)).mono ?_
    rintro e w2 ⟨A2, n2, c2, rfl, ht, hb2⟩
    rw [H2.out, HK.out] at ht
    rw [H2.out, HO.out]
    obtain rfl : n = n2 := HT.out.len.symm.trans ht.len
    have HT1 := Lib.hid ((HT.out.below hb2).more hb2.size)
    have HT2 := Lib.hid ht
    have HB2 := Lib.hid (HB1.out.trans (hb2.mono HB1.out.size))
    clear ht hb2
    go_wp2_with fail
    refine (lex_Line _ _ (by have := Z1.out; have := Z2.out; simp only [ByteArray.size_append]; omega)).mono ?_
    rintro e w3 ⟨A3, n3, c3, rfl, ht, hb3⟩
    rw [H3.out, HK.out] at ht
    rw [H3.out, HO.out]
    obtain rfl : n = n3 := HT.out.len.symm.trans ht.len
    have HT3 := Lib.hid ((HT1.out.below hb3).more hb3.size)
    have HT4 := Lib.hid ((HT2.out.below hb3).more hb3.size)
    have HT5 := Lib.hid ht
    have HB3 := Lib.hid (HB2.out.trans (hb3.mono HB2.out.size))
    clear ht hb3
    go_wp2_with fail
    refine (ref_Same _ _ _ _ _ ks _ HT3.out HT4.out (by omega)).mono ?_
    rintro e w4 ⟨rfl, m, rfl⟩
    go_wp2_with fail
    refine (ref_Same _ _ _ _ _ ks _ (HT3.out.drewN m) (HT5.out.drewN m) (by omega)).mono ?_
    rintro e w4 ⟨rfl, m', rfl⟩
    have HB5 := Lib.hid (below_drewN HB3.out (m + m'))
    go_wp2_with (go_at_call 9; refine (awake_true _).mono ?_; rintro e w9 ⟨rfl, hb9⟩)
    go_ret
    exact ⟨rfl, HB5.out.trans (hb9.mono HB5.out.size)⟩
theorem lexS_show {s : ByteArray} {ks : List Lx.Tk} (h : Lx.lexS s = some ks) (hs : (Lx.ba (Lx.show_ ks)).size ≤ 256) : Lx.lexS (Lx.ba (Lx.show_ ks)) = some ks := by
  rw [lexS_small hs, ba_list]; exact Lx.lex_show ks (line_good h).1
set_option maxRecDepth 100000 in
set_option maxHeartbeats 4000000 in
theorem law_LexBack (s : ByteArray) (w : World) (hs : s.size ≤ 9223372036854775807) :
    Calls Tryd.prog 5 #[.string s] w fun e w' => e = .returned (.bool true) ∧ Below w.heap.size w w' := by
  by_cases h : 2000 < s.size
  · go_enter Tryd.func5, Tryd.ntmps5
    go_wp2_with (go_at_call 9; refine (awake_true _).mono ?_; rintro e w9 ⟨rfl, hb9⟩)
    go_ret
    exact ⟨rfl, hb9⟩
  · cases hl : Lx.lexS s with
    | none =>
      have HL := Lib.hid hl
      clear hl
      go_enter Tryd.func5, Tryd.ntmps5
      go_wp2_with fail
      refine (lex_Line _ _ (by omega)).mono ?_
      rintro e w1 ⟨A, n, c, rfl, ht, hb⟩
      rw [HL.out] at ht ⊢
      obtain rfl : n = 0 := ht.len.symm
      have HB1 := Lib.hid hb
      clear ht hb
      go_wp2_with (go_at_call 9; refine (awake_true _).mono ?_; rintro e w9 ⟨rfl, hb9⟩)
      go_ret
      exact ⟨rfl, HB1.out.trans (hb9.mono HB1.out.size)⟩
    | some ks =>
      have hgd := line_good hl
      obtain ⟨X, hX⟩ : ∃ X, Lx.ba (Lx.show_ ks) = X := ⟨_, rfl⟩
      have HX := Lib.hid hX
      have HS := Lib.hid (fun h256 : X.size ≤ 256 => show Lx.lexS X = some ks by rw [← hX]; exact lexS_show hl (by rw [hX]; exact h256))
      have hXs : X.size ≤ 33 * 256 := by
        rw [← hX]
        have := join_small ks hgd.1
        have h2 := hgd.2
        have e : (Lx.ba (Lx.show_ ks)).size = (Lx.show_ ks).length := by simp [Lx.ba, ByteArray.size]
        omega
      have HL := Lib.hid hl; have HG := Lib.hid hgd
      clear hl hgd hX
      have hxx : (X.toList == X.toList) = true := str_self X
      go_enter Tryd.func5, Tryd.ntmps5
      go_wp2_with fail
      refine (lex_Line _ _ (by omega)).mono ?_
      rintro e w1 ⟨A, n, c, rfl, ht, hb⟩
      rw [HL.out] at ht ⊢
      have HT := Lib.hid (show Toks w1 w1.heap.size A n ks from ht); have HB1 := Lib.hid hb
      clear ht hb
      have hn : n ≤ 256 := by rw [← HT.out.len]; exact HG.out.2
      go_wp2_with fail
      refine (lex_Show _ _ _ ks _ HT.out hn HG.out.1).mono ?_
      rintro e w2 ⟨rfl, hb2⟩
      rw [HX.out]
      have HT1 := Lib.hid ((HT.out.below hb2).more hb2.size)
      have HB2 := Lib.hid (HB1.out.trans (hb2.mono HB1.out.size))
      clear hb2
      by_cases h256 : 256 < X.size
      · go_wp2_with (go_at_call 9; refine (awake_true _).mono ?_; rintro e w9 ⟨rfl, hb9⟩)
        go_ret
        exact ⟨rfl, HB2.out.trans (hb9.mono HB2.out.size)⟩
      · have HS2 := Lib.hid (HS.out (by omega))
        go_wp2_with fail
        refine (lex_Line _ _ (by omega)).mono ?_
        rintro e w3 ⟨A2, n2, c2, rfl, ht, hb3⟩
        rw [HS2.out] at ht ⊢
        obtain rfl : n = n2 := HT.out.len.symm.trans ht.len
        have HT2 := Lib.hid ((HT1.out.below hb3).more hb3.size)
        have HT3 := Lib.hid (show Toks w3 w3.heap.size A2 n ks from ht)
        have HB3 := Lib.hid (HB2.out.trans (hb3.mono HB2.out.size))
        clear ht hb3
        go_wp2_with fail
        refine (ref_Same _ _ _ _ _ ks _ HT2.out HT3.out (by omega)).mono ?_
        rintro e w4 ⟨rfl, m, rfl⟩
        go_wp2_with fail
        refine (ref_Show _ _ _ ks _ (HT2.out.drewN m) hn HG.out.1).mono ?_
        rintro e w4 ⟨rfl, rfl⟩
        rw [HX.out]
        have HB4 := Lib.hid (below_drewN HB3.out m)
        go_wp2_with (go_at_call 9; refine (awake_true _).mono ?_; rintro e w9 ⟨rfl, hb9⟩)
        go_ret
        exact ⟨rfl, HB4.out.trans (hb9.mono HB4.out.size)⟩
theorem lexS_digs (N : Nat) (hN : (N : Int) ≤ 9223372036854775807) : Lx.lexS (Lx.ba (Lx.digs N)) = if 4294967296 ≤ N then none else some [⟨2, N, ⟨#[]⟩⟩] := by
  have h := Lx.digs_len 18 N (by omega)
  have e : (Lx.ba (Lx.digs N)).size = (Lx.digs N).length := by simp [Lx.ba, ByteArray.size]
  rw [lexS_small (by omega), ba_list, Lx.lex_digs]; rfl
set_option maxRecDepth 100000 in
set_option maxHeartbeats 4000000 in
theorem law_LexNumbers (n : Int) (w : World) (h0 : -9223372036854775808 ≤ n) (h1 : n ≤ 9223372036854775807) :
    Calls Tryd.prog 8 #[.int .i64 n] w fun e w' => e = .returned (.bool true) ∧ Below w.heap.size w w' := by
  by_cases hneg : n < 0
  · go_enter Tryd.func8, Tryd.ntmps8
    go_wp2_with (go_at_call 9; refine (awake_true _).mono ?_; rintro e w9 ⟨rfl, hb9⟩)
    go_ret
    exact ⟨rfl, hb9⟩
  · obtain ⟨N, rfl⟩ := Int.eq_ofNat_of_zero_le (show 0 ≤ n by omega)
    have hl := lexS_digs N h1
    have hsz : (Lx.ba (Lx.digs N)).size ≤ 19 := by
      have h := Lx.digs_len 18 N (by omega)
      have e : (Lx.ba (Lx.digs N)).size = (Lx.digs N).length := by simp [Lx.ba, ByteArray.size]
      omega
    obtain ⟨X, hX⟩ : ∃ X, Lx.ba (Lx.digs N) = X := ⟨_, rfl⟩
    rw [hX] at hl hsz
    have HX := Lib.hid hX
    clear hX
    by_cases hb : 4294967296 ≤ N
    · rw [if_pos hb] at hl
      have HL := Lib.hid hl
      have hbb : decide ((4294967296 : Int) ≤ (N : Int)) = true := by rw [decide_eq_true_eq]; omega
      clear hl hb
      go_enter Tryd.func8, Tryd.ntmps8
      go_wp2_with fail
      refine (ref_Digits N _ h1).mono ?_
      rintro e w1 ⟨rfl, rfl⟩
      rw [HX.out]
      go_wp2_with fail
      refine (lex_Line _ _ (by omega)).mono ?_
      rintro e w2 ⟨A, n, c, rfl, ht, hb⟩
      rw [HL.out] at ht ⊢
      obtain rfl : n = 0 := ht.len.symm
      have HB1 := Lib.hid hb
      clear ht hb
      go_wp2_with (go_at_call 9; refine (awake_true _).mono ?_; rintro e w9 ⟨rfl, hb9⟩)
      go_ret
      exact ⟨rfl, HB1.out.trans (hb9.mono HB1.out.size)⟩
    · rw [if_neg hb] at hl
      have HL := Lib.hid hl
      have hbb : decide ((4294967296 : Int) ≤ (N : Int)) = false := by rw [decide_eq_false_iff_not]; omega
      clear hl hb
      have hg := tok_eqG
      have he := tok_same ⟨2, N, ⟨#[]⟩⟩
      simp only at he
      go_enter Tryd.func8, Tryd.ntmps8
      go_wp2_with fail
      refine (ref_Digits N _ h1).mono ?_
      rintro e w1 ⟨rfl, rfl⟩
      rw [HX.out]
      go_wp2_with fail
      refine (lex_Line _ _ (by omega)).mono ?_
      rintro e w2 ⟨A, n, c, rfl, ht, hb⟩
      rw [HL.out] at ht ⊢
      obtain rfl : n = 1 := ht.len.symm
      have HB1 := Lib.hid hb
      obtain ⟨ad, p, t, rfl, hp, hpb, hkt, c0, c1, c2⟩ := ht.get (k := 0) (by omega)
      cases hkt
      simp only [Nat.zero_mul, Mem.add_zero] at hp
      subst hp
      simp only at c0 c1 c2
      clear ht hb
      go_wp2_with (go_at_call 9; refine (awake_true _).mono ?_; rintro e w9 ⟨rfl, hb9⟩)
      go_ret
      exact ⟨rfl, HB1.out.trans (hb9.mono HB1.out.size)⟩
end Go.Proofs.YtpkpinljbkedlaaDoor
