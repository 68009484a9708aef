/- The walks of layer 1's statements BitsPacks and BitsHalves: each returns true, and the world keeps all that was there. -/
import Derived.Test.YtolkpoohpimkhaaBitsLaws
import Derived.Deep.QuietTactic
import Derived.BigQuiet
namespace Go.Proofs.Ytolkpoohpimkhaa
open Go.RowKit Mem
set_option linter.unusedVariables false
set_option maxRecDepth 100000 in
set_option maxHeartbeats 2000000 in
theorem law_BitsPacks (A : Option Addr) (n c : Nat) (xs : List Int) (s : ByteArray) (w : World) (hx : Ints w w.heap.size A n xs) (hn : n ≤ 9223372036854775807) (hs : s.size ≤ 9223372036854775807) :
    Calls Try.prog 10 #[.slice A n c, .string s] w fun e w' => e = .returned (.bool true) ∧ Below w.heap.size w w' := by
  have HX := Lib.hid hx
  clear hx
  by_cases h1 : n ≤ 100000
  · by_cases h2 : s.size ≤ 100000
    · go_enter Try.func10, Try.ntmps10
      go_wp2_with fail
      refine (bits_Pack A n c w.heap.size xs _ HX.out (Nat.le_refl _) (by omega)).mono ?_
      rintro e w1 ⟨rfl, hb1⟩
      go_wp2_with fail
      refine (ref_Pack A n c w.heap.size xs _ (HX.out.below hb1) hb1.size (by omega)).mono ?_
      rintro e w2 ⟨rfl, hb2⟩
      go_wp2_with fail
      refine (bits_Unpack s _ (by omega)).mono ?_
      rintro e w3 ⟨v3, rfl, ho3, hb3⟩
      have hbel3 : Below w.heap.size w w3 := hb1.trans ((hb2.mono hb1.size).trans (hb3.mono (Nat.le_trans hb1.size hb2.size)))
      obtain ⟨A3, c3, rfl, hc1, hc2⟩ := own_shape ho3
      have H3 := Lib.hid (Ints.of_own ho3)
      clear ho3
      go_wp2_with fail
      refine (ref_Unpack s _ (by omega)).mono ?_
      rintro e w4 ⟨v4, rfl, ho4, hb4⟩
      have hbel4 : Below w.heap.size w w4 := hbel3.trans (hb4.mono hbel3.size)
      obtain ⟨A4, c4, rfl, hc3, hc4⟩ := own_shape ho4
      have H4 := Lib.hid (Ints.of_own ho4)
      clear ho4
      have hhl : (Num.halves s.data.toList).length ≤ 9223372036854775807 := by unfold maxLen at hc2; omega
      go_wp2_with fail
      refine (ref_Ints A3 A4 _ _ c3 c4 w4.heap.size _ _ _ ((H3.out.below hb4).more hb4.size) H4.out hhl hhl).mono ?_
      rintro e w5 ⟨rfl, m, rfl⟩
      have hd : decide (Num.halves s.data.toList = Num.halves s.data.toList) = true := by simp
      rw [hd]
      go_wp2_with fail
      refine (awake1 _).mono ?_
      rintro e w6 ⟨rfl, hb6⟩
      go_wp2_with fail
      go_ret
      exact ⟨rfl, (below_drewN hbel4 m).trans (hb6.mono hbel4.size)⟩
    · go_enter Try.func10, Try.ntmps10
      go_wp2_with (go_at_call 25; refine (awake1 _).mono ?_; rintro e w1 ⟨rfl, hbw⟩)
      go_ret
      exact ⟨rfl, hbw⟩
  · go_enter Try.func10, Try.ntmps10
    go_wp2_with (go_at_call 25; refine (awake1 _).mono ?_; rintro e w1 ⟨rfl, hbw⟩)
    go_ret
    exact ⟨rfl, hbw⟩
set_option maxRecDepth 100000 in
set_option maxHeartbeats 2000000 in
theorem law_BitsHalves (A : Option Addr) (n c : Nat) (xs : List Int) (w : World) (hx : Ints w w.heap.size A n xs) (hn : n ≤ 9223372036854775807) :
    Calls Try.prog 13 #[.slice A n c] w fun e w' => e = .returned (.bool true) ∧ Below w.heap.size w w' := by
  obtain ⟨i0, hi, hz0, hz1, hz2⟩ := info_parts Try.infoInt
  have HX := Lib.hid hx
  clear hx
  by_cases h1 : n ≤ 10000
  · go_enter Try.func13, Try.ntmps13
    go_wp2
    go_loopw [3, 4] (fun v iv wr => ∃ k : Nat, k ≤ n ∧ iv = .int .i64 k ∧ wr.ownsRow w.heap.size 3 1 v k (ints ((xs.take k).map (· % 65536))) ∧ Below w.heap.size w wr) (fun _ iv _ => n - (intOf iv).toNat)
    case atStart => exact ⟨0, by omega, rfl, own_nil _ _ _, Below.refl _ _⟩
    case round =>
      obtain ⟨k, hk, rfl, hown, hbel⟩ := hrel
      have hsz := hbel.size
      by_cases hlt : k < n
      · obtain ⟨ad, z, rfl, hb1, hz, hc⟩ := (HX.out.below hbel).get hlt
        have hand := Num.i64_and65535 z
        have HZ := Lib.hid (show (xs.take (k + 1)).map (· % 65536) = (xs.take k).map (· % 65536) ++ [z % 65536] by
          rw [List.take_add_one, hz]; simp)
        clear hz
        go_wp2_with (at_builtin; refine wpList_append_lies _ rfl _ _ _ rfl w.heap.size 3 i0 _ 1 8 Try.underlying38 hi hz0 hz1 hz2 rfl (by omega) _ k (ints ((xs.take k).map (· % 65536))) rfl (hown.alloc _) ⟨wr.heap.size, 0, none⟩ 1 1 [.int .i64 (z % 65536)] rfl rfl (World.news_of_block (cs := #[.int .i64 (z % 65536)]) (t := 3) (fr := (0, 0)) (heap_alloc_new wr _)) (by simp [Value.oneCell']) (by omega) (by unfold maxLen; omega) (by omega) (by simp; omega) (wr.heap.size + 1) (by simp) ?_; intro g cap wx hown1 hgrow hat hlt1)
        have hbel1 : Below w.heap.size w wx := (hbel.alloc hbel.size _).grown hgrow (by simp; omega) (fun k hk => ((own_block hown) k hk).1)
        have HW := Lib.hid (show wx.ownsRow w.heap.size 3 1 (.slice (some ⟨g, 0, none⟩) (k + 1) cap) (k + 1) (ints ((xs.take (k + 1)).map (· % 65536))) by rw [HZ.out, ints_append]; exact hown1)
        clear hown hown1 hgrow hat hc hand
        go_wp2
        go_roundw
        case rel => exact ⟨k + 1, by omega, by go_num, HW.out, hbel1⟩
        case measure => simp [intOf]; omega
      · obtain rfl : k = n := by omega
        have hfull : xs.take k = xs := List.take_of_length_le (by rw [HX.out.len]; exact Nat.le_refl _)
        rw [hfull] at hown
        obtain ⟨A3, c3, hv, hc1, hc2⟩ := own_shape hown
        subst hv
        have H3 := Lib.hid (Ints.of_own hown)
        clear hown hfull
        have hsize : (strOfNums (Num.octets xs)).size = 2 * k := by rw [strOfNums_size, Num.octets_len, HX.out.len]
        have hlist : (strOfNums (Num.octets xs)).data.toList = (Num.octets xs).map fun n => UInt8.ofNat n.toNat := strOfNums_data _
        have HH := Lib.hid (show Num.halves (strOfNums (Num.octets xs)).data.toList = xs.map (· % 65536) by rw [hlist]; exact Num.halves_octets xs)
        clear hlist
        obtain ⟨S, hS⟩ : ∃ S, S = strOfNums (Num.octets xs) := ⟨_, rfl⟩
        rw [← hS] at hsize HH
        have hsz2 : (S.size : Int) = 2 * (k : Int) := by omega
        have hSl : S.size ≤ 1099511627776 := by omega
        have HSZ := Lib.hid hsize
        clear hsize
        have HS := Lib.hid hS
        clear hS
        go_wp2_with fail
        refine (bits_Pack A k c w.heap.size xs _ (HX.out.below hbel) hbel.size (by omega)).mono ?_
        rintro e w1 ⟨rfl, hb1⟩
        rw [← HS.out]
        go_wp2_with fail
        refine (bits_Unpack S _ hSl).mono ?_
        rintro e w2 ⟨v2, rfl, ho2, hb2⟩
        obtain ⟨A4, c4, hv4, hc3, hc4⟩ := own_shape ho2
        subst hv4
        have H4 := Lib.hid (Ints.of_own ho2)
        clear ho2 hsz2
        have hbel2 : Below w.heap.size w w2 := hbel.trans ((hb1.mono hbel.size).trans (hb2.mono (Nat.le_trans hbel.size hb1.size)))
        have hhl : (Num.halves S.data.toList).length ≤ 9223372036854775807 := by unfold maxLen at hc4; omega
        go_wp2_with fail
        refine (ref_Ints A4 A3 _ _ c4 c3 w2.heap.size _ _ _ H4.out (((H3.out.below hb1).below (hb2.mono hb1.size)).more (Nat.le_trans hb1.size hb2.size)) hhl (by omega)).mono ?_
        rintro e w5 ⟨rfl, m, rfl⟩
        rw [show decide (Num.halves S.data.toList = xs.map (· % 65536)) = true from decide_eq_true HH.out]
        go_wp2_with fail
        refine (awake1 _).mono ?_
        rintro e w6 ⟨rfl, hb6⟩
        go_wp2_with fail
        go_ret
        exact ⟨rfl, (below_drewN hbel2 m).trans (hb6.mono hbel2.size)⟩
  · go_enter Try.func13, Try.ntmps13
    go_wp2_with (go_at_call 25; refine (awake1 _).mono ?_; rintro e w1 ⟨rfl, hbw⟩)
    go_ret
    exact ⟨rfl, hbw⟩
end Go.Proofs.Ytolkpoohpimkhaa
