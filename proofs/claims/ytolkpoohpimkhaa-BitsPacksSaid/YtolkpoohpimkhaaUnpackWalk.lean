/- Contracts of Unpack and of its reference: bytes as halfwords, in a new row; the world keeps all that was there. Condition: the text is shorter than 2^40 bytes. -/
import Derived.Test.YtolkpoohpimkhaaProg
import Derived.Test.YtolkpoohpimkhaaPackPlain
import Derived.WalkLawsBesides
import Derived.Deep.RegionHeld3
import Derived.Lib.IndexBytes
import Derived.Outline
namespace Go.Proofs.Ytolkpoohpimkhaa
open Go.RowKit Mem
set_option linter.unusedVariables false
def strLen : Value → Nat
  | .string t => t.size
  | _ => 0
theorem Try.infoInt : (Try.prog.info? 3).map (fun i => (i.zero, i.size, i.bytes)) = some (some (.int .i64 0), 1, 8) := by kernel_rfl
theorem Try.infoByte : (Try.prog.info? 5).map (fun i => (i.zero, i.size, i.bytes)) = some (some (.int .u8 0), 1, 1) := by kernel_rfl
set_option maxRecDepth 100000 in
set_option maxHeartbeats 400000 in
theorem bits_Unpack (s : ByteArray) (w : World) (hs : s.size ≤ 1099511627776) :
    Calls Try.prog 33 #[.string s] w fun e w' => ∃ v, e = .returned v ∧ w'.ownsRow w.heap.size 3 1 v (Num.halves s.data.toList).length (ints (Num.halves s.data.toList)) ∧ Below w.heap.size w w' := by
  obtain ⟨i0, hi, hz0, hz1, hz2⟩ := info_parts Try.infoInt
  go_enter Try.func33, Try.ntmps33
  go_wp2
  go_loopw [0, 3] (fun sv v wr => ∃ (t : ByteArray) (L : List Int) (n : Nat), sv = .string t ∧ L.length = n ∧ 2 * n + t.size = s.size ∧ L ++ Num.halves t.data.toList = Num.halves s.data.toList ∧ wr.ownsRow w.heap.size 3 1 v n (ints L) ∧ Below w.heap.size w wr) (fun sv _ _ => strLen sv)
  case atStart => exact ⟨s, [], 0, rfl, rfl, by simp, rfl, own_nil _ _ _, Below.refl _ _⟩
  case round =>
    obtain ⟨t, L, n, rfl, hLn, hsz, hh, hown, hbel⟩ := hrel
    have HLN := Lib.hid hLn
    clear hLn
    have HH := Lib.hid hh; have HS := Lib.hid hsz
    have hsz1 : 2 * n + t.size ≤ 1099511627776 := by omega
    clear hh hsz
    by_cases hlt : 1 < t.size
    · have hb1 : (1 : Int) < (t.size : Int) := by omega
      have hb0 : (0 : Int) < (t.size : Int) := by omega
      have hn0 : 0 < t.size := by omega
      have ha : (t[0].toNat : Int) < 256 := by have := t[0].toNat_lt; omega
      have hb : (t[1].toNat : Int) < 256 := by have := t[1].toNat_lt; omega
      have w0 := IntWalk.i64_in (t[0].toNat : Int) ⟨by omega, by omega⟩
      have w1 := IntWalk.i64_in (t[1].toNat : Int) ⟨by omega, by omega⟩
      have w2 := IntWalk.i64_in ((t[1].toNat : Int) * 256) ⟨by omega, by omega⟩
      have w3 := Num.or_byte (t[0].toNat : Int) (t[1].toNat : Int) (by omega) ha (by omega) hb
      have HL := Lib.hid (show (L ++ [(t[0].toNat : Int) + 256 * (t[1].toNat : Int)]) ++ Num.halves (t.extract 2 t.size).data.toList = Num.halves s.data.toList by
        rw [← HH.out, Lib.extract_to_end, Num.two_bytes t hlt]; simp [Num.halves])
      have HO := Lib.hid (show 2 * (n + 1) + (t.extract 2 t.size).size = s.size by
        have := HS.out; simp; omega)
      go_wp2
      go_region_held3 (fun _ => True) (trivial) ((refine step_append_lies _ (by rfl) _ _ _ (by rfl) w.heap.size 3 i0 _ 1 8 Try.underlying38 hi hz0 hz1 hz2 rfl (by omega) _ n (ints L) (by rfl) ((hown.alloc _).drew) ⟨wr.heap.size, 0, none⟩ 1 1 [.int .i64 ((t[0].toNat : Int) + 256 * (t[1].toNat : Int))] (by rfl) (by rfl) (World.news_of_block (cs := #[.int .i64 ((t[0].toNat : Int) + 256 * (t[1].toNat : Int))]) (t := 3) (fr := (0, 0)) (heap_alloc_new wr _)) (by simp [Value.oneCell']) (by omega) (by unfold maxLen; omega) (by omega) (by have := hbel.size; simp; omega) (wr.heap.size + 1) (by simp) ?_; intro g cap wx hown1 hgrow hat hlt1))
      all_goals
        have hbel1 : Below w.heap.size w wx := ((hbel.alloc hbel.size _).drew).grown hgrow (by have := hbel.size; simp; omega) (fun k hk => ((own_block hown) k hk).1)
        have HW := Lib.hid (show wx.ownsRow w.heap.size 3 1 (.slice (some ⟨g, 0, none⟩) (n + 1) cap) (n + 1) (ints (L ++ [(t[0].toNat : Int) + 256 * (t[1].toNat : Int)])) by rw [ints_append]; exact hown1)
        clear hown1 hown w0 w1 w2 w3 hgrow hat
        go_wp2
        go_roundw
        case rel => exact ⟨_, _, _, rfl, by have := HLN.out; simp; omega, HO.out, HL.out, HW.out, hbel1⟩
        case measure => simp [strLen]; omega
    · by_cases h1 : t.size = 1
      · have hn0 : 0 < t.size := by omega
        have hn0' : (0 : Int) < t.size := by omega
        have hq : ((t.size : Int) == 1) = true := by simp; omega
        have ha : (t[0].toNat : Int) < 256 := by have := t[0].toNat_lt; omega
        have HL := Lib.hid (show L ++ [(t[0].toNat : Int)] = Num.halves s.data.toList by
          rw [← HH.out, Num.one_byte t h1]; simp [Num.halves])
        clear h1
        go_wp2_with (at_builtin; refine wpList_append_lies _ rfl _ _ _ rfl w.heap.size 3 i0 _ 1 8 Try.underlying38 hi hz0 hz1 hz2 rfl (by omega) _ n (ints L) rfl (hown.alloc _) ⟨wr.heap.size, 0, none⟩ 1 1 [.int .i64 (t[0].toNat : Int)] rfl rfl (World.news_of_block (cs := #[.int .i64 (t[0].toNat : Int)]) (t := 3) (fr := (0, 0)) (heap_alloc_new wr _)) (by simp [Value.oneCell']) (by omega) (by unfold maxLen; omega) (by omega) (by have := hbel.size; simp; omega) (wr.heap.size + 1) (by simp) ?_; intro g cap wx hown1 hgrow hat hlt1)
        go_ret
        refine ⟨_, rfl, ?_, (hbel.alloc hbel.size _).grown hgrow (by have := hbel.size; simp; omega) (fun k hk => ((own_block hown) k hk).1)⟩
        rw [← HL.out, ints_append]
        rw [show (L ++ [(t[0].toNat : Int)]).length = n + 1 by have := HLN.out; simp; omega]
        exact hown1
      · have hq : ((t.size : Int) == 1) = false := by simp; omega
        have HL := Lib.hid (show L = Num.halves s.data.toList by
          rw [← HH.out, Num.no_byte t (by omega)]; simp [Num.halves])
        clear h1
        go_wp2
        go_ret
        refine ⟨_, rfl, ?_, hbel⟩
        rw [← HL.out, HLN.out]
        exact hown
theorem drop_two (s : ByteArray) (i : Nat) (h : i + 1 < s.size) : s.data.toList.drop i = s[i] :: s[i + 1] :: s.data.toList.drop (i + 2) := by
  obtain ⟨⟨l⟩⟩ := s
  have h' : i + 1 < l.length := h
  show l.drop i = l[i] :: l[i + 1] :: l.drop (i + 2)
  rw [List.drop_eq_getElem_cons (by omega), List.drop_eq_getElem_cons (by omega)]
theorem drop_one (s : ByteArray) (i : Nat) (h : i + 1 = s.size) : s.data.toList.drop i = [s[i]] := by
  obtain ⟨⟨l⟩⟩ := s
  have h' : i + 1 = l.length := h
  show l.drop i = [l[i]]
  rw [List.drop_eq_getElem_cons (by omega), List.drop_eq_nil_of_le (by omega)]
theorem drop_none (s : ByteArray) (i : Nat) (h : s.size ≤ i) : s.data.toList.drop i = [] := by
  obtain ⟨⟨l⟩⟩ := s
  exact List.drop_eq_nil_of_le h
set_option maxRecDepth 100000 in
set_option maxHeartbeats 400000 in
theorem ref_Unpack (s : ByteArray) (w : World) (hs : s.size ≤ 1099511627776) :
    Calls Try.prog 34 #[.string s] w fun e w' => ∃ v, e = .returned v ∧ w'.ownsRow w.heap.size 3 1 v (Num.halves s.data.toList).length (ints (Num.halves s.data.toList)) ∧ Below w.heap.size w w' := by
  obtain ⟨i0, hi, hz0, hz1, hz2⟩ := info_parts Try.infoInt
  go_enter Try.func34, Try.ntmps34
  go_wp2
  go_loopw [3, 4] (fun v iv wr => ∃ (i : Nat) (L : List Int) (n : Nat), i ≤ s.size + 1 ∧ iv = .int .i64 i ∧ L.length = n ∧ 2 * n = i ∧ L ++ Num.halves (s.data.toList.drop i) = Num.halves s.data.toList ∧ wr.ownsRow w.heap.size 3 1 v n (ints L) ∧ Below w.heap.size w wr) (fun _ iv _ => s.size + 1 - (intOf iv).toNat)
  case atStart => exact ⟨0, [], 0, by omega, rfl, rfl, rfl, rfl, own_nil _ _ _, Below.refl _ _⟩
  case round =>
    obtain ⟨i, L, n, hle, rfl, hLn, h2n, hh, hown, hbel⟩ := hrel
    have HLN := Lib.hid hLn; have HH := Lib.hid hh; have HI := Lib.hid h2n
    have hnb : n ≤ 1099511627776 := by omega
    clear hLn hh h2n
    by_cases hlt : i < s.size
    · have ha : (s[i].toNat : Int) < 256 := by have := s[i].toNat_lt; omega
      by_cases hlt2 : i + 1 < s.size
      · have hb : (s[i + 1].toNat : Int) < 256 := by have := s[i + 1].toNat_lt; omega
        have HL := Lib.hid (show (L ++ [(s[i].toNat : Int) + 256 * (s[i + 1].toNat : Int)]) ++ Num.halves (s.data.toList.drop (i + 2)) = Num.halves s.data.toList by
          rw [← HH.out, drop_two s i hlt2]; simp [Num.halves])
        go_wp2_with (at_builtin; refine wpList_append_lies _ rfl _ _ _ rfl w.heap.size 3 i0 _ 1 8 Try.underlying38 hi hz0 hz1 hz2 rfl (by omega) _ n (ints L) rfl (hown.alloc _) ⟨wr.heap.size, 0, none⟩ 1 1 [.int .i64 ((s[i].toNat : Int) + 256 * (s[i + 1].toNat : Int))] rfl rfl (World.news_of_block (cs := #[.int .i64 ((s[i].toNat : Int) + 256 * (s[i + 1].toNat : Int))]) (t := 3) (fr := (0, 0)) (heap_alloc_new wr _)) (by simp [Value.oneCell']) (by omega) (by unfold maxLen; omega) (by omega) (by have := hbel.size; simp; omega) (wr.heap.size + 1) (by simp) ?_; intro g cap wx hown1 hgrow hat hlt1)
        have hbel1 : Below w.heap.size w wx := (hbel.alloc hbel.size _).grown hgrow (by have := hbel.size; simp; omega) (fun k hk => ((own_block hown) k hk).1)
        have HW := Lib.hid (show wx.ownsRow w.heap.size 3 1 (.slice (some ⟨g, 0, none⟩) (n + 1) cap) (n + 1) (ints (L ++ [(s[i].toNat : Int) + 256 * (s[i + 1].toNat : Int)])) by rw [ints_append]; exact hown1)
        clear hown1 hown hgrow hat
        go_wp2
        go_roundw
        case rel => exact ⟨i + 2, _, _, by omega, by go_num, by have := HLN.out; simp; omega, by have := HI.out; omega, HL.out, HW.out, hbel1⟩
        case measure => simp [intOf]; omega
      · have HL := Lib.hid (show (L ++ [(s[i].toNat : Int)]) ++ Num.halves (s.data.toList.drop (i + 2)) = Num.halves s.data.toList by
          rw [← HH.out, drop_one s i (by omega), drop_none s (i + 2) (by omega)]; simp [Num.halves])
        go_wp2_with (at_builtin; refine wpList_append_lies _ rfl _ _ _ rfl w.heap.size 3 i0 _ 1 8 Try.underlying38 hi hz0 hz1 hz2 rfl (by omega) _ n (ints L) rfl (hown.alloc _) ⟨wr.heap.size, 0, none⟩ 1 1 [.int .i64 ((s[i].toNat : Int))] rfl rfl (World.news_of_block (cs := #[.int .i64 ((s[i].toNat : Int))]) (t := 3) (fr := (0, 0)) (heap_alloc_new wr _)) (by simp [Value.oneCell']) (by omega) (by unfold maxLen; omega) (by omega) (by have := hbel.size; simp; omega) (wr.heap.size + 1) (by simp) ?_; intro g cap wx hown1 hgrow hat hlt1)
        have hbel1 : Below w.heap.size w wx := (hbel.alloc hbel.size _).grown hgrow (by have := hbel.size; simp; omega) (fun k hk => ((own_block hown) k hk).1)
        have HW := Lib.hid (show wx.ownsRow w.heap.size 3 1 (.slice (some ⟨g, 0, none⟩) (n + 1) cap) (n + 1) (ints (L ++ [(s[i].toNat : Int)])) by rw [ints_append]; exact hown1)
        clear hown1 hown hgrow hat
        go_wp2
        go_roundw
        case rel => exact ⟨i + 2, _, _, by omega, by go_num, by have := HLN.out; simp; omega, by have := HI.out; omega, HL.out, HW.out, hbel1⟩
        case measure => simp [intOf]; omega
    · have HL := Lib.hid (show L = Num.halves s.data.toList by
        rw [← HH.out, drop_none s i (by omega)]; simp [Num.halves])
      go_wp2
      go_ret
      refine ⟨_, rfl, ?_, hbel⟩
      rw [← HL.out, HLN.out]
      exact hown
end Go.Proofs.Ytolkpoohpimkhaa
