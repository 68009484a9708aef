/- Contracts of join, Pack and Pack's reference: halfwords as bytes; the world keeps all that was there. Condition: at most 2^40 numbers. -/
import Derived.Test.YtolkpoohpimkhaaUnpackWalk
namespace Go.Proofs.Ytolkpoohpimkhaa
open Go.RowKit Mem
set_option linter.unusedVariables false
def octs (l : List Int) : List Value := l.map (Value.int .u8)
theorem octs_append (a b : List Int) : octs (a ++ b) = octs a ++ octs b := by simp [octs]
theorem not_own {w : World} {base : Nat} {e : TypeId} {size n : Nat} {v : Value} {xs : List Value} (h : w.ownsRow base e size v n xs) (H : Nat) (hH : w.heap.size ≤ H) : v.ownBlock ≠ some H := by
  intro e
  have := (own_block h H e).2
  omega
/-- A row of bytes of the call's own as a string. -/
theorem conv_own {w : World} {base n : Nat} {v : Value} {zs : List Int} (h : w.ownsRow base 5 1 v n (octs zs)) :
    Sem.run Try.prog (convert 47 9 v) w = Result.ok (Value.string (strOfNums zs)) w := by
  have hl : zs.length = n := by have := h.1; simp [octs] at this; omega
  obtain ⟨A, c, rfl, _, _⟩ := own_shape h
  have hr := Sl.of_own h
  rcases Nat.eq_zero_or_pos n with h0 | h0
  · subst h0
    obtain rfl : zs = [] := List.eq_nil_of_length_eq_zero hl
    rcases h.2 with ⟨e, _⟩ | ⟨g, cap, cur, e, _⟩
    · cases e
      exact run_convert_bytes_nil w _ _ Try.underlying47 Try.underlying5 0 0 _ Try.underlying9
    · cases e
      exact run_convert_bytes_arg w _ _ Try.underlying47 Try.underlying5 g 0 0 _ [] rfl (fun i hi => by omega) _ Try.underlying9
  · obtain ⟨g, cap, hv, _, hlt⟩ := h.form h0
    cases hv
    refine run_convert_bytes_arg w _ _ Try.underlying47 Try.underlying5 g 0 n _ zs hl (fun i hi => ?_) _ Try.underlying9
    obtain ⟨ad, u, e1, _, hx, hc⟩ := hr.get hi
    cases e1
    have : (octs zs)[i]? = some (.int .u8 (zs.getD i 0)) := by
      unfold octs
      rw [List.getElem?_map, List.getD_eq_getElem?_getD, List.getElem?_eq_getElem (by omega)]
      rfl
    rw [this] at hx
    cases hx
    have e2 : (⟨g, 0, none⟩ : Addr).add i = ⟨g, 0 + i, none⟩ := by
      unfold Addr.add; by_cases hi0 : i = 0 <;> simp [hi0]
    rw [← e2]
    exact hc
set_option maxRecDepth 100000 in
set_option maxHeartbeats 400000 in
theorem bits_join_calls (v : Value) (n base : Nat) (bs xs : List Int) (H m c : Nat) (w : World) (hown : w.ownsRow base 5 1 v n (octs bs)) (hbase : base ≤ w.heap.size) (hm : xs.length = m)
    (hl : ∀ j z, xs[j]? = some z → w.cell? ⟨H, j, none⟩ = some (.int .i64 z)) (hH : H < w.heap.size) (hne : v.ownBlock ≠ some H) (hn : n + m ≤ 1099511627776) :
    Calls Try.prog 36 #[v, .slice (some ⟨H, 0, none⟩) m c] w fun e w' => ∃ v', e = .returned v' ∧ w'.ownsRow base 5 1 v' (n + m) (octs (bs ++ xs.map (· % 256))) ∧ Below base w w' := by
  obtain ⟨i0, hi, hz0, hz1, hz2⟩ := info_parts Try.infoByte
  have HM := Lib.hid hm; have HL := Lib.hid hl
  clear hm hl
  go_enter Try.func36, Try.ntmps36
  go_wp2
  go_loopw [0, 9] (fun v iv wr => ∃ k : Nat, k ≤ m ∧ iv = .int .i64 k ∧ wr.ownsRow base 5 1 v (n + k) (octs (bs ++ (xs.take k).map (· % 256))) ∧ Below base w wr ∧ base ≤ wr.heap.size ∧ (∀ j z, xs[j]? = some z → wr.cell? ⟨H, j, none⟩ = some (.int .i64 z)) ∧ H < wr.heap.size ∧ v.ownBlock ≠ some H) (fun _ iv _ => m - (intOf iv).toNat)
  case atStart => exact ⟨0, by omega, rfl, by simpa using hown, Below.refl _ _, hbase, HL.out, hH, hne⟩
  case round =>
    obtain ⟨k, hk, rfl, hown, hbel, hbs, hcl, hHr, hne⟩ := hrel
    have HC := Lib.hid hcl; have HN := Lib.hid hne
    clear hcl hne
    by_cases hlt : k < m
    · obtain ⟨z, hz⟩ : ∃ z, xs[k]? = some z := ⟨xs[k]'(by rw [HM.out]; exact hlt), List.getElem?_eq_getElem _⟩
      have hcell := HC.out k z hz
      have HZ := Lib.hid hz
      clear hz
      go_wp2_with (at_builtin; refine wpList_append_lies _ rfl _ _ _ rfl base 5 i0 _ 1 1 Try.underlying47 hi hz0 hz1 hz2 rfl (by omega) _ (n + k) (octs (bs ++ (xs.take k).map (· % 256))) rfl (hown.alloc _) ⟨wr.heap.size, 0, none⟩ 1 1 [.int .u8 (z % 256)] rfl rfl (World.news_of_block (cs := #[.int .u8 (z % 256)]) (t := 5) (fr := (0, 0)) (heap_alloc_new wr _)) (by simp [Value.oneCell']) (by omega) (by unfold maxLen; omega) (by omega) (by simp; omega) (wr.heap.size + 1) (by simp) ?_; intro g cap wx hown1 hgrow hat hlt1)
      have hbel1 : Below base w wx := (hbel.alloc hbs _).grown hgrow (by simp; omega) (fun k hk => ((own_block hown) k hk).1)
      have HW := Lib.hid (show wx.ownsRow base 5 1 (.slice (some ⟨g, 0, none⟩) (n + k + 1) cap) (n + (k + 1)) (octs (bs ++ (xs.take (k + 1)).map (· % 256))) by
        rw [List.take_add_one, HZ.out]
        simp only [Option.toList_some, List.map_append, List.map_cons, List.map_nil]
        rw [← List.append_assoc, octs_append]
        exact hown1)
      have hsz : wr.heap.size + 1 ≤ wx.heap.size := by have := hgrow.size; simpa using this
      have HC1 := Lib.hid (show ∀ j z, xs[j]? = some z → wx.cell? ⟨H, j, none⟩ = some (.int .i64 z) from fun j z hj => by
        rw [hgrow.cell_far ⟨H, j, none⟩ (by simp; omega) (Ne.symm HN.out), World.cell?_alloc_lt wr _ _ hHr]
        exact HC.out j z hj)
      have HN1 := Lib.hid (show (Value.slice (some ⟨g, 0, none⟩) (n + k + 1) cap).ownBlock ≠ some H by
        intro e
        have e' : g = H := by simpa [Value.ownBlock] using e
        rcases hat with h | h
        · exact HN.out (h.trans (congrArg some e'))
        · omega)
      clear hown1 hown hgrow hat hcell
      go_wp2
      go_roundw
      case rel => exact ⟨k + 1, by omega, by go_num, HW.out, hbel1, by omega, HC1.out, by omega, HN1.out⟩
      case measure => simp [intOf]; omega
    · obtain rfl : k = m := by omega
      go_wp2
      go_ret
      refine ⟨_, rfl, ?_, hbel⟩
      rw [List.take_of_length_le (by rw [HM.out]; exact Nat.le_refl _)] at hown
      exact hown
theorem octets_take {xs : List Int} {k : Nat} {z : Int} (h : xs[k]? = some z) : Num.octets (xs.take (k + 1)) = Num.octets (xs.take k) ++ [z % 256, z / 256 % 256] := by
  rw [List.take_add_one, h, Num.octets_append]; rfl
set_option maxRecDepth 100000 in
set_option maxHeartbeats 400000 in
theorem bits_Pack (A : Option Addr) (n c B : Nat) (xs : List Int) (w : World) (hx : Ints w B A n xs) (hB : B ≤ w.heap.size) (hn : n ≤ 1099511627) :
    Calls Try.prog 30 #[.slice A n c] w fun e w' => e = .returned (.string (strOfNums (Num.octets xs))) ∧ Below w.heap.size w w' := by
  have HX := Lib.hid hx
  clear hx
  go_enter Try.func30, Try.ntmps30
  go_wp2
  go_loopw [3, 8] (fun v iv wr => ∃ k : Nat, k ≤ n ∧ iv = .int .i64 k ∧ wr.ownsRow w.heap.size 5 1 v (2 * k) (octs (Num.octets (xs.take k))) ∧ Below w.heap.size w wr) (fun _ iv _ => n - (intOf iv).toNat)
  case atStart => exact ⟨0, by omega, rfl, own_nil _ _ _, Below.refl _ _⟩
  case round =>
    obtain ⟨k, hk, rfl, hown, hbel⟩ := hrel
    have hsz := hbel.size
    by_cases hlt : k < n
    · obtain ⟨ad, z, rfl, hb1, hz, hc⟩ := (HX.out.below (hbel.mono hB)).get hlt
      have HZ := Lib.hid (octets_take hz)
      clear hz
      go_wp2_with fail
      refine (bits_join_calls _ (2 * k) w.heap.size (Num.octets (xs.take k)) [z, z / 256] wr.heap.size 2 2 _ (hown.alloc _) (by simp; omega) rfl ?c1 (by simp) (not_own hown _ (Nat.le_refl _)) (by omega)).mono ?_
      case c1 =>
        intro j u hj
        rw [Mem.new_cell]
        match j, hj with
        | 0, hj => cases hj; rfl
        | 1, hj => cases hj; rfl
      rintro e w1 ⟨v1, rfl, hown1, hbel1⟩
      have hbel2 : Below w.heap.size w w1 := (hbel.alloc hbel.size _).trans hbel1
      have HW := Lib.hid (show w1.ownsRow w.heap.size 5 1 v1 (2 * (k + 1)) (octs (Num.octets (xs.take (k + 1)))) by
        rw [HZ.out]; exact hown1)
      clear hown hown1 hbel1
      go_wp2
      go_roundw
      case rel => exact ⟨k + 1, by omega, by go_num, HW.out, hbel2⟩
      case measure => simp [intOf]; omega
    · obtain rfl : k = n := by omega
      have hconv := conv_own hown
      rw [List.take_of_length_le (by rw [HX.out.len]; exact Nat.le_refl _)] at hconv
      go_wp2
      go_ret
      exact ⟨rfl, hbel⟩
set_option maxRecDepth 100000 in
set_option maxHeartbeats 1000000 in
theorem ref_Pack (A : Option Addr) (n c B : Nat) (xs : List Int) (w : World) (hx : Ints w B A n xs) (hB : B ≤ w.heap.size) (hn : n ≤ 1099511627) :
    Calls Try.prog 31 #[.slice A n c] w fun e w' => e = .returned (.string (strOfNums (Num.octets xs))) ∧ Below w.heap.size w w' := by
  obtain ⟨i0, hi, hz0, hz1, hz2⟩ := info_parts Try.infoByte
  have HX := Lib.hid hx
  clear hx
  go_enter Try.func31, Try.ntmps31
  go_wp2
  go_loopw [3, 4] (fun v iv wr => ∃ k : Nat, k ≤ n ∧ iv = .int .i64 k ∧ wr.ownsRow w.heap.size 5 1 v (2 * k) (octs (Num.octets (xs.take k))) ∧ Below w.heap.size w wr) (fun _ iv _ => n - (intOf iv).toNat)
  case atStart => exact ⟨0, by omega, rfl, own_nil _ _ _, Below.refl _ _⟩
  case round =>
    obtain ⟨k, hk, rfl, hown, hbel⟩ := hrel
    have hsz := hbel.size
    by_cases hlt : k < n
    · obtain ⟨ad, z, rfl, hb1, hz, hc⟩ := (HX.out.below (hbel.mono hB)).get hlt
      have HZ := Lib.hid (octets_take hz)
      clear hz
      have hk0 : (0 : Int) ≤ (k : Int) := Int.natCast_nonneg _
      have hk1 : (k : Int) < (n : Int) := by omega
      have hnn := World.new_ne wr (ad.add k) hc
      have HF := Lib.hid (show (ad.add k).block < w.heap.size by rw [add_block]; omega)
      have HO := Lib.hid (fun g hg => (own_block hown g hg).1)
      go_wp2
      go_region_held3 (fun w' => w'.cell? (ad.add k) = some (.int .i64 z))
        (first | go_keep | (rw [hgrow.cell_far (ad.add k) (by have := HF.out; simp; omega) (fun e => by have := HO.out _ e.symm; have := HF.out; omega)]; assumption))
        ((refine step_append_lies _ (by rfl) _ _ _ (by rfl) w.heap.size 5 i0 _ 1 1 Try.underlying47 hi hz0 hz1 hz2 rfl (by omega) _ (2 * k) (octs (Num.octets (xs.take k))) (by rfl) ((hown.alloc _).drew) ⟨wr.heap.size, 0, none⟩ 2 2 [.int .u8 (z % 256), .int .u8 (z / 256 % 256)] (by rfl) (by rfl) (World.news_of_block (cs := #[.int .u8 (z % 256), .int .u8 (z / 256 % 256)]) (t := 5) (fr := (0, 0)) (heap_alloc_new wr _)) (by simp [Value.oneCell']) (by omega) (by unfold maxLen; omega) (by omega) (by simp; omega) (wr.heap.size + 1) (by simp) ?_; intro g cap wx hown1 hgrow hat hlt1))
      all_goals
        have hbel2 : Below w.heap.size w wx := ((hbel.alloc hbel.size _).drew).grown hgrow (by simp; omega) (fun g hg => HO.out g hg)
        have HW := Lib.hid (show wx.ownsRow w.heap.size 5 1 (.slice (some ⟨g, 0, none⟩) (2 * k + 2) cap) (2 * (k + 1)) (octs (Num.octets (xs.take (k + 1)))) by
          rw [HZ.out, octs_append]; exact hown1)
        clear hown hown1 hgrow hat hc hnn
        go_wp2
        go_roundw
        case rel => exact ⟨k + 1, by omega, by go_num, HW.out, hbel2⟩
        case measure => simp [intOf]; omega
    · obtain rfl : k = n := by omega
      have hconv := conv_own hown
      rw [List.take_of_length_le (by rw [HX.out.len]; exact Nat.le_refl _)] at hconv
      go_wp2
      go_ret
      exact ⟨rfl, hbel⟩
end Go.Proofs.Ytolkpoohpimkhaa
