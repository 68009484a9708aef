/- Contracts of conds.words, Name, Find and of their references: the conditions' names. The table of blanks is as its initialiser lays it. -/
import Derived.Test.YtfknokclemljfaaDoorShelf
import Derived.Test.YtfknokclemljfaaDoorCondWalk
import Derived.WalkSmall
namespace Go.Proofs.YtfknokclemljfaaDoor
open Go.RowKit Mem
set_option linter.unusedVariables false
/-- The table of blanks, as it was laid. -/
def Tab (w : World) : Prop := Lib.TabIs Tryd.prog w "strings.asciiSpace" .u8 Lib.asciiSpaceTab
theorem gAscii : Tryd.prog.globalNamed "strings.asciiSpace" = some 0 := by kernel_rfl
theorem Tab.keep {w w' : World} (h : Tab w) (hb : Below w.heap.size w w') : Tab w' := by
  have hg : 0 < w.heap.size := by
    unfold Tab Lib.TabIs World.var? at h
    rw [gAscii] at h
    simp only [Option.bind_some] at h
    rcases Nat.lt_or_ge 0 w.heap.size with hh | hh
    · exact hh
    · rw [Array.getElem?_eq_none hh] at h; cases h
  exact var?_below hb gAscii hg h
theorem Tab.alloc {w : World} (h : Tab w) (o : Obj) : Tab (w.alloc o) := h.keep ((Below.refl _ _).alloc (Nat.le_refl _) _)
def namesObj : Obj := .cells (nms.map Value.string).toArray 9
theorem names_cell (w : World) (k : Nat) (hk : k < 14) : (w.alloc namesObj).cell? ⟨w.heap.size, k, none⟩ = some (.string (nm k)) := by
  unfold namesObj
  rw [Mem.new_cell]
  rw [List.getElem?_toArray, List.getElem?_map, nm, List.getD_eq_getElem?_getD, List.getElem?_eq_getElem (show k < nms.length from hk)]
  rfl
theorem fields_names : (Lib.fields [101, 113, 32, 110, 101, 32, 99, 115, 32, 99, 99, 32, 109, 105, 32, 112, 108, 32, 118, 115, 32, 118, 99, 32, 104, 105, 32, 108, 115, 32, 103, 101, 32, 108, 116, 32, 103, 116, 32, 108, 101]).map (fun l => Value.string ⟨l.toArray⟩) = nms.map Value.string := by rfl
theorem fields_len : (Lib.fields [101, 113, 32, 110, 101, 32, 99, 115, 32, 99, 99, 32, 109, 105, 32, 112, 108, 32, 118, 115, 32, 118, 99, 32, 104, 105, 32, 108, 115, 32, 103, 101, 32, 108, 116, 32, 103, 116, 32, 108, 101]).length = 14 := by rfl
theorem ascii_names : ∀ (j : Nat) b, [101, 113, 32, 110, 101, 32, 99, 115, 32, 99, 99, 32, 109, 105, 32, 112, 108, 32, 118, 115, 32, 118, 99, 32, 104, 105, 32, 108, 115, 32, 103, 101, 32, 108, 116, 32, 103, 116, 32, 108, (101 : UInt8)][j]? = some b → b.toNat < 128 := by
  intro j b h
  have hm := List.mem_of_getElem? h
  exact (by decide : ∀ b ∈ [101, 113, 32, 110, 101, 32, 99, 115, 32, 99, 99, 32, 109, 105, 32, 112, 108, 32, 118, 115, 32, 118, 99, 32, 104, 105, 32, 108, 115, 32, 103, 101, 32, 108, 116, 32, 103, 116, 32, 108, (101 : UInt8)], b.toNat < 128) b hm
theorem fields_words (w : World) (ht : Tab w) : Calls Tryd.prog 31 #[.string ⟨#[101, 113, 32, 110, 101, 32, 99, 115, 32, 99, 99, 32, 109, 105, 32, 112, 108, 32, 118, 115, 32, 118, 99, 32, 104, 105, 32, 108, 115, 32, 103, 101, 32, 108, 116, 32, 103, 116, 32, 108, 101]⟩] w
    fun e w' => e = .returned (.slice (some ⟨w.heap.size, 0, none⟩) 14 14) ∧ w' = w.alloc namesObj := by
  refine (Tryd.strings_Fields ⟨#[101, 113, 32, 110, 101, 32, 99, 115, 32, 99, 99, 32, 109, 105, 32, 112, 108, 32, 118, 115, 32, 118, 99, 32, 104, 105, 32, 108, 115, 32, 103, 101, 32, 108, 116, 32, 103, 116, 32, 108, 101]⟩ w (by decide) ascii_names ht).mono ?_
  rintro e w' ⟨rfl, rfl⟩
  exact ⟨rfl, rfl⟩
theorem conds_words (w : World) (ht : Tab w) : Calls Tryd.prog 28 #[] w
    fun e w' => e = .returned (.slice (some ⟨w.heap.size, 0, none⟩) 14 14) ∧ w' = w.alloc namesObj := by
  go_enter Tryd.func28, Tryd.ntmps28
  go_wp2_with (go_at_call 31; refine (fields_words _ ht).mono ?_; rintro e w' ⟨rfl, rfl⟩)
  go_ret
  exact ⟨rfl, rfl⟩
theorem ref_names (w : World) : Calls Tryd.prog 29 #[] w
    fun e w' => e = .returned (.slice (some ⟨w.heap.size, 0, none⟩) 14 14) ∧ w' = w.alloc namesObj := by
  go_enter Tryd.func29, Tryd.ntmps29
  go_wp2
  go_ret
  exact ⟨rfl, rfl⟩
theorem conds_Name (c : Int) (w : World) (ht : Tab w) (hk : -9223372036854775808 ≤ c) (hk' : c ≤ 9223372036854775807) :
    Calls Tryd.prog 14 #[.int .i64 c] w fun e w' => e = .returned (.string (nameOf c)) ∧ w' = w.alloc namesObj := by
  by_cases h1 : c < 0
  · go_enter Tryd.func14, Tryd.ntmps14
    go_wp2_with (go_at_call 28; refine (conds_words _ ht).mono ?_; rintro e w' ⟨rfl, rfl⟩)
    go_ret
    exact ⟨ret_str (by rw [nameOf_none (.inl h1)]), rfl⟩
  by_cases h2 : 13 < c
  · have h3 : ¬ c < 14 := by omega
    go_enter Tryd.func14, Tryd.ntmps14
    go_wp2_with (go_at_call 28; refine (conds_words _ ht).mono ?_; rintro e w' ⟨rfl, rfl⟩)
    go_ret
    exact ⟨ret_str (by rw [nameOf_none (.inr h2)]), rfl⟩
  obtain ⟨k, rfl⟩ := Int.eq_ofNat_of_zero_le (show 0 ≤ c by omega)
  have hk : k < 14 := by omega
  have hc := names_cell w k hk
  have HN := Lib.hid (nameOf_nat (k := k) (by omega))
  go_enter Tryd.func14, Tryd.ntmps14
  go_wp2_with (go_at_call 28; refine (conds_words _ ht).mono ?_; rintro e w' ⟨rfl, rfl⟩)
  go_ret
  exact ⟨ret_str (by rw [HN.out]), rfl⟩
theorem ref_Name (c : Int) (w : World) (hk : -9223372036854775808 ≤ c) (hk' : c ≤ 9223372036854775807) :
    Calls Tryd.prog 15 #[.int .i64 c] w fun e w' => e = .returned (.string (nameOf c)) ∧ Below w.heap.size w w' := by
  by_cases h1 : c < 0
  · go_enter Tryd.func15, Tryd.ntmps15
    go_wp2
    go_ret
    exact ⟨ret_str (by rw [nameOf_none (.inl h1)]), Below.refl _ _⟩
  by_cases h2 : 13 < c
  · go_enter Tryd.func15, Tryd.ntmps15
    go_wp2
    go_ret
    exact ⟨ret_str (by rw [nameOf_none (.inr h2)]), Below.refl _ _⟩
  obtain ⟨k, rfl⟩ := Int.eq_ofNat_of_zero_le (show 0 ≤ c by omega)
  have hk : k < 14 := by omega
  have hc := names_cell w k hk
  have HN := Lib.hid (nameOf_nat (k := k) (by omega))
  go_enter Tryd.func15, Tryd.ntmps15
  go_wp2_with (go_at_call 29; refine (ref_names _).mono ?_; rintro e w' ⟨rfl, rfl⟩)
  go_ret
  exact ⟨ret_str (by rw [HN.out]), (Below.refl _ _).alloc (Nat.le_refl _) _⟩
theorem find_hit {k : Nat} (hk : k < 14) {s : ByteArray} (h : nm k = s) (hno : ∀ j, j < k → nm j ≠ s) : Lib.idxOfS nms s = k := Lib.idxOfS_hit nms 14 k s hk (Nat.le_refl _) h hno
theorem find_miss {s : ByteArray} (hno : ∀ j, j < 14 → nm j ≠ s) : Lib.idxOfS nms s = -1 := Lib.idxOfS_miss nms 14 s hno
theorem find_in {s : ByteArray} (h1 : s ≠ sEmp) (h2 : s ≠ sAl) (h3 : s ≠ sHs) (h4 : s ≠ sLo) : findC s = Lib.idxOfS nms s := by
  unfold findC; rw [if_neg h1, if_neg h2, if_neg h3, if_neg h4]
theorem conds_Find (s : ByteArray) (w : World) (ht : Tab w) :
    Calls Tryd.prog 17 #[.string s] w fun e w' => e = .returned (.int .i64 (findC s)) ∧ Below w.heap.size w w' := by
  have HB := Lib.hid (((Below.refl w.heap.size w).alloc (Nat.le_refl _) namesObj))
  by_cases h1 : s = sEmp
  · subst h1; unfold sEmp; go_enter Tryd.func17, Tryd.ntmps17
    go_wp2
    go_ret
    exact ⟨ret_int (by decide), Below.refl _ _⟩
  by_cases h2 : s = sAl
  · subst h2; unfold sAl; go_enter Tryd.func17, Tryd.ntmps17
    go_wp2
    go_ret
    exact ⟨ret_int (by decide), Below.refl _ _⟩
  by_cases h3 : s = sHs
  · subst h3; unfold sHs; go_enter Tryd.func17, Tryd.ntmps17
    go_wp2
    go_ret
    exact ⟨ret_int (by decide), Below.refl _ _⟩
  by_cases h4 : s = sLo
  · subst h4; unfold sLo; go_enter Tryd.func17, Tryd.ntmps17
    go_wp2
    go_ret
    exact ⟨ret_int (by decide), Below.refl _ _⟩
  have HF := Lib.hid (find_in h1 h2 h3 h4)
  have e1 := str_emp h1
  have e2 := str_ne (l := [97, 108]) h2
  have e3 := str_ne (l := [104, 115]) h3
  have e4 := str_ne (l := [108, 111]) h4
  clear h1 h2 h3 h4
  go_enter Tryd.func17, Tryd.ntmps17
  go_wp2_with (first | (go_at_call 28; refine (conds_words _ ht).mono ?_; rintro e w' ⟨rfl, rfl⟩) | (go_at_call 30; refine (Tryd.slices_Index_string _ 0 14 14 nms s _ (by decide) (by omega) (fun j hj => (by simpa [nm] using names_cell w j hj))).mono ?_; rintro e w' ⟨rfl, rfl⟩))
  go_ret
  exact ⟨ret_int (by rw [HF.out]; rfl), HB.out⟩
set_option maxRecDepth 100000 in
set_option maxHeartbeats 400000 in
theorem ref_Find04 (s : ByteArray) (w : World) :
    Calls Tryd.prog 18 #[.string s] w fun e w' => e = .returned (.int .i64 (findC s)) ∧ Below w.heap.size w w' := by
  by_cases h1 : s = sEmp
  · subst h1; unfold sEmp; go_enter Tryd.func18, Tryd.ntmps18
    go_wp2
    go_ret
    exact ⟨ret_int (by decide), Below.refl _ _⟩
  by_cases h2 : s = sAl
  · subst h2; unfold sAl; go_enter Tryd.func18, Tryd.ntmps18
    go_wp2
    go_ret
    exact ⟨ret_int (by decide), Below.refl _ _⟩
  by_cases h3 : s = sHs
  · subst h3; unfold sHs; go_enter Tryd.func18, Tryd.ntmps18
    go_wp2
    go_ret
    exact ⟨ret_int (by decide), Below.refl _ _⟩
  by_cases h4 : s = sLo
  · subst h4; unfold sLo; go_enter Tryd.func18, Tryd.ntmps18
    go_wp2
    go_ret
    exact ⟨ret_int (by decide), Below.refl _ _⟩
  have HF := Lib.hid (find_in h1 h2 h3 h4)
  have e1 := str_emp h1
  have e2 := str_ne (l := [97, 108]) h2
  have e3 := str_ne (l := [104, 115]) h3
  have e4 := str_ne (l := [108, 111]) h4
  clear h1 h2 h3 h4
  obtain ⟨r, hr⟩ : ∃ r, r = findC s := ⟨_, rfl⟩
  rw [← hr]
  have HR := Lib.hid hr
  clear hr
  go_enter Tryd.func18, Tryd.ntmps18
  go_wp2
  go_loopw [3] (fun i wr => ∃ k : Nat, k ≤ 14 ∧ i = .int .i64 k ∧ Below w.heap.size w wr ∧ ∀ j, j < k → nm j ≠ s) (fun i _ => 14 - (intOf i).toNat)
  case atStart => exact ⟨0, by omega, rfl, Below.refl _ _, fun j h => by omega⟩
  case round =>
    obtain ⟨k, hk, rfl, hbel, hno⟩ := hrel
    have HN := Lib.hid hno
    have HB := Lib.hid hbel
    clear hno hbel
    by_cases hlt : k < 14
    · have hc := names_cell wr k hlt
      cases hv : ((nm k).toList == s.toList) with
      | true =>
        have HE := Lib.hid (find_hit hlt (str_eq hv) HN.out)
        go_wp2_with (go_at_call 29; refine (ref_names _).mono ?_; rintro e w' ⟨rfl, rfl⟩)
        go_ret
        exact ⟨ret_int (by rw [HR.out, HF.out, HE.out]), HB.out.alloc HB.out.size _⟩
      | false =>
        have HE := Lib.hid (show ∀ j, j < k + 1 → nm j ≠ s from fun j hj => by
          by_cases e : j = k
          · subst e; intro e2; rw [e2] at hv; simp at hv
          · exact HN.out j (by omega))
        go_wp2_with (go_at_call 29; refine (ref_names _).mono ?_; rintro e w' ⟨rfl, rfl⟩)
        go_roundw
        case rel => exact ⟨k + 1, by omega, by go_num, HB.out.alloc HB.out.size _, HE.out⟩
        case measure => simp [intOf]; omega
    · obtain rfl : k = 14 := by omega
      have HE := Lib.hid (find_miss HN.out)
      go_wp2
      go_ret
      exact ⟨ret_int (by rw [HR.out, HF.out, HE.out]), HB.out⟩
end Go.Proofs.YtfknokclemljfaaDoor
