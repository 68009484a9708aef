/- Contracts of layer 16's Name and of its reference. -/
import Derived.Test.YtnngmpimobolpaaLexRefSign
namespace Go.Proofs.Ytnngmpimobolpaa
open Go.RowKit Mem
set_option linter.unusedVariables false
/-- Whether a text is a name without a dot. -/
def nameB (l : Lx.Bs) : Bool := decide (0 < l.length ∧ l.length ≤ 32 ∧ Lx.span l = l.length) && !l.contains 46
theorem idx_dot (s : ByteArray) (w : World) : Calls Try.prog 70 #[.string s, .int .u8 46] w fun e w' => e = .returned (.int .i64 (Lib.indexByte s.data.toList 46)) ∧ w' = w := Try.strings_IndexByte s 46 w
theorem index_hasn (l : List UInt8) (c : UInt8) : decide (Lib.indexByte l c < (0 : Int)) = !l.contains c := by
  rw [← index_has, Bool.eq_iff_iff]; simp
theorem list_size (s : ByteArray) : s.data.toList.length = s.size := by simp
theorem nameB_no {s : ByteArray} (h : ¬ (0 < s.size ∧ s.size ≤ 32 ∧ Lx.span s.data.toList = s.size)) : nameB s.data.toList = false := by
  unfold nameB; rw [list_size]; simp [h]
theorem nameB_yes {s : ByteArray} (h : 0 < s.size ∧ s.size ≤ 32 ∧ Lx.span s.data.toList = s.size) : nameB s.data.toList = !s.data.toList.contains 46 := by
  unfold nameB; rw [list_size]; simp [h]
set_option maxRecDepth 100000 in
set_option maxHeartbeats 1000000 in
theorem lex_Name (s : ByteArray) (w : World) (hs : s.size ≤ 9223372036854775807) :
    Calls Try.prog 67 #[.string s] w fun e w' => e = .returned (.bool (nameB s.data.toList)) ∧ w' = w := by
  obtain ⟨r, hr⟩ : ∃ r, r = nameB s.data.toList := ⟨_, rfl⟩
  rw [← hr]
  have HR := Lib.hid hr
  clear hr
  by_cases h0 : 0 < s.size
  · have he := pos_emp h0
    by_cases h32 : s.size ≤ 32
    · have hle := Lx.span_le s.data.toList
      rw [list_size] at hle
      by_cases h3 : Lx.span s.data.toList = s.size
      · have HN := Lib.hid (nameB_yes ⟨h0, h32, h3⟩)
        have H3 := Lib.hid h3
        clear h3 hle
        cases h4 : s.data.toList.contains 46 with
        | true =>
          have h5 := index_hasn s.data.toList 46
          rw [h4] at h5
          have H4 := Lib.hid h4
          clear h4
          simp only [Bool.not_true] at h5
          go_enter Try.func67, Try.ntmps67
          go_wp2_with (first | (go_at_call 69; refine (lex_span s _ hs).mono ?_; rintro e w' ⟨rfl, rfl⟩; rw [H3.out]) | (go_at_call 70; refine (idx_dot s _).mono ?_; rintro e w' ⟨rfl, rfl⟩))
          go_ret
          exact ⟨ret_bool (by rw [HR.out, HN.out, H4.out]; rfl), rfl⟩
        | false =>
          have h5 := index_hasn s.data.toList 46
          rw [h4] at h5
          have H4 := Lib.hid h4
          clear h4
          simp only [Bool.not_false] at h5
          go_enter Try.func67, Try.ntmps67
          go_wp2_with (first | (go_at_call 69; refine (lex_span s _ hs).mono ?_; rintro e w' ⟨rfl, rfl⟩; rw [H3.out]) | (go_at_call 70; refine (idx_dot s _).mono ?_; rintro e w' ⟨rfl, rfl⟩))
          go_ret
          exact ⟨ret_bool (by rw [HR.out, HN.out, H4.out]; rfl), rfl⟩
      · have HN := Lib.hid (nameB_no (s := s) (fun h => h3 h.2.2))
        obtain ⟨k, hk⟩ : ∃ k, k = Lx.span s.data.toList := ⟨_, rfl⟩
        have HK := Lib.hid hk
        have h5 : ((k : Int) == (s.size : Int)) = false := by rw [beq_eq_false_iff_ne]; omega
        clear h3 hle hk
        go_enter Try.func67, Try.ntmps67
        go_wp2_with (first | (go_at_call 69; refine (lex_span s _ hs).mono ?_; rintro e w' ⟨rfl, rfl⟩; rw [← HK.out]))
        go_ret
        exact ⟨ret_bool (by rw [HR.out, HN.out]), rfl⟩
    · have HN := Lib.hid (nameB_no (s := s) (fun h => h32 h.2.1))
      go_enter Try.func67, Try.ntmps67
      go_wp2
      go_ret
      exact ⟨ret_bool (by rw [HR.out, HN.out]), rfl⟩
  · have HN := Lib.hid (nameB_no (s := s) (fun h => h0 h.1))
    obtain rfl := size_zero h0
    go_enter Try.func67, Try.ntmps67
    go_wp2
    go_ret
    exact ⟨ret_bool (by rw [HR.out, HN.out]), rfl⟩
theorem dot_yes {s : ByteArray} {k : Nat} (h : k < s.size) (hc : ((s[k].toNat : Int) == 46) = true) : s.data.toList.contains 46 = true := by
  have e : s[k] = 46 := by
    rw [beq_iff_eq] at hc
    exact UInt8.toNat_inj.1 (by show s[k].toNat = 46; omega)
  have : s[k] ∈ s.data.toList := by
    have := drop_at s k h
    exact List.mem_of_mem_drop (i := k) (by rw [this]; simp)
  rw [e] at this
  simpa using this
theorem dot_no {s : ByteArray} {k : Nat} (h : k < s.size) (hc : ((s[k].toNat : Int) == 46) = false) (hall : 46 ∉ s.data.toList.take k) : 46 ∉ s.data.toList.take (k + 1) := by
  rw [List.take_succ_eq_append_getElem (by simpa using h), List.mem_append]
  rintro (h1 | h1)
  · exact hall h1
  · simp only [List.mem_singleton] at h1
    rw [beq_eq_false_iff_ne] at hc
    apply hc
    have : s[k] = 46 := h1.symm
    rw [this]; rfl
theorem dot_end {s : ByteArray} {k : Nat} (h : ¬ k < s.size) (hall : 46 ∉ s.data.toList.take k) : s.data.toList.contains 46 = false := by
  rw [List.take_of_length_le (by rw [list_size]; omega)] at hall
  simpa using hall
set_option maxRecDepth 100000 in
set_option maxHeartbeats 1000000 in
theorem ref_Name (s : ByteArray) (w : World) (hs : s.size ≤ 9223372036854775807) :
    Calls Try.prog 68 #[.string s] w fun e w' => e = .returned (.bool (nameB s.data.toList)) ∧ w' = w := by
  obtain ⟨r, hr⟩ : ∃ r, r = nameB s.data.toList := ⟨_, rfl⟩
  rw [← hr]
  have HR := Lib.hid hr
  clear hr
  by_cases h0 : 0 < s.size
  · have he := pos_emp h0
    by_cases h32 : s.size ≤ 32
    · have hle := Lx.span_le s.data.toList
      rw [list_size] at hle
      by_cases h3 : Lx.span s.data.toList = s.size
      · have HN := Lib.hid (nameB_yes ⟨h0, h32, h3⟩)
        have H3 := Lib.hid h3
        have h5 : ((s.size : Int) != (s.size : Int)) = false := by simp
        clear h3 hle
        go_enter Try.func68, Try.ntmps68
        go_wp2_with (first | (go_at_call 71; refine (ref_run s _ hs).mono ?_; rintro e w' ⟨rfl, rfl⟩; rw [H3.out]))
        clear he h5
        go_loop [3] (fun iv => ∃ (k : Nat), iv = .int .i64 k ∧ k ≤ s.size ∧ 46 ∉ s.data.toList.take k) (fun iv => s.size - (intOf iv).toNat)
        case atStart => exact ⟨0, rfl, by omega, by simp⟩
        case round =>
          obtain ⟨k, rfl, hk, hall⟩ := hrel
          have HA := Lib.hid hall
          clear hall
          by_cases h : k < s.size
          · go_wp2
            · have hc := dot_yes (k := k) h (by assumption)
              go_ret
              exact ⟨ret_bool (by rw [HR.out, HN.out, hc]; rfl), rfl⟩
            · have hc := dot_no (k := k) h (by assumption) HA.out
              go_round
              case rel => exact ⟨k + 1, by go_num, by omega, hc⟩
              case measure => simp [intOf]; omega
          · have hc := Lib.hid (dot_end h HA.out)
            go_wp2
            go_ret
            exact ⟨ret_bool (by rw [HR.out, HN.out, hc.out]; rfl), rfl⟩
      · have HN := Lib.hid (nameB_no (s := s) (fun h => h3 h.2.2))
        obtain ⟨k, hk⟩ : ∃ k, k = Lx.span s.data.toList := ⟨_, rfl⟩
        have HK := Lib.hid hk
        have h5 : ((k : Int) != (s.size : Int)) = true := by rw [bne_iff_ne]; omega
        clear h3 hle hk
        go_enter Try.func68, Try.ntmps68
        go_wp2_with (first | (go_at_call 71; refine (ref_run s _ hs).mono ?_; rintro e w' ⟨rfl, rfl⟩; rw [← HK.out]))
        go_ret
        exact ⟨ret_bool (by rw [HR.out, HN.out]), rfl⟩
    · have HN := Lib.hid (nameB_no (s := s) (fun h => h32 h.2.1))
      go_enter Try.func68, Try.ntmps68
      go_wp2
      go_ret
      exact ⟨ret_bool (by rw [HR.out, HN.out]), rfl⟩
  · have HN := Lib.hid (nameB_no (s := s) (fun h => h0 h.1))
    obtain rfl := size_zero h0
    go_enter Try.func68, Try.ntmps68
    go_wp2
    go_ret
    exact ⟨ret_bool (by rw [HR.out, HN.out]), rfl⟩
end Go.Proofs.Ytnngmpimobolpaa
