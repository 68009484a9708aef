/- Contract of the reference's sign. -/
import Derived.Test.YtfknokclemljfaaLexSign
namespace Go.Proofs.Ytfknokclemljfaa
open Go.RowKit Mem
set_option linter.unusedVariables false
theorem ext_pre {s : ByteArray} {a b : UInt8} (h2 : 1 < s.size) : ((s.extract 0 2).toList == [a, b]) = [a, b].isPrefixOf s.data.toList := by
  rw [ext_list]
  have hlen : s.data.toList.length = s.size := by simp
  match hl : s.data.toList with
  | [] => rw [hl] at hlen; simp at hlen; omega
  | [x] => rw [hl] at hlen; simp at hlen; omega
  | x :: y :: t =>
    simp only [List.take_succ_cons, List.take_zero, List.isPrefixOf]
    rw [Bool.eq_iff_iff]
    simp
    constructor
    · rintro ⟨rfl, rfl⟩; exact ⟨rfl, rfl⟩
    · rintro ⟨rfl, rfl⟩; exact ⟨rfl, rfl⟩
theorem no_pre {s : ByteArray} {a b : UInt8} (h2 : ¬ 1 < s.size) : [a, b].isPrefixOf s.data.toList = false := by
  cases h : [a, b].isPrefixOf s.data.toList with
  | false => rfl
  | true =>
    have := Lx.prefix_len _ _ h
    have e : s.data.toList.length = s.size := by simp
    simp at this; omega
abbrev sg : ByteArray := ⟨#[44, 58, 35, 91, 93, 123, 125, 33, 61, 40, 41, 43, 45, 42, 38, 124, 126]⟩
theorem sg_at {k : Nat} (h : k < sg.size) : Lx.signs[k]? = some sg[k] := List.getElem?_eq_getElem (l := Lx.signs) (i := k) h
theorem sg_yes {k : Nat} {c : UInt8} (h : k < sg.size) (hc : ((sg[k].toNat : Int) == (c.toNat : Int)) = true) : Lx.signs.contains c = true := by
  have e : sg[k] = c := by
    rw [beq_iff_eq] at hc
    exact UInt8.toNat_inj.1 (by omega)
  have := List.mem_of_getElem? (sg_at h)
  rw [e] at this
  simpa using this
theorem sg_no {k : Nat} {c : UInt8} (h : k < sg.size) (hc : ((sg[k].toNat : Int) == (c.toNat : Int)) = false) (hall : ∀ j x, j < k → Lx.signs[j]? = some x → x ≠ c) : ∀ j x, j < k + 1 → Lx.signs[j]? = some x → x ≠ c := by
  intro j x hj hx
  by_cases e : j = k
  · subst e
    rw [sg_at h] at hx
    obtain rfl := Option.some.inj hx
    rintro e2
    rw [e2] at hc
    simp at hc
  · exact hall j x (by omega) hx
theorem sg_end {k : Nat} {c : UInt8} (h : ¬ k < 17) (hall : ∀ j x, j < k → Lx.signs[j]? = some x → x ≠ c) : Lx.signs.contains c = false := by
  cases e : Lx.signs.contains c with
  | false => rfl
  | true =>
    have hm : c ∈ Lx.signs := by simpa using e
    obtain ⟨j, hj, hx⟩ := List.getElem_of_mem hm
    have hj2 : j < 17 := hj
    exact absurd rfl (hall j c (by omega) (by rw [List.getElem?_eq_getElem hj, hx]))
set_option maxRecDepth 100000 in
set_option maxHeartbeats 1000000 in
theorem ref_sign (s : ByteArray) (w : World) (hp : 0 < s.size) (hs : s.size ≤ 9223372036854775807) :
    Calls Try.prog 25 #[.string s] w fun e w' => e = .returned (.int .i64 (Lx.signLen s.data.toList)) ∧ ∃ n, w' = w.drewN n := by
  obtain ⟨r, hr⟩ : ∃ r, r = Lx.signLen s.data.toList := ⟨_, rfl⟩
  rw [← hr]
  have HR := Lib.hid hr
  clear hr
  by_cases h2 : 1 < s.size
  · have h60 := ext_pre (a := 60) (b := 60) h2
    have h62 := ext_pre (a := 62) (b := 62) h2
    cases h1 : [60, 60].isPrefixOf s.data.toList with
    | true =>
      obtain ⟨hn, _⟩ := sign_pre (s := s) (by rw [h1]; rfl)
      have HN := Lib.hid hn
      rw [h1] at h60
      clear hn h1 h62
      go_enter Try.func25, Try.ntmps25
      go_wp2
      go_ret
      exact ⟨ret_int (by rw [HR.out, HN.out]; rfl), 0, rfl⟩
    | false =>
      cases h3 : [62, 62].isPrefixOf s.data.toList with
      | true =>
        obtain ⟨hn, _⟩ := sign_pre (s := s) (by rw [h1, h3]; rfl)
        have HN := Lib.hid hn
        rw [h1] at h60; rw [h3] at h62
        clear hn h1 h3
        go_enter Try.func25, Try.ntmps25
        go_wp2
        go_ret
        exact ⟨ret_int (by rw [HR.out, HN.out]; rfl), 0, rfl⟩
      | false =>
        have HN := Lib.hid (sign_one hp h1 h3)
        rw [h1] at h60; rw [h3] at h62
        clear h1 h3
        go_enter Try.func25, Try.ntmps25
        go_wp2
        clear h60 h62 h2
        go_loopw [4] (fun iv wr => ∃ (k m : Nat), iv = .int .i64 k ∧ k ≤ 17 ∧ wr = w.drewN m ∧ ∀ j c, j < k → Lx.signs[j]? = some c → c ≠ s[0]) (fun iv _ => 17 - (intOf iv).toNat)
        case atStart => exact ⟨0, 0, rfl, by omega, rfl, fun j c h => by omega⟩
        case round =>
          obtain ⟨k, m, rfl, hk, rfl, hall⟩ := hrel
          have HA := Lib.hid hall
          clear hall
          by_cases h : k < 17
          · have h' : (k : Int) < 17 := by omega
            have h0 : (0 : Int) ≤ k := by omega
            go_wp2
            go_quiet (fail)
            go_wp2
            · have hc := sg_yes (k := k) (c := s[0]) h (by assumption)
              go_ret
              exact ⟨ret_int (by rw [HR.out, HN.out, if_pos hc]; rfl), m + nq, by simp⟩
            · have hc := sg_no (k := k) (c := s[0]) h (by assumption) HA.out
              go_roundw
              case rel => exact ⟨k + 1, _, by go_num, by omega, rfl, hc⟩
              case measure => simp [intOf]; omega
          · have hc := Lib.hid (sg_end (c := s[0]) h HA.out)
            go_wp2
            go_ret
            exact ⟨ret_int (by rw [HR.out, HN.out, if_neg (by rw [hc.out]; decide)]; rfl), _, rfl⟩
  · have HN := Lib.hid (sign_one hp (no_pre h2) (no_pre h2))
    go_enter Try.func25, Try.ntmps25
    go_wp2
    clear h2
    go_loopw [4] (fun iv wr => ∃ (k m : Nat), iv = .int .i64 k ∧ k ≤ 17 ∧ wr = w.drewN m ∧ ∀ j c, j < k → Lx.signs[j]? = some c → c ≠ s[0]) (fun iv _ => 17 - (intOf iv).toNat)
    case atStart => exact ⟨0, 0, rfl, by omega, rfl, fun j c h => by omega⟩
    case round =>
      obtain ⟨k, m, rfl, hk, rfl, hall⟩ := hrel
      have HA := Lib.hid hall
      clear hall
      by_cases h : k < 17
      · have h' : (k : Int) < 17 := by omega
        have h0 : (0 : Int) ≤ k := by omega
        go_wp2
        go_quiet (fail)
        go_wp2
        · have hc := sg_yes (k := k) (c := s[0]) h (by assumption)
          go_ret
          exact ⟨ret_int (by rw [HR.out, HN.out, if_pos hc]; rfl), m + nq, by simp⟩
        · have hc := sg_no (k := k) (c := s[0]) h (by assumption) HA.out
          go_roundw
          case rel => exact ⟨k + 1, _, by go_num, by omega, rfl, hc⟩
          case measure => simp [intOf]; omega
      · have hc := Lib.hid (sg_end (c := s[0]) h HA.out)
        go_wp2
        go_ret
        exact ⟨ret_int (by rw [HR.out, HN.out, if_neg (by rw [hc.out]; decide)]; rfl), _, rfl⟩
end Go.Proofs.Ytfknokclemljfaa
