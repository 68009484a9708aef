/- Contracts of lex.number and of its reference (printed by mklexnum.py). -/
import Derived.Test.YtfknokclemljfaaLexWalks
import Derived.Lib.Strings
namespace Go.Proofs.Ytfknokclemljfaa
open Go.RowKit Mem
set_option linter.unusedVariables false
theorem ext_list (s : ByteArray) (k : Nat) : (s.extract 0 k).toList = s.data.toList.take k := by rw [Lib.extract_toList]; simp
theorem hex_two {s : ByteArray} (h : Lx.hex s.data.toList = true) : 1 < s.size := by
  have := Lx.prefix_len _ _ h
  have e : s.data.toList.length = s.size := by simp
  simp at this
  omega
theorem nat_bne {a b : Nat} (h : ¬ a = b) : ((a : Int) == (b : Int)) = false := by rw [beq_eq_false_iff_ne]; omega
theorem nat_beq {a b : Nat} (h : a = b) : ((a : Int) == (b : Int)) = true := by rw [beq_iff_eq]; omega
theorem hex_ext {s : ByteArray} (h : Lx.hex s.data.toList = true) : ((s.extract 0 2).toList == [48, 120]) = true := by
  rw [ext_list]
  unfold Lx.hex at h
  match hl : s.data.toList with
  | [] => rw [hl] at h; cases h
  | [a] => rw [hl] at h; simp [List.isPrefixOf] at h
  | a :: b :: t =>
    rw [hl] at h
    simp only [List.isPrefixOf, Bool.and_eq_true] at h
    simp only [List.take_succ_cons, List.take_zero]
    rw [← eq_of_beq h.1, ← eq_of_beq h.2.1]; decide
theorem nohex_ext {s : ByteArray} (h2 : 1 < s.size) (h : Lx.hex s.data.toList = false) : ((s.extract 0 2).toList == [48, 120]) = false := by
  rw [ext_list]
  unfold Lx.hex at h
  have hlen : s.data.toList.length = s.size := by simp
  match hl : s.data.toList with
  | [] => rw [hl] at hlen; simp at hlen; omega
  | [a] => rw [hl] at hlen; simp at hlen; omega
  | a :: b :: t =>
    rw [hl] at h
    simp only [List.take_succ_cons, List.take_zero]
    cases e : ([a, b] == [48, 120]) with
    | false => rfl
    | true =>
      have e := eq_of_beq e
      simp only [List.cons.injEq] at e
      obtain ⟨rfl, rfl, _⟩ := e
      simp [List.isPrefixOf] at h
set_option maxRecDepth 100000 in
set_option maxHeartbeats 4000000 in
theorem ref_number (s : ByteArray) (w : World) (hs : s.size ≤ 9223372036854775807) :
    Calls Try.prog 24 #[.string s] w fun e w' => e = .returned (.tuple #[.int .i64 (Lx.number s.data.toList).1, .int .i64 (Lx.number s.data.toList).2]) ∧ w' = w := by
  obtain ⟨r, hr⟩ : ∃ r, r = Lx.number s.data.toList := ⟨_, rfl⟩
  rw [← hr]
  have HR := Lib.hid hr
  clear hr
  rcases hex_cases s.data.toList with ⟨hx, hB, hF⟩ | ⟨hx, hB, hF⟩
  · have HF := Lib.hid hF; have HX := Lib.hid hx
    have HS := Lib.hid (NumAt.start hB hF)
    have h2 := hex_two hx
    have hq := hex_ext hx
    clear hB hF hx
    go_enter Try.func24, Try.ntmps24
    go_wp2
    clear h2 hq
    go_loop [6, 7] (fun nv vv => ∃ (n v : Nat), nv = .int .i64 n ∧ vv = .int .i64 v ∧ NumAt s 16 2 n v) (fun nv _ => s.size - (intOf nv).toNat)
    case atStart => exact ⟨2, 0, rfl, rfl, HS.out⟩
    case round =>
      obtain ⟨n, v, rfl, rfl, hat⟩ := hrel
      have hfr := hat.from_; have hto := hat.to_; have hcap := hat.cap
      have HA := Lib.hid hat
      clear hat
      by_cases hp : n < s.size
      · cases hd : Lx.isDig 16 s[n] with
        | true =>
          have HN := Lib.hid (HA.out.on hp hd)
          have hlt := dig_lt (.inr rfl) hd
          have HV := Lib.hid (val_yes hd).2
          clear hd
          obtain ⟨d, hdd⟩ : ∃ d, d = Lx.dig s[n] := ⟨_, rfl⟩
          rw [← hdd] at HN hlt HV
          clear hdd
          go_wp2_with (go_at_call 37; refine (ref_value s[n] 16 (.inr rfl) _).mono ?_; rintro e w' ⟨rfl, rfl⟩; rw [HV.out])
          go_round
          case rel => exact ⟨n + 1, _, by go_num, val_int (by omega), HN.out⟩
          case measure => simp [intOf]; omega
        | false =>
          have HN := Lib.hid (number_of HF.out (HA.out.off hp hd) hfr)
          have HV := Lib.hid (val_not hd).2
          clear hd
          by_cases h1 : n = 2
          · have HE := Lib.hid (show Lx.number s.data.toList = (0, 0) by rw [HN.out, if_pos (.inl h1)])
            subst h1
            go_wp2_with (go_at_call 37; refine (ref_value s[2] 16 (.inr rfl) _).mono ?_; rintro e w' ⟨rfl, rfl⟩; rw [HV.out])
            go_ret2
            exact ⟨pair_eq (HR.out.trans HE.out), rfl⟩
          · have b1 : ((n : Int) == 2) = false := by rw [beq_eq_false_iff_ne]; omega
            by_cases h2 : v = 4294967296
            · have HE := Lib.hid (show Lx.number s.data.toList = (0, 0) by rw [HN.out, if_pos (.inr (.inl h2))])
              have b2 : decide ((4294967296 : Int) ≤ (v : Int)) = true := by rw [decide_eq_true_eq]; omega
              clear h1 h2
              go_wp2_with (go_at_call 37; refine (ref_value s[n] 16 (.inr rfl) _).mono ?_; rintro e w' ⟨rfl, rfl⟩; rw [HV.out])
              go_ret2
              exact ⟨pair_eq (HR.out.trans HE.out), rfl⟩
            · have b2 : decide ((4294967296 : Int) ≤ (v : Int)) = false := by rw [decide_eq_false_iff_not]; omega
              cases hl : Lx.letter s[n] with
              | true =>
                have HL := Lib.hid hl
                have HE := Lib.hid (show Lx.number s.data.toList = (0, 0) by rw [HN.out, if_pos (.inr (.inr (by rw [head_letter hp]; exact hl)))])
                clear hl h1 h2
                go_wp2_with (first | (go_at_call 37; refine (ref_value s[n] 16 (.inr rfl) _).mono ?_; rintro e w' ⟨rfl, rfl⟩; rw [HV.out]) | (go_at_call 21; refine (ref_letter s[n] _).mono ?_; rintro e w' ⟨rfl, rfl⟩; rw [HL.out]))
                go_ret2
                exact ⟨pair_eq (HR.out.trans HE.out), rfl⟩
              | false =>
                have HL := Lib.hid hl
                have HE := Lib.hid (show Lx.number s.data.toList = (n, v) by rw [HN.out, if_neg (by rintro (a | a | a); exact h1 a; exact h2 a; rw [head_letter hp, hl] at a; exact absurd a (by decide))])
                clear hl h1 h2
                go_wp2_with (first | (go_at_call 37; refine (ref_value s[n] 16 (.inr rfl) _).mono ?_; rintro e w' ⟨rfl, rfl⟩; rw [HV.out]) | (go_at_call 21; refine (ref_letter s[n] _).mono ?_; rintro e w' ⟨rfl, rfl⟩; rw [HL.out]))
                go_ret2
                exact ⟨pair_eq (HR.out.trans HE.out), rfl⟩
      · have HN := Lib.hid (number_of HF.out (HA.out.endd hp) hfr)
        by_cases h1 : n = 2
        · have HE := Lib.hid (show Lx.number s.data.toList = (0, 0) by rw [HN.out, if_pos (.inl h1)])
          subst h1
          go_wp2
          go_ret2
          exact ⟨pair_eq (HR.out.trans HE.out), rfl⟩
        · have b1 : ((n : Int) == 2) = false := by rw [beq_eq_false_iff_ne]; omega
          by_cases h2 : v = 4294967296
          · have HE := Lib.hid (show Lx.number s.data.toList = (0, 0) by rw [HN.out, if_pos (.inr (.inl h2))])
            have b2 : decide ((4294967296 : Int) ≤ (v : Int)) = true := by rw [decide_eq_true_eq]; omega
            clear h1 h2
            go_wp2
            go_ret2
            exact ⟨pair_eq (HR.out.trans HE.out), rfl⟩
          · have HE := Lib.hid (show Lx.number s.data.toList = (n, v) by rw [HN.out, if_neg (by rintro (a | a | a); exact h1 a; exact h2 a; rw [head_none hp] at a; exact absurd a (by decide))])
            have b2 : decide ((4294967296 : Int) ≤ (v : Int)) = false := by rw [decide_eq_false_iff_not]; omega
            clear h1 h2
            go_wp2
            go_ret2
            exact ⟨pair_eq (HR.out.trans HE.out), rfl⟩
  · have HF := Lib.hid hF; have HX := Lib.hid hx
    have HS := Lib.hid (NumAt.start hB hF)
    by_cases h2 : 1 < s.size
    · have hq := nohex_ext h2 hx
      clear hB hF hx
      go_enter Try.func24, Try.ntmps24
      go_wp2
      clear h2 hq
      go_loop [6, 7] (fun nv vv => ∃ (n v : Nat), nv = .int .i64 n ∧ vv = .int .i64 v ∧ NumAt s 10 0 n v) (fun nv _ => s.size - (intOf nv).toNat)
      case atStart => exact ⟨0, 0, rfl, rfl, HS.out⟩
      case round =>
        obtain ⟨n, v, rfl, rfl, hat⟩ := hrel
        have hfr := hat.from_; have hto := hat.to_; have hcap := hat.cap
        have HA := Lib.hid hat
        clear hat
        by_cases hp : n < s.size
        · cases hd : Lx.isDig 10 s[n] with
          | true =>
            have HN := Lib.hid (HA.out.on hp hd)
            have hlt := dig_lt (.inl rfl) hd
            have HV := Lib.hid (val_yes hd).2
            clear hd
            obtain ⟨d, hdd⟩ : ∃ d, d = Lx.dig s[n] := ⟨_, rfl⟩
            rw [← hdd] at HN hlt HV
            clear hdd
            go_wp2_with (go_at_call 37; refine (ref_value s[n] 10 (.inl rfl) _).mono ?_; rintro e w' ⟨rfl, rfl⟩; rw [HV.out])
            go_round
            case rel => exact ⟨n + 1, _, by go_num, val_int (by omega), HN.out⟩
            case measure => simp [intOf]; omega
          | false =>
            have HN := Lib.hid (number_of HF.out (HA.out.off hp hd) hfr)
            have HV := Lib.hid (val_not hd).2
            clear hd
            by_cases h1 : n = 0
            · have HE := Lib.hid (show Lx.number s.data.toList = (0, 0) by rw [HN.out, if_pos (.inl h1)])
              subst h1
              go_wp2_with (go_at_call 37; refine (ref_value s[0] 10 (.inl rfl) _).mono ?_; rintro e w' ⟨rfl, rfl⟩; rw [HV.out])
              go_ret2
              exact ⟨pair_eq (HR.out.trans HE.out), rfl⟩
            · have b1 : ((n : Int) == 0) = false := by rw [beq_eq_false_iff_ne]; omega
              by_cases h2 : v = 4294967296
              · have HE := Lib.hid (show Lx.number s.data.toList = (0, 0) by rw [HN.out, if_pos (.inr (.inl h2))])
                have b2 : decide ((4294967296 : Int) ≤ (v : Int)) = true := by rw [decide_eq_true_eq]; omega
                clear h1 h2
                go_wp2_with (go_at_call 37; refine (ref_value s[n] 10 (.inl rfl) _).mono ?_; rintro e w' ⟨rfl, rfl⟩; rw [HV.out])
                go_ret2
                exact ⟨pair_eq (HR.out.trans HE.out), rfl⟩
              · have b2 : decide ((4294967296 : Int) ≤ (v : Int)) = false := by rw [decide_eq_false_iff_not]; omega
                cases hl : Lx.letter s[n] with
                | true =>
                  have HL := Lib.hid hl
                  have HE := Lib.hid (show Lx.number s.data.toList = (0, 0) by rw [HN.out, if_pos (.inr (.inr (by rw [head_letter hp]; exact hl)))])
                  clear hl h1 h2
                  go_wp2_with (first | (go_at_call 37; refine (ref_value s[n] 10 (.inl rfl) _).mono ?_; rintro e w' ⟨rfl, rfl⟩; rw [HV.out]) | (go_at_call 21; refine (ref_letter s[n] _).mono ?_; rintro e w' ⟨rfl, rfl⟩; rw [HL.out]))
                  go_ret2
                  exact ⟨pair_eq (HR.out.trans HE.out), rfl⟩
                | false =>
                  have HL := Lib.hid hl
                  have HE := Lib.hid (show Lx.number s.data.toList = (n, v) by rw [HN.out, if_neg (by rintro (a | a | a); exact h1 a; exact h2 a; rw [head_letter hp, hl] at a; exact absurd a (by decide))])
                  clear hl h1 h2
                  go_wp2_with (first | (go_at_call 37; refine (ref_value s[n] 10 (.inl rfl) _).mono ?_; rintro e w' ⟨rfl, rfl⟩; rw [HV.out]) | (go_at_call 21; refine (ref_letter s[n] _).mono ?_; rintro e w' ⟨rfl, rfl⟩; rw [HL.out]))
                  go_ret2
                  exact ⟨pair_eq (HR.out.trans HE.out), rfl⟩
        · have HN := Lib.hid (number_of HF.out (HA.out.endd hp) hfr)
          by_cases h1 : n = 0
          · have HE := Lib.hid (show Lx.number s.data.toList = (0, 0) by rw [HN.out, if_pos (.inl h1)])
            subst h1
            go_wp2
            go_ret2
            exact ⟨pair_eq (HR.out.trans HE.out), rfl⟩
          · have b1 : ((n : Int) == 0) = false := by rw [beq_eq_false_iff_ne]; omega
            by_cases h2 : v = 4294967296
            · have HE := Lib.hid (show Lx.number s.data.toList = (0, 0) by rw [HN.out, if_pos (.inr (.inl h2))])
              have b2 : decide ((4294967296 : Int) ≤ (v : Int)) = true := by rw [decide_eq_true_eq]; omega
              clear h1 h2
              go_wp2
              go_ret2
              exact ⟨pair_eq (HR.out.trans HE.out), rfl⟩
            · have HE := Lib.hid (show Lx.number s.data.toList = (n, v) by rw [HN.out, if_neg (by rintro (a | a | a); exact h1 a; exact h2 a; rw [head_none hp] at a; exact absurd a (by decide))])
              have b2 : decide ((4294967296 : Int) ≤ (v : Int)) = false := by rw [decide_eq_false_iff_not]; omega
              clear h1 h2
              go_wp2
              go_ret2
              exact ⟨pair_eq (HR.out.trans HE.out), rfl⟩
    · clear hB hF hx
      go_enter Try.func24, Try.ntmps24
      go_wp2
      clear h2
      go_loop [6, 7] (fun nv vv => ∃ (n v : Nat), nv = .int .i64 n ∧ vv = .int .i64 v ∧ NumAt s 10 0 n v) (fun nv _ => s.size - (intOf nv).toNat)
      case atStart => exact ⟨0, 0, rfl, rfl, HS.out⟩
      case round =>
        obtain ⟨n, v, rfl, rfl, hat⟩ := hrel
        have hfr := hat.from_; have hto := hat.to_; have hcap := hat.cap
        have HA := Lib.hid hat
        clear hat
        by_cases hp : n < s.size
        · cases hd : Lx.isDig 10 s[n] with
          | true =>
            have HN := Lib.hid (HA.out.on hp hd)
            have hlt := dig_lt (.inl rfl) hd
            have HV := Lib.hid (val_yes hd).2
            clear hd
            obtain ⟨d, hdd⟩ : ∃ d, d = Lx.dig s[n] := ⟨_, rfl⟩
            rw [← hdd] at HN hlt HV
            clear hdd
            go_wp2_with (go_at_call 37; refine (ref_value s[n] 10 (.inl rfl) _).mono ?_; rintro e w' ⟨rfl, rfl⟩; rw [HV.out])
            go_round
            case rel => exact ⟨n + 1, _, by go_num, val_int (by omega), HN.out⟩
            case measure => simp [intOf]; omega
          | false =>
            have HN := Lib.hid (number_of HF.out (HA.out.off hp hd) hfr)
            have HV := Lib.hid (val_not hd).2
            clear hd
            by_cases h1 : n = 0
            · have HE := Lib.hid (show Lx.number s.data.toList = (0, 0) by rw [HN.out, if_pos (.inl h1)])
              subst h1
              go_wp2_with (go_at_call 37; refine (ref_value s[0] 10 (.inl rfl) _).mono ?_; rintro e w' ⟨rfl, rfl⟩; rw [HV.out])
              go_ret2
              exact ⟨pair_eq (HR.out.trans HE.out), rfl⟩
            · have b1 : ((n : Int) == 0) = false := by rw [beq_eq_false_iff_ne]; omega
              by_cases h2 : v = 4294967296
              · have HE := Lib.hid (show Lx.number s.data.toList = (0, 0) by rw [HN.out, if_pos (.inr (.inl h2))])
                have b2 : decide ((4294967296 : Int) ≤ (v : Int)) = true := by rw [decide_eq_true_eq]; omega
                clear h1 h2
                go_wp2_with (go_at_call 37; refine (ref_value s[n] 10 (.inl rfl) _).mono ?_; rintro e w' ⟨rfl, rfl⟩; rw [HV.out])
                go_ret2
                exact ⟨pair_eq (HR.out.trans HE.out), rfl⟩
              · have b2 : decide ((4294967296 : Int) ≤ (v : Int)) = false := by rw [decide_eq_false_iff_not]; omega
                cases hl : Lx.letter s[n] with
                | true =>
                  have HL := Lib.hid hl
                  have HE := Lib.hid (show Lx.number s.data.toList = (0, 0) by rw [HN.out, if_pos (.inr (.inr (by rw [head_letter hp]; exact hl)))])
                  clear hl h1 h2
                  go_wp2_with (first | (go_at_call 37; refine (ref_value s[n] 10 (.inl rfl) _).mono ?_; rintro e w' ⟨rfl, rfl⟩; rw [HV.out]) | (go_at_call 21; refine (ref_letter s[n] _).mono ?_; rintro e w' ⟨rfl, rfl⟩; rw [HL.out]))
                  go_ret2
                  exact ⟨pair_eq (HR.out.trans HE.out), rfl⟩
                | false =>
                  have HL := Lib.hid hl
                  have HE := Lib.hid (show Lx.number s.data.toList = (n, v) by rw [HN.out, if_neg (by rintro (a | a | a); exact h1 a; exact h2 a; rw [head_letter hp, hl] at a; exact absurd a (by decide))])
                  clear hl h1 h2
                  go_wp2_with (first | (go_at_call 37; refine (ref_value s[n] 10 (.inl rfl) _).mono ?_; rintro e w' ⟨rfl, rfl⟩; rw [HV.out]) | (go_at_call 21; refine (ref_letter s[n] _).mono ?_; rintro e w' ⟨rfl, rfl⟩; rw [HL.out]))
                  go_ret2
                  exact ⟨pair_eq (HR.out.trans HE.out), rfl⟩
        · have HN := Lib.hid (number_of HF.out (HA.out.endd hp) hfr)
          by_cases h1 : n = 0
          · have HE := Lib.hid (show Lx.number s.data.toList = (0, 0) by rw [HN.out, if_pos (.inl h1)])
            subst h1
            go_wp2
            go_ret2
            exact ⟨pair_eq (HR.out.trans HE.out), rfl⟩
          · have b1 : ((n : Int) == 0) = false := by rw [beq_eq_false_iff_ne]; omega
            by_cases h2 : v = 4294967296
            · have HE := Lib.hid (show Lx.number s.data.toList = (0, 0) by rw [HN.out, if_pos (.inr (.inl h2))])
              have b2 : decide ((4294967296 : Int) ≤ (v : Int)) = true := by rw [decide_eq_true_eq]; omega
              clear h1 h2
              go_wp2
              go_ret2
              exact ⟨pair_eq (HR.out.trans HE.out), rfl⟩
            · have HE := Lib.hid (show Lx.number s.data.toList = (n, v) by rw [HN.out, if_neg (by rintro (a | a | a); exact h1 a; exact h2 a; rw [head_none hp] at a; exact absurd a (by decide))])
              have b2 : decide ((4294967296 : Int) ≤ (v : Int)) = false := by rw [decide_eq_false_iff_not]; omega
              clear h1 h2
              go_wp2
              go_ret2
              exact ⟨pair_eq (HR.out.trans HE.out), rfl⟩
end Go.Proofs.Ytfknokclemljfaa
