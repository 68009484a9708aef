/- Contracts of form and of its reference (printed by mkform.py). -/
import Derived.Test.YtnngmpimobolpaaTermPlain
namespace Go.Proofs.Ytnngmpimobolpaa
open Go.RowKit Mem
set_option linter.unusedVariables false
set_option maxRecDepth 100000 in
set_option maxHeartbeats 8000000 in
theorem ex_form (op n : Int) (nm : ByteArray) (A : Option Addr) (L c : Nat) (w : World) (hnm : nm.size ≤ 9223372036854775807) :
    Calls Try.prog 60 #[.agg #[.int .i64 op, .int .i64 n, .string nm, .slice A L c]] w fun e w' => e = .returned (.bool (formV op n nm L)) ∧ Below w.heap.size w w' := by
  obtain ⟨r, hr⟩ : ∃ r, r = formV op n nm L := ⟨_, rfl⟩
  rw [← hr]
  have HR := Lib.hid hr
  clear hr
  have he := emp_iff nm
  obtain ⟨bE, hE⟩ : ∃ b, nm.toList.isEmpty = b := ⟨_, rfl⟩
  have HE := Lib.hid (show decide (nm.size = 0) = bE by rw [← he]; exact hE)
  clear he
  obtain ⟨b0, h0⟩ : ∃ b, (n == 0) = b := ⟨_, rfl⟩
  by_cases h1 : op = 1
  · subst h1
    clear h0 b0
    obtain ⟨bL, hL⟩ : ∃ b, ((L : Int) == 0) = b := ⟨_, rfl⟩
    obtain ⟨bN, hN⟩ : ∃ b, decide (0 ≤ n) = b := ⟨_, rfl⟩
    obtain ⟨bM, hM⟩ : ∃ b, decide (n < 4294967296) = b := ⟨_, rfl⟩
    have HV := Lib.hid (show r = (bL && (bE && (bN && bM))) by
      rw [HR.out, ← HE.out, ← hL, ← hN, ← hM]; unfold formV; rw [if_pos rfl, Bool.eq_iff_iff]; simp)
    clear HR HE
    cases bL with
    | false =>
      go_enter Try.func60, Try.ntmps60
      go_wp2
      go_ret
      exact ⟨ret_bool (by rw [HV.out]; rfl), (Below.refl _ _).alloc (Nat.le_refl _) _⟩
    | true =>
      cases bE with
      | false =>
        go_enter Try.func60, Try.ntmps60
        go_wp2
        go_ret
        exact ⟨ret_bool (by rw [HV.out]; rfl), (Below.refl _ _).alloc (Nat.le_refl _) _⟩
      | true =>
        cases bN with
        | false =>
          go_enter Try.func60, Try.ntmps60
          go_wp2
          go_ret
          exact ⟨ret_bool (by rw [HV.out]; rfl), (Below.refl _ _).alloc (Nat.le_refl _) _⟩
        | true =>
          cases bM with
          | false =>
            go_enter Try.func60, Try.ntmps60
            go_wp2
            go_ret
            exact ⟨ret_bool (by rw [HV.out]; rfl), (Below.refl _ _).alloc (Nat.le_refl _) _⟩
          | true =>
            go_enter Try.func60, Try.ntmps60
            go_wp2
            go_ret
            exact ⟨ret_bool (by rw [HV.out]; rfl), (Below.refl _ _).alloc (Nat.le_refl _) _⟩
  · by_cases h2 : op = 2
    · subst h2
      clear h1
      obtain ⟨bL, hL⟩ : ∃ b, ((L : Int) == 0) = b := ⟨_, rfl⟩
      obtain ⟨bS, hS⟩ : ∃ b, nameB nm.data.toList = b := ⟨_, rfl⟩
      have HNM := Lib.hid hS
      have HV := Lib.hid (show r = (bL && (b0 && bS)) by
        rw [HR.out, ← hS, ← hL, ← h0]; unfold formV; rw [if_neg (by decide), if_pos rfl, Bool.eq_iff_iff]; simp [and_assoc])
      clear HR HE hS hE bE
      cases bL with
      | false =>
        go_enter Try.func60, Try.ntmps60
        go_wp2_with (go_at_call 67; refine (lex_Name nm _ hnm).mono ?_; rintro e w1 ⟨rfl, rfl⟩; rw [HNM.out])
        go_ret
        exact ⟨ret_bool (by rw [HV.out]; rfl), (Below.refl _ _).alloc (Nat.le_refl _) _⟩
      | true =>
        cases b0 with
        | false =>
          go_enter Try.func60, Try.ntmps60
          go_wp2_with (go_at_call 67; refine (lex_Name nm _ hnm).mono ?_; rintro e w1 ⟨rfl, rfl⟩; rw [HNM.out])
          go_ret
          exact ⟨ret_bool (by rw [HV.out]; rfl), (Below.refl _ _).alloc (Nat.le_refl _) _⟩
        | true =>
          cases bS with
          | false =>
            go_enter Try.func60, Try.ntmps60
            go_wp2_with (go_at_call 67; refine (lex_Name nm _ hnm).mono ?_; rintro e w1 ⟨rfl, rfl⟩; rw [HNM.out])
            go_ret
            exact ⟨ret_bool (by rw [HV.out]; rfl), (Below.refl _ _).alloc (Nat.le_refl _) _⟩
          | true =>
            go_enter Try.func60, Try.ntmps60
            go_wp2_with (go_at_call 67; refine (lex_Name nm _ hnm).mono ?_; rintro e w1 ⟨rfl, rfl⟩; rw [HNM.out])
            go_ret
            exact ⟨ret_bool (by rw [HV.out]; rfl), (Below.refl _ _).alloc (Nat.le_refl _) _⟩
    · have t1 : (op == 1) = false := by rw [beq_eq_false_iff_ne]; exact h1
      have t2 : (op == 2) = false := by rw [beq_eq_false_iff_ne]; exact h2
      by_cases h3 : op = 3 ∨ op = 4
      · obtain ⟨bL, hL⟩ : ∃ b, ((L : Int) == 1) = b := ⟨_, rfl⟩
        have HV := Lib.hid (show r = (bL && (b0 && bE)) by
          rw [HR.out, ← HE.out, ← hL, ← h0]; unfold formV; rw [if_neg h1, if_neg h2, if_pos h3, Bool.eq_iff_iff]; simp; intro _; omega)
        clear HR HE
        rcases h3 with rfl | rfl
        · cases bL with
          | false =>
            go_enter Try.func60, Try.ntmps60
            go_wp2
            go_ret
            exact ⟨ret_bool (by rw [HV.out]; rfl), (Below.refl _ _).alloc (Nat.le_refl _) _⟩
          | true =>
            cases b0 with
            | false =>
              go_enter Try.func60, Try.ntmps60
              go_wp2
              go_ret
              exact ⟨ret_bool (by rw [HV.out]; rfl), (Below.refl _ _).alloc (Nat.le_refl _) _⟩
            | true =>
              cases bE with
              | false =>
                go_enter Try.func60, Try.ntmps60
                go_wp2
                go_ret
                exact ⟨ret_bool (by rw [HV.out]; rfl), (Below.refl _ _).alloc (Nat.le_refl _) _⟩
              | true =>
                go_enter Try.func60, Try.ntmps60
                go_wp2
                go_ret
                exact ⟨ret_bool (by rw [HV.out]; rfl), (Below.refl _ _).alloc (Nat.le_refl _) _⟩
        · cases bL with
          | false =>
            go_enter Try.func60, Try.ntmps60
            go_wp2
            go_ret
            exact ⟨ret_bool (by rw [HV.out]; rfl), (Below.refl _ _).alloc (Nat.le_refl _) _⟩
          | true =>
            cases b0 with
            | false =>
              go_enter Try.func60, Try.ntmps60
              go_wp2
              go_ret
              exact ⟨ret_bool (by rw [HV.out]; rfl), (Below.refl _ _).alloc (Nat.le_refl _) _⟩
            | true =>
              cases bE with
              | false =>
                go_enter Try.func60, Try.ntmps60
                go_wp2
                go_ret
                exact ⟨ret_bool (by rw [HV.out]; rfl), (Below.refl _ _).alloc (Nat.le_refl _) _⟩
              | true =>
                go_enter Try.func60, Try.ntmps60
                go_wp2
                go_ret
                exact ⟨ret_bool (by rw [HV.out]; rfl), (Below.refl _ _).alloc (Nat.le_refl _) _⟩
      · have t3 : (op == 3) = false := by rw [beq_eq_false_iff_ne]; omega
        have t4 : (op == 4) = false := by rw [beq_eq_false_iff_ne]; omega
        obtain ⟨bl, hl⟩ : ∃ b, decide (op < 5) = b := ⟨_, rfl⟩
        obtain ⟨bg, hg⟩ : ∃ b, decide (11 < op) = b := ⟨_, rfl⟩
        obtain ⟨bL, hL⟩ : ∃ b, ((L : Int) == 2) = b := ⟨_, rfl⟩
        have HV := Lib.hid (show r = (!bl && (!bg && (bL && (b0 && bE)))) by
          rw [HR.out, ← HE.out, ← hL, ← h0, ← hl, ← hg]; unfold formV; rw [if_neg h1, if_neg h2, if_neg h3, Bool.eq_iff_iff]; simp; omega)
        clear HR HE h1 h2 h3
        cases bl with
        | true =>
          go_enter Try.func60, Try.ntmps60
          go_wp2
          go_ret
          exact ⟨ret_bool (by rw [HV.out]; rfl), (Below.refl _ _).alloc (Nat.le_refl _) _⟩
        | false =>
          cases bg with
          | true =>
            go_enter Try.func60, Try.ntmps60
            go_wp2
            go_ret
            exact ⟨ret_bool (by rw [HV.out]; rfl), (Below.refl _ _).alloc (Nat.le_refl _) _⟩
          | false =>
            cases bL with
            | false =>
              go_enter Try.func60, Try.ntmps60
              go_wp2
              go_ret
              exact ⟨ret_bool (by rw [HV.out]; rfl), (Below.refl _ _).alloc (Nat.le_refl _) _⟩
            | true =>
              cases b0 with
              | false =>
                go_enter Try.func60, Try.ntmps60
                go_wp2
                go_ret
                exact ⟨ret_bool (by rw [HV.out]; rfl), (Below.refl _ _).alloc (Nat.le_refl _) _⟩
              | true =>
                cases bE with
                | false =>
                  go_enter Try.func60, Try.ntmps60
                  go_wp2
                  go_ret
                  exact ⟨ret_bool (by rw [HV.out]; rfl), (Below.refl _ _).alloc (Nat.le_refl _) _⟩
                | true =>
                  go_enter Try.func60, Try.ntmps60
                  go_wp2
                  go_ret
                  exact ⟨ret_bool (by rw [HV.out]; rfl), (Below.refl _ _).alloc (Nat.le_refl _) _⟩
set_option maxRecDepth 100000 in
set_option maxHeartbeats 8000000 in
theorem ref_form (op n : Int) (nm : ByteArray) (A : Option Addr) (L c : Nat) (w : World) (hnm : nm.size ≤ 9223372036854775807) :
    Calls Try.prog 63 #[.agg #[.int .i64 op, .int .i64 n, .string nm, .slice A L c]] w fun e w' => e = .returned (.bool (formV op n nm L)) ∧ Below w.heap.size w w' := by
  obtain ⟨r, hr⟩ : ∃ r, r = formV op n nm L := ⟨_, rfl⟩
  rw [← hr]
  have HR := Lib.hid hr
  clear hr
  have he := emp_iff nm
  obtain ⟨bE, hE⟩ : ∃ b, nm.toList.isEmpty = b := ⟨_, rfl⟩
  have HE := Lib.hid (show decide (nm.size = 0) = bE by rw [← he]; exact hE)
  clear he
  obtain ⟨b0, h0⟩ : ∃ b, (n == 0) = b := ⟨_, rfl⟩
  by_cases h1 : op = 1
  · subst h1
    clear h0 b0
    obtain ⟨bL, hL⟩ : ∃ b, ((L : Int) == 0) = b := ⟨_, rfl⟩
    obtain ⟨bN, hN⟩ : ∃ b, decide (0 ≤ n) = b := ⟨_, rfl⟩
    obtain ⟨bM, hM⟩ : ∃ b, decide (n < 4294967296) = b := ⟨_, rfl⟩
    have HV := Lib.hid (show r = (bL && (bE && (bN && bM))) by
      rw [HR.out, ← HE.out, ← hL, ← hN, ← hM]; unfold formV; rw [if_pos rfl, Bool.eq_iff_iff]; simp)
    clear HR HE
    cases bL with
    | false =>
      go_enter Try.func63, Try.ntmps63
      go_wp2
      go_ret
      exact ⟨ret_bool (by rw [HV.out]; rfl), (Below.refl _ _).alloc (Nat.le_refl _) _⟩
    | true =>
      cases bE with
      | false =>
        go_enter Try.func63, Try.ntmps63
        go_wp2
        go_ret
        exact ⟨ret_bool (by rw [HV.out]; rfl), (Below.refl _ _).alloc (Nat.le_refl _) _⟩
      | true =>
        cases bN with
        | false =>
          go_enter Try.func63, Try.ntmps63
          go_wp2
          go_ret
          exact ⟨ret_bool (by rw [HV.out]; rfl), (Below.refl _ _).alloc (Nat.le_refl _) _⟩
        | true =>
          cases bM with
          | false =>
            go_enter Try.func63, Try.ntmps63
            go_wp2
            go_ret
            exact ⟨ret_bool (by rw [HV.out]; rfl), (Below.refl _ _).alloc (Nat.le_refl _) _⟩
          | true =>
            go_enter Try.func63, Try.ntmps63
            go_wp2
            go_ret
            exact ⟨ret_bool (by rw [HV.out]; rfl), (Below.refl _ _).alloc (Nat.le_refl _) _⟩
  · by_cases h2 : op = 2
    · subst h2
      clear h1
      obtain ⟨bL, hL⟩ : ∃ b, ((L : Int) == 0) = b := ⟨_, rfl⟩
      obtain ⟨bS, hS⟩ : ∃ b, nameB nm.data.toList = b := ⟨_, rfl⟩
      have HNM := Lib.hid hS
      have HV := Lib.hid (show r = (bL && (b0 && bS)) by
        rw [HR.out, ← hS, ← hL, ← h0]; unfold formV; rw [if_neg (by decide), if_pos rfl, Bool.eq_iff_iff]; simp [and_assoc])
      clear HR HE hS hE bE
      cases bL with
      | false =>
        go_enter Try.func63, Try.ntmps63
        go_wp2_with (go_at_call 68; refine (ref_Name nm _ hnm).mono ?_; rintro e w1 ⟨rfl, rfl⟩; rw [HNM.out])
        go_ret
        exact ⟨ret_bool (by rw [HV.out]; rfl), (Below.refl _ _).alloc (Nat.le_refl _) _⟩
      | true =>
        cases b0 with
        | false =>
          go_enter Try.func63, Try.ntmps63
          go_wp2_with (go_at_call 68; refine (ref_Name nm _ hnm).mono ?_; rintro e w1 ⟨rfl, rfl⟩; rw [HNM.out])
          go_ret
          exact ⟨ret_bool (by rw [HV.out]; rfl), (Below.refl _ _).alloc (Nat.le_refl _) _⟩
        | true =>
          cases bS with
          | false =>
            go_enter Try.func63, Try.ntmps63
            go_wp2_with (go_at_call 68; refine (ref_Name nm _ hnm).mono ?_; rintro e w1 ⟨rfl, rfl⟩; rw [HNM.out])
            go_ret
            exact ⟨ret_bool (by rw [HV.out]; rfl), (Below.refl _ _).alloc (Nat.le_refl _) _⟩
          | true =>
            go_enter Try.func63, Try.ntmps63
            go_wp2_with (go_at_call 68; refine (ref_Name nm _ hnm).mono ?_; rintro e w1 ⟨rfl, rfl⟩; rw [HNM.out])
            go_ret
            exact ⟨ret_bool (by rw [HV.out]; rfl), (Below.refl _ _).alloc (Nat.le_refl _) _⟩
    · have t1 : (op == 1) = false := by rw [beq_eq_false_iff_ne]; exact h1
      have t2 : (op == 2) = false := by rw [beq_eq_false_iff_ne]; exact h2
      by_cases h3 : op = 3 ∨ op = 4
      · obtain ⟨bL, hL⟩ : ∃ b, ((L : Int) == 1) = b := ⟨_, rfl⟩
        have HV := Lib.hid (show r = (bL && (b0 && bE)) by
          rw [HR.out, ← HE.out, ← hL, ← h0]; unfold formV; rw [if_neg h1, if_neg h2, if_pos h3, Bool.eq_iff_iff]; simp; intro _; omega)
        clear HR HE
        rcases h3 with rfl | rfl
        · cases bL with
          | false =>
            go_enter Try.func63, Try.ntmps63
            go_wp2
            go_ret
            exact ⟨ret_bool (by rw [HV.out]; rfl), (Below.refl _ _).alloc (Nat.le_refl _) _⟩
          | true =>
            cases b0 with
            | false =>
              go_enter Try.func63, Try.ntmps63
              go_wp2
              go_ret
              exact ⟨ret_bool (by rw [HV.out]; rfl), (Below.refl _ _).alloc (Nat.le_refl _) _⟩
            | true =>
              cases bE with
              | false =>
                go_enter Try.func63, Try.ntmps63
                go_wp2
                go_ret
                exact ⟨ret_bool (by rw [HV.out]; rfl), (Below.refl _ _).alloc (Nat.le_refl _) _⟩
              | true =>
                go_enter Try.func63, Try.ntmps63
                go_wp2
                go_ret
                exact ⟨ret_bool (by rw [HV.out]; rfl), (Below.refl _ _).alloc (Nat.le_refl _) _⟩
        · cases bL with
          | false =>
            go_enter Try.func63, Try.ntmps63
            go_wp2
            go_ret
            exact ⟨ret_bool (by rw [HV.out]; rfl), (Below.refl _ _).alloc (Nat.le_refl _) _⟩
          | true =>
            cases b0 with
            | false =>
              go_enter Try.func63, Try.ntmps63
              go_wp2
              go_ret
              exact ⟨ret_bool (by rw [HV.out]; rfl), (Below.refl _ _).alloc (Nat.le_refl _) _⟩
            | true =>
              cases bE with
              | false =>
                go_enter Try.func63, Try.ntmps63
                go_wp2
                go_ret
                exact ⟨ret_bool (by rw [HV.out]; rfl), (Below.refl _ _).alloc (Nat.le_refl _) _⟩
              | true =>
                go_enter Try.func63, Try.ntmps63
                go_wp2
                go_ret
                exact ⟨ret_bool (by rw [HV.out]; rfl), (Below.refl _ _).alloc (Nat.le_refl _) _⟩
      · have t3 : (op == 3) = false := by rw [beq_eq_false_iff_ne]; omega
        have t4 : (op == 4) = false := by rw [beq_eq_false_iff_ne]; omega
        obtain ⟨bl, hl⟩ : ∃ b, decide (5 ≤ op) = b := ⟨_, rfl⟩
        obtain ⟨bg, hg⟩ : ∃ b, decide (op ≤ 11) = b := ⟨_, rfl⟩
        obtain ⟨bL, hL⟩ : ∃ b, ((L : Int) == 2) = b := ⟨_, rfl⟩
        have HV := Lib.hid (show r = (bl && (bg && (bL && (b0 && bE)))) by
          rw [HR.out, ← HE.out, ← hL, ← h0, ← hl, ← hg]; unfold formV; rw [if_neg h1, if_neg h2, if_neg h3, Bool.eq_iff_iff]; simp; omega)
        clear HR HE h1 h2 h3
        cases bl with
        | false =>
          go_enter Try.func63, Try.ntmps63
          go_wp2
          go_ret
          exact ⟨ret_bool (by rw [HV.out]; rfl), (Below.refl _ _).alloc (Nat.le_refl _) _⟩
        | true =>
          cases bg with
          | false =>
            go_enter Try.func63, Try.ntmps63
            go_wp2
            go_ret
            exact ⟨ret_bool (by rw [HV.out]; rfl), (Below.refl _ _).alloc (Nat.le_refl _) _⟩
          | true =>
            cases bL with
            | false =>
              go_enter Try.func63, Try.ntmps63
              go_wp2
              go_ret
              exact ⟨ret_bool (by rw [HV.out]; rfl), (Below.refl _ _).alloc (Nat.le_refl _) _⟩
            | true =>
              cases b0 with
              | false =>
                go_enter Try.func63, Try.ntmps63
                go_wp2
                go_ret
                exact ⟨ret_bool (by rw [HV.out]; rfl), (Below.refl _ _).alloc (Nat.le_refl _) _⟩
              | true =>
                cases bE with
                | false =>
                  go_enter Try.func63, Try.ntmps63
                  go_wp2
                  go_ret
                  exact ⟨ret_bool (by rw [HV.out]; rfl), (Below.refl _ _).alloc (Nat.le_refl _) _⟩
                | true =>
                  go_enter Try.func63, Try.ntmps63
                  go_wp2
                  go_ret
                  exact ⟨ret_bool (by rw [HV.out]; rfl), (Below.refl _ _).alloc (Nat.le_refl _) _⟩
end Go.Proofs.Ytnngmpimobolpaa
