/- The walks of layer 13's statements AluExact, AluCompares, AluTurns, AluDoes: each returns true, and the world keeps all that was there. -/
import Derived.Test.YtoippgiahldkmaaAluLaws
import Derived.Test.YtoippgiahldkmaaSignOnly
namespace Go.Proofs.Ytoippgiahldkmaa
open Go.RowKit Mem
set_option linter.unusedVariables false
theorem i32_s32 (a : Int) : i32 a = Num.s32 a := rfl
theorem sign32 (x : Int) (h0 : 0 ≤ x) (h1 : x < 4294967296) : Num.sign x 32 = Num.s32 x := by
  have e : Num.sign x 32 = (x + 2147483648) % 4294967296 - 2147483648 := rfl
  rw [e]; unfold Num.s32; split <;> omega
set_option maxRecDepth 100000 in
set_option maxHeartbeats 1000000 in
theorem law_AluExact (a b : Int) (c : Bool) (w : World) (h0 : 0 ≤ a) (h1 : a < 4294967296) (h2 : 0 ≤ b) (h3 : b < 4294967296) :
    Calls Try.prog 7 #[.int .u32 a, .int .u32 b, .bool c] w fun e w' => e = .returned (.bool true) ∧ Below w.heap.size w w' := by
  have s1 := sign32 a h0 h1
  have s2 := sign32 b h2 h3
  have hr := addW_bd a b c
  have s3 := sign32 (addW a b c) hr.1 hr.2
  have b1 := Num.s32_bd a h0 h1
  have b2 := Num.s32_bd b h2 h3
  have hv : addV a b c = (Num.s32 a + Num.s32 b + cin c != Num.s32 (addW a b c)) := by
    unfold addV; simp only [i32_s32]
    by_cases h : Num.s32 a + Num.s32 b + cin c = Num.s32 (addW a b c) <;> simp [h]
  have hc : addC a b c = decide (4294967296 ≤ a + b + cin c) := rfl
  have hw : addW a b c = (a + b + cin c) % 4294967296 := rfl
  obtain ⟨r, er⟩ : ∃ r, r = addW a b c := ⟨_, rfl⟩
  obtain ⟨C, eC⟩ : ∃ C, C = addC a b c := ⟨_, rfl⟩
  obtain ⟨V, eV⟩ : ∃ V, V = addV a b c := ⟨_, rfl⟩
  rw [← er] at hv hr s3 hw
  rw [← eC] at hc
  rw [← eV] at hv
  have HR := Lib.hid er; have HC := Lib.hid eC; have HV := Lib.hid eV
  clear er eC eV
  cases c
  · have hv1 : (V == (Num.s32 a + Num.s32 b != Num.s32 r)) = true := by rw [hv]; simp [cin]
    cases C
    · have hq : (r == a + b) = true := by simp [cin] at hc hw; simp; omega
      clear hv hc hw
      go_enter Try.func7, Try.ntmps7
      go_wp2_with (first | (go_at_call 13; refine (alu_Add _ _ _ _ (by omega) (by omega) (by omega) (by omega)).mono ?_; rintro e w' ⟨rfl, rfl⟩; rw [← HR.out, ← HC.out, ← HV.out]) | (go_at_call 22; refine (ref_Sign _ _ _ (by omega) (by omega) (by omega) (by omega)).mono ?_; rintro e w' ⟨rfl, rfl⟩) | (go_at_call 15; refine (awake13 _).mono ?_; rintro e w' ⟨rfl, hb⟩))
      go_ret
      exact ⟨rfl, hb⟩
    · have hq : (r + 4294967296 == a + b) = true := by simp [cin] at hc hw; simp; omega
      clear hv hc hw
      go_enter Try.func7, Try.ntmps7
      go_wp2_with (first | (go_at_call 13; refine (alu_Add _ _ _ _ (by omega) (by omega) (by omega) (by omega)).mono ?_; rintro e w' ⟨rfl, rfl⟩; rw [← HR.out, ← HC.out, ← HV.out]) | (go_at_call 22; refine (ref_Sign _ _ _ (by omega) (by omega) (by omega) (by omega)).mono ?_; rintro e w' ⟨rfl, rfl⟩) | (go_at_call 15; refine (awake13 _).mono ?_; rintro e w' ⟨rfl, hb⟩))
      go_ret
      exact ⟨rfl, hb⟩
  · have hv1 : (V == (Num.s32 a + Num.s32 b + 1 != Num.s32 r)) = true := by rw [hv]; simp [cin]
    cases C
    · have hq : (r == a + b + 1) = true := by simp [cin] at hc hw; simp; omega
      clear hv hc hw
      go_enter Try.func7, Try.ntmps7
      go_wp2_with (first | (go_at_call 13; refine (alu_Add _ _ _ _ (by omega) (by omega) (by omega) (by omega)).mono ?_; rintro e w' ⟨rfl, rfl⟩; rw [← HR.out, ← HC.out, ← HV.out]) | (go_at_call 22; refine (ref_Sign _ _ _ (by omega) (by omega) (by omega) (by omega)).mono ?_; rintro e w' ⟨rfl, rfl⟩) | (go_at_call 15; refine (awake13 _).mono ?_; rintro e w' ⟨rfl, hb⟩))
      go_ret
      exact ⟨rfl, hb⟩
    · have hq : (r + 4294967296 == a + b + 1) = true := by simp [cin] at hc hw; simp; omega
      clear hv hc hw
      go_enter Try.func7, Try.ntmps7
      go_wp2_with (first | (go_at_call 13; refine (alu_Add _ _ _ _ (by omega) (by omega) (by omega) (by omega)).mono ?_; rintro e w' ⟨rfl, rfl⟩; rw [← HR.out, ← HC.out, ← HV.out]) | (go_at_call 22; refine (ref_Sign _ _ _ (by omega) (by omega) (by omega) (by omega)).mono ?_; rintro e w' ⟨rfl, rfl⟩) | (go_at_call 15; refine (awake13 _).mono ?_; rintro e w' ⟨rfl, hb⟩))
      go_ret
      exact ⟨rfl, hb⟩
theorem bne_decide (P Q : Prop) [Decidable P] [Decidable Q] : (decide P != decide Q) = decide (¬ (P ↔ Q)) := by
  by_cases h1 : P <;> by_cases h2 : Q <;> simp [h1, h2]
theorem cmp_facts (a b : Int) (h0 : 0 ≤ a) (h1 : a < 4294967296) (h2 : 0 ≤ b) (h3 : b < 4294967296) :
    ((addW a (inv b) true == 0) == (a == b)) = true ∧ (addC a (inv b) true == decide (b ≤ a)) = true ∧ (((addW a (inv b) true / 2147483648 == 1) != addV a (inv b) true) == decide (Num.s32 a < Num.s32 b)) = true := by
  unfold addV addW addC inv cin i32 Num.s32
  refine ⟨?_, ?_, ?_⟩
  · rw [beq_iff_eq, Bool.eq_iff_iff]; simp; omega
  · rw [beq_iff_eq, Bool.eq_iff_iff]; simp; omega
  · rw [beq_decide, bne_decide, beq_iff_eq, decide_eq_decide]
    simp only [if_true, ne_eq]
    repeat' split
    all_goals omega
set_option maxRecDepth 100000 in
set_option maxHeartbeats 1000000 in
theorem law_AluCompares (a b : Int) (w : World) (h0 : 0 ≤ a) (h1 : a < 4294967296) (h2 : 0 ≤ b) (h3 : b < 4294967296) :
    Calls Try.prog 8 #[.int .u32 a, .int .u32 b] w fun e w' => e = .returned (.bool true) ∧ Below w.heap.size w w' := by
  have s1 := sign32 a h0 h1
  have s2 := sign32 b h2 h3
  obtain ⟨f1, f2, f3⟩ := cmp_facts a b h0 h1 h2 h3
  replace f3 : decide (Num.s32 a < Num.s32 b) = ((addW a (inv b) true / 2147483648 == 1) != addV a (inv b) true) := by simp only [beq_iff_eq] at f3; exact f3.symm
  obtain ⟨N, hN⟩ : ∃ N, N = (addW a (inv b) true / 2147483648 == 1) := ⟨_, rfl⟩
  obtain ⟨V, hV⟩ : ∃ V, V = addV a (inv b) true := ⟨_, rfl⟩
  rw [← hN, ← hV] at f3
  have HV := Lib.hid (show resV (doR 12 a b false false false false) = .tuple #[.int .u32 (addW a (inv b) true), .agg #[.bool N, .bool (addW a (inv b) true == 0), .bool (addC a (inv b) true), .bool V], .bool false] by rw [hN, hV]; rfl)
  clear hN hV
  have f4 : ∀ N V : Bool, decide (Num.s32 a < Num.s32 b) = (N != V) → decide (Num.s32 a < Num.s32 b) = xor N V := by intro N V h; rw [h]
  replace f3 := f4 N V f3
  clear f4
  cases N <;> cases V <;> rw [show xor _ _ = _ from rfl] at f3
  all_goals
    go_enter Try.func8, Try.ntmps8
    go_wp2_with fail
    refine (alu_Do _ _ _ _ _ _ _ _ (by omega) (by omega) (by omega) (by omega)).mono ?_
    rintro e w1 ⟨rfl, hb⟩
    rw [HV.out]
    go_wp2_with (first | (go_at_call 22; refine (ref_Sign _ _ _ (by omega) (by omega) (by omega) (by omega)).mono ?_; rintro e w' ⟨rfl, rfl⟩) | (go_at_call 15; refine (awake13 _).mono ?_; rintro e w' ⟨rfl, hb2⟩))
    go_ret
    exact ⟨rfl, (hb.alloc hb.size _).trans (hb2.mono (by have := hb.size; simp; omega))⟩
theorem addW_comm (a b : Int) (c : Bool) : addW a b c = addW b a c := by unfold addW; rw [Int.add_comm a b]
theorem addC_comm (a b : Int) (c : Bool) : addC a b c = addC b a c := by unfold addC; rw [Int.add_comm a b]
theorem addV_comm (a b : Int) (c : Bool) : addV a b c = addV b a c := by unfold addV; rw [Int.add_comm (i32 a), addW_comm]
end Go.Proofs.Ytoippgiahldkmaa
