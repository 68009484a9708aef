/- The walks of layer 13's statements AluTurns and AluDoes: each returns true, and the world keeps all that was there. -/
import Derived.Test.YtoippgiahldkmaaAluLaws2
namespace Go.Proofs.Ytoippgiahldkmaa
open Go.RowKit Mem
set_option linter.unusedVariables false
theorem eq_same (a b c d : Bool) (w : World) : (binOp .eql 32 (.agg #[.bool a, .bool b, .bool c, .bool d]) (.agg #[.bool a, .bool b, .bool c, .bool d])).run Try.prog w = .ok (.bool true) w := by
  cases a <;> cases b <;> cases c <;> cases d <;> kernel_rfl
theorem eq_guard : Try.prog.eqGuardType Try.prog.depth 32 = false := by kernel_rfl
theorem bcell {W w1 : World} (hb : Below W.heap.size W w1) : (∀ b o, b < W.heap.size → w1.cell? ⟨b, o, none⟩ = W.cell? ⟨b, o, none⟩) ∧ (∀ b o, b < W.heap.size → w1.frozen? ⟨b, o, none⟩ = W.frozen? ⟨b, o, none⟩) :=
  ⟨fun b o h => hb.cell (p := ⟨b, o, none⟩) h, fun b o h => hb.frozen (p := ⟨b, o, none⟩) h⟩
set_option maxRecDepth 100000 in
set_option maxHeartbeats 2000000 in
theorem law_AluDoes (op a b : Int) (n z c v : Bool) (w : World) (h0 : 0 ≤ a) (h1 : a < 4294967296) (h2 : 0 ≤ b) (h3 : b < 4294967296) :
    Calls Try.prog 5 #[.int .i64 op, .agg #[.int .u32 a, .int .u32 b], .agg #[.bool n, .bool z, .bool c, .bool v]] w fun e w' => e = .returned (.bool true) ∧ Below w.heap.size w w' := by
  obtain ⟨r, N, Z, C, V, T, hR⟩ : ∃ (r : Int) (N Z C V T : Bool), resV (doR op a b n z c v) = .tuple #[.int .u32 r, .agg #[.bool N, .bool Z, .bool C, .bool V], .bool T] := ⟨_, _, _, _, _, _, rfl⟩
  have HR := Lib.hid hR
  clear hR
  have hg := eq_guard
  have hes := eq_same N Z C V
  go_enter Try.func5, Try.ntmps5
  go_wp2_with fail
  refine (alu_Do _ _ _ _ _ _ _ _ (by omega) (by omega) (by omega) (by omega)).mono ?_
  rintro e w1 ⟨rfl, hb⟩
  rw [HR.out]
  have hsz := hb.size
  simp at hsz
  have hx : ∀ X, ((w1.alloc X).cell? ⟨w.heap.size, 0, none⟩ = some (.int .u32 a) ∧ (w1.alloc X).cell? ⟨w.heap.size, 1, none⟩ = some (.int .u32 b)) ∧ ((w1.alloc X).cell? ⟨w.heap.size + 1, 0, none⟩ = some (.bool n) ∧ (w1.alloc X).cell? ⟨w.heap.size + 1, 1, none⟩ = some (.bool z) ∧ (w1.alloc X).cell? ⟨w.heap.size + 1, 2, none⟩ = some (.bool c) ∧ (w1.alloc X).cell? ⟨w.heap.size + 1, 3, none⟩ = some (.bool v)) := by
    intro X
    have HB := hb.alloc hb.size X
    refine ⟨⟨(HB.cell (p := ⟨w.heap.size, 0, none⟩) (by simp; omega)).trans ?_, (HB.cell (p := ⟨w.heap.size, 1, none⟩) (by simp; omega)).trans ?_⟩, (HB.cell (p := ⟨w.heap.size + 1, 0, none⟩) (by simp)).trans ?_, (HB.cell (p := ⟨w.heap.size + 1, 1, none⟩) (by simp)).trans ?_, (HB.cell (p := ⟨w.heap.size + 1, 2, none⟩) (by simp)).trans ?_, (HB.cell (p := ⟨w.heap.size + 1, 3, none⟩) (by simp)).trans ?_⟩
    all_goals simp [go_sem]
  obtain ⟨⟨e0, e1⟩, e2, e3, e4, e5⟩ := hx (.cells #[.bool N, .bool Z, .bool C, .bool V] 32)
  clear hx
  go_wp2_with fail
  refine (ref_Do _ _ _ _ _ _ _ _ (by omega) (by omega) (by omega) (by omega)).mono ?_
  rintro e w2 ⟨rfl, hb2⟩
  rw [HR.out]
  clear e0 e1 e2 e3 e4 e5
  have hsz2 := hb2.size
  simp at hsz2
  have hx : ∀ X, ((w2.alloc X).cell? ⟨w1.heap.size, 0, none⟩ = some (.bool N) ∧ (w2.alloc X).cell? ⟨w1.heap.size, 1, none⟩ = some (.bool Z) ∧ (w2.alloc X).cell? ⟨w1.heap.size, 2, none⟩ = some (.bool C) ∧ (w2.alloc X).cell? ⟨w1.heap.size, 3, none⟩ = some (.bool V)) := by
    intro X
    have HB := hb2.alloc hb2.size X
    refine ⟨(HB.cell (p := ⟨w1.heap.size, 0, none⟩) (by simp)).trans ?_, (HB.cell (p := ⟨w1.heap.size, 1, none⟩) (by simp)).trans ?_, (HB.cell (p := ⟨w1.heap.size, 2, none⟩) (by simp)).trans ?_, (HB.cell (p := ⟨w1.heap.size, 3, none⟩) (by simp)).trans ?_⟩
    all_goals simp [go_sem]
  obtain ⟨e2, e3, e4, e5⟩ := hx (.cells #[.bool N, .bool Z, .bool C, .bool V] 32)
  clear hx
  go_wp2_with (go_at_call 15; refine (awake13 _).mono ?_; rintro e w' ⟨rfl, hb3⟩)
  go_ret
  exact ⟨rfl, ((((((Below.refl _ _).alloc (Nat.le_refl _) _).alloc (by simp) _).trans (hb.mono (by simp; omega))).alloc (by omega) _).trans (hb2.mono (by simp; omega))).alloc (by omega) _ |>.trans (hb3.mono (by simp; omega))⟩
def Fl (w : World) (b : Nat) (n z c v : Bool) : Prop := b < w.heap.size ∧ w.cell? ⟨b, 0, none⟩ = some (.bool n) ∧ w.cell? ⟨b, 1, none⟩ = some (.bool z) ∧ w.cell? ⟨b, 2, none⟩ = some (.bool c) ∧ w.cell? ⟨b, 3, none⟩ = some (.bool v)
theorem Fl.keep {w w' : World} {b : Nat} {n z c v : Bool} (h : Fl w b n z c v) (hb : Below w.heap.size w w') : Fl w' b n z c v := by
  obtain ⟨h0, h1, h2, h3, h4⟩ := h
  exact ⟨Nat.lt_of_lt_of_le h0 hb.size, (hb.cell (p := ⟨b, 0, none⟩) h0).trans h1, (hb.cell (p := ⟨b, 1, none⟩) h0).trans h2, (hb.cell (p := ⟨b, 2, none⟩) h0).trans h3, (hb.cell (p := ⟨b, 3, none⟩) h0).trans h4⟩
theorem Fl.old {w : World} {b : Nat} {n z c v : Bool} (h : Fl w b n z c v) (X : Obj) : Fl (w.alloc X) b n z c v := h.keep ((Below.refl _ _).alloc (Nat.le_refl _) _)
theorem Fl.new (w : World) (n z c v : Bool) : Fl (w.alloc (.cells #[.bool n, .bool z, .bool c, .bool v] 32)) w.heap.size n z c v := by
  refine ⟨by simp, ?_, ?_, ?_, ?_⟩ <;> simp [go_sem]
theorem turn1 (a b : Int) (n z c v : Bool) : doR 9 a b n z c v = doR 7 b a n z c v := rfl
theorem turn2 (a b : Int) (n z c v : Bool) : doR 6 a b n z c v = doR 6 b a n z c v := by
  show ofSum a b c true = ofSum b a c true
  unfold ofSum
  rw [addW_comm, addC_comm, addV_comm]
set_option maxRecDepth 100000 in
set_option maxHeartbeats 4000000 in
theorem law_AluTurns (a b : Int) (n z c v : Bool) (w : World) (h0 : 0 ≤ a) (h1 : a < 4294967296) (h2 : 0 ≤ b) (h3 : b < 4294967296) :
    Calls Try.prog 9 #[.int .u32 a, .int .u32 b, .agg #[.bool n, .bool z, .bool c, .bool v]] w fun e w' => e = .returned (.bool true) ∧ Below w.heap.size w w' := by
  obtain ⟨r, N, Z, C, V, T, hR⟩ : ∃ (r : Int) (N Z C V T : Bool), resV (doR 9 a b n z c v) = .tuple #[.int .u32 r, .agg #[.bool N, .bool Z, .bool C, .bool V], .bool T] := ⟨_, _, _, _, _, _, rfl⟩
  obtain ⟨r', N', Z', C', V', T', hR'⟩ : ∃ (r : Int) (N Z C V T : Bool), resV (doR 6 a b n z c v) = .tuple #[.int .u32 r, .agg #[.bool N, .bool Z, .bool C, .bool V], .bool T] := ⟨_, _, _, _, _, _, rfl⟩
  have HR := Lib.hid hR
  have HR2 := Lib.hid ((congrArg resV (turn1 a b n z c v)).symm.trans hR)
  have HR3 := Lib.hid hR'
  have HR4 := Lib.hid ((congrArg resV (turn2 a b n z c v)).symm.trans hR')
  clear hR hR'
  have hg := eq_guard
  have hes := eq_same N Z C V
  have hes' := eq_same N' Z' C' V'
  go_enter Try.func9, Try.ntmps9
  go_wp2_with fail
  refine (alu_Do _ _ _ _ _ _ _ _ (by omega) (by omega) (by omega) (by omega)).mono ?_
  rintro e w1 ⟨rfl, hb⟩
  rw [HR.out]
  have F0 := ((Fl.new w n z c v).keep hb).old (.cells #[.bool N, .bool Z, .bool C, .bool V] 32)
  have F1 := Fl.new w1 N Z C V
  have B := (((Below.refl w.heap.size w).alloc (Nat.le_refl _) (.cells #[.bool n, .bool z, .bool c, .bool v] 32)).trans (hb.mono (by simp))).alloc (by have := hb.size; simp at this; omega) (.cells #[.bool N, .bool Z, .bool C, .bool V] 32)
  have F0' := F0
  obtain ⟨s, e0, e1, e2, e3⟩ := F0'
  clear hb s
  go_wp2_with fail
  clear e0 e1 e2 e3
  refine (alu_Do _ _ _ _ _ _ _ _ (by omega) (by omega) (by omega) (by omega)).mono ?_
  rintro e w2 ⟨rfl, hb⟩
  rw [HR2.out]
  replace F0 := (F0.keep hb).old (.cells #[.bool N, .bool Z, .bool C, .bool V] 32)
  replace F1 := (F1.keep hb).old (.cells #[.bool N, .bool Z, .bool C, .bool V] 32)
  have F2 := Fl.new w2 N Z C V
  replace B := (B.trans (hb.mono B.size)).alloc (Nat.le_trans B.size hb.size) (.cells #[.bool N, .bool Z, .bool C, .bool V] 32)
  have F0' := F0
  obtain ⟨s, e0, e1, e2, e3⟩ := F0'
  clear hb s
  go_wp2_with fail
  clear e0 e1 e2 e3
  refine (alu_Do _ _ _ _ _ _ _ _ (by omega) (by omega) (by omega) (by omega)).mono ?_
  rintro e w3 ⟨rfl, hb⟩
  rw [HR3.out]
  replace F0 := (F0.keep hb).old (.cells #[.bool N', .bool Z', .bool C', .bool V'] 32)
  replace F1 := (F1.keep hb).old (.cells #[.bool N', .bool Z', .bool C', .bool V'] 32)
  replace F2 := (F2.keep hb).old (.cells #[.bool N', .bool Z', .bool C', .bool V'] 32)
  have F3 := Fl.new w3 N' Z' C' V'
  replace B := (B.trans (hb.mono B.size)).alloc (Nat.le_trans B.size hb.size) (.cells #[.bool N', .bool Z', .bool C', .bool V'] 32)
  have F0' := F0
  obtain ⟨s, e0, e1, e2, e3⟩ := F0'
  clear hb s
  go_wp2_with fail
  clear e0 e1 e2 e3
  refine (alu_Do _ _ _ _ _ _ _ _ (by omega) (by omega) (by omega) (by omega)).mono ?_
  rintro e w4 ⟨rfl, hb⟩
  rw [HR4.out]
  replace F1 := (F1.keep hb).old (.cells #[.bool N', .bool Z', .bool C', .bool V'] 32)
  replace F2 := (F2.keep hb).old (.cells #[.bool N', .bool Z', .bool C', .bool V'] 32)
  replace F3 := (F3.keep hb).old (.cells #[.bool N', .bool Z', .bool C', .bool V'] 32)
  replace B := (B.trans (hb.mono B.size)).alloc (Nat.le_trans B.size hb.size) (.cells #[.bool N', .bool Z', .bool C', .bool V'] 32)
  clear F0 hb
  obtain ⟨_, e0, e1, e2, e3⟩ := F1
  obtain ⟨_, g0, g1, g2, g3⟩ := F2
  obtain ⟨_, k0, k1, k2, k3⟩ := F3
  go_wp2_with (go_at_call 15; refine (awake13 _).mono ?_; rintro e w' ⟨rfl, hb3⟩)
  go_ret
  exact ⟨rfl, B.trans (hb3.mono B.size)⟩
end Go.Proofs.Ytoippgiahldkmaa
