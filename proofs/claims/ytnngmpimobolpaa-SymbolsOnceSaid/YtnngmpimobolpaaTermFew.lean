/- Contract of Few: it returns some number. -/
import Derived.Test.YtnngmpimobolpaaTermDeep
namespace Go.Proofs.Ytnngmpimobolpaa
open Go.RowKit Mem
set_option linter.unusedVariables false
def SomeInt (w : World) (e : Ending) (w' : World) : Prop := ∃ z : Int, e = .returned (.int .i64 z) ∧ Below w.heap.size w w'
def FewAt (m : Nat) : Prop := ∀ (d : Nat) (t : Tm) (A : Option Addr) (c : Nat) (l : Int) (w : World), Lies w w.heap.size d t (tmCells t A c) → Calls Try.prog 40 #[tmV t A c, .int .i64 (m : Int), .int .i64 l] w (SomeInt w)
set_option maxRecDepth 100000 in
set_option maxHeartbeats 2000000 in
theorem few_at : ∀ (m : Nat), m ≤ 1000 → FewAt m
  | 0, _ => by
    intro d t A c l w hl
    clear hl
    unfold tmV
    go_enter Try.func40, Try.ntmps40
    go_wp2
    go_ret
    exact ⟨_, rfl, (Below.refl _ _).alloc (Nat.le_refl _) _⟩
  | m + 1, hm => by
    have ih := few_at m (by omega)
    intro d t A c l w hl
    cases d with
    | zero => exact hl.elim
    | succ d =>
      have hargs := hl.1.args
      have hb0 : Below w.heap.size w (w.alloc (.cells #[.int .i64 t.op, .int .i64 t.n, .string t.name, .slice A t.args.length c] 54)) := (Below.refl _ _).alloc (Nat.le_refl _) _
      have HIH := Lib.hid ih
      have HL := Lib.hid (hl.on hb0)
      have HB0 := Lib.hid hb0
      clear ih hl hb0
      have hcast : ((m + 1 : Nat) : Int) = (m : Int) + 1 := by omega
      unfold tmV
      rw [hcast]
      clear hcast
      have hlt : decide ((m : Int) + 1 < 1) = false := by rw [decide_eq_false_iff_not]; omega
      obtain ⟨op, hop⟩ : ∃ op, t.op = op := ⟨_, rfl⟩
      obtain ⟨xn, hxn⟩ : ∃ xn, t.n = xn := ⟨_, rfl⟩
      obtain ⟨nm, hnm⟩ : ∃ nm, t.name = nm := ⟨_, rfl⟩
      obtain ⟨L, hL⟩ : ∃ L, t.args.length = L := ⟨_, rfl⟩
      rw [hop, hxn, hnm, hL] at HB0 HL ⊢
      rw [hL] at hargs
      have HLL := Lib.hid hL
      clear hop hxn hnm hL
      obtain ⟨w0, hw0⟩ : ∃ w0, w0 = w.alloc (.cells #[.int .i64 op, .int .i64 xn, .string nm, .slice A L c] 54) := ⟨_, rfl⟩
      have hz0 : w0.heap.size = w.heap.size + 1 := by rw [hw0]; simp
      have hc0 : w0.cell? ⟨w.heap.size, 3, none⟩ = some (.slice A L c) := by rw [hw0]; simp
      rw [← hw0] at HL HB0
      have HC0 := Lib.hid hc0
      have HZ0 := Lib.hid hz0
      clear hc0 hz0
      go_enter Try.func40, Try.ntmps40
      go_wp2
      · rw [← hw0]
        go_ret
        exact ⟨_, rfl, HB0.out⟩
      · rw [← hw0]
        clear hw0 hlt
        go_loopw [2, 7] (fun lv iv wr => ∃ (z : Int) (k : Nat), lv = .int .i64 z ∧ iv = .int .i64 k ∧ k ≤ L ∧ Below w0.heap.size w0 wr) (fun _ iv _ => L - (intOf iv).toNat)
        case atStart => exact ⟨_, 0, rfl, rfl, by omega, Below.refl _ _⟩
        case round =>
          obtain ⟨z, k, rfl, rfl, hk, hbel⟩ := hrel
          have HW := Lib.hid hbel
          have hc3 : wr.cell? ⟨w.heap.size, 3, none⟩ = some (.slice A L c) := by
            rw [hbel.cell (by rw [HZ0.out]; simp)]; exact HC0.out
          clear hbel
          by_cases hlk : k < L
          · by_cases hz : 0 ≤ z
            · obtain ⟨ad, q0, x, A', c', rfl, hp, hpb, hxi, hlx, c0, c1, c2, c3⟩ := (HL.out.on HW.out).part (i := k) (by rw [HLL.out]; exact hlk)
              have HCC := Lib.hid (HIH.out d x A' c' z wr hlx)
              clear hxi hlx
              unfold tmV at HCC
              obtain ⟨op', hop⟩ : ∃ op, x.op = op := ⟨_, rfl⟩
              obtain ⟨xn', hxn⟩ : ∃ xn, x.n = xn := ⟨_, rfl⟩
              obtain ⟨nm', hnm⟩ : ∃ nm, x.name = nm := ⟨_, rfl⟩
              obtain ⟨L', hL⟩ : ∃ L, x.args.length = L := ⟨_, rfl⟩
              rw [hop, hxn, hnm, hL] at HCC
              rw [hop] at c0; rw [hxn] at c1; rw [hnm] at c2; rw [hL] at c3
              clear hop hxn hnm hL
              go_wp2_with (go_at_call 40; refine HCC.out.mono ?_; rintro e w' ⟨z', rfl, hb'⟩)
              go_roundw
              case rel => exact ⟨z', k + 1, rfl, by go_num, by omega, HW.out.trans (hb'.mono HW.out.size)⟩
              case measure => simp [intOf]; omega
            · go_wp2
              go_ret
              exact ⟨_, rfl, HB0.out.trans (HW.out.mono HB0.out.size)⟩
          · go_wp2
            go_ret
            exact ⟨_, rfl, HB0.out.trans (HW.out.mono HB0.out.size)⟩
def SomeBool (w : World) (e : Ending) (w' : World) : Prop := ∃ b : Bool, e = .returned (.bool b) ∧ Below w.heap.size w w'
end Go.Proofs.Ytnngmpimobolpaa
