/- Contract of Same at one term that lies at two places: true. -/
import Derived.Test.YtfknokclemljfaaTermDeep
namespace Go.Proofs.Ytfknokclemljfaa
open Go.RowKit Mem
set_option linter.unusedVariables false
def SameAt (d : Nat) : Prop := ∀ (t : Tm) (A A' : Option Addr) (c c' : Nat) (w : World), Lies w w.heap.size d t (tmCells t A c) → Lies w w.heap.size d t (tmCells t A' c') →
  Calls Try.prog 13 #[tmV t A c, tmV t A' c'] w (BoolPost true w)
set_option maxRecDepth 100000 in
set_option maxHeartbeats 2000000 in
theorem eqfunc_same (d : Nat) (hd : SameAt d) (t : Tm) (A A' : Option Addr) (c c' : Nat) (w : World) (hl : Lies w w.heap.size (d + 1) t (tmCells t A c)) (hl' : Lies w w.heap.size (d + 1) t (tmCells t A' c')) :
    Calls Try.prog 30 #[.slice A t.args.length c, .slice A' t.args.length c', .func (.func 13) #[] #[]] w (BoolPost true w) := by
  have hargs := hl.1.args
  have HL := Lib.hid hl; have HL' := Lib.hid hl'; have HD := Lib.hid hd
  obtain ⟨L, hL⟩ : ∃ L, t.args.length = L := ⟨_, rfl⟩
  rw [hL] at hargs ⊢
  have HLL := Lib.hid hL
  clear hl hl' hd hL
  go_enter Try.func30, Try.ntmps30
  go_wp2
  go_loopw [17] (fun iv wr => ∃ k : Nat, iv = .int .i64 k ∧ k ≤ L ∧ Below w.heap.size w wr) (fun iv _ => L - (intOf iv).toNat)
  case atStart => exact ⟨0, rfl, by omega, Below.refl _ _⟩
  case round =>
    obtain ⟨k, rfl, hk, hbel⟩ := hrel
    have HW := Lib.hid hbel
    clear hbel
    by_cases hlk : k < L
    · obtain ⟨ad, q0, x, A1, c1, rfl, hp, hpb, hxi, hlx, k0, k1, k2, k3⟩ := (HL.out.on HW.out).part (i := k) (by rw [HLL.out]; exact hlk)
      obtain ⟨ad', q0', y, A2, c2, rfl, hp', hpb', hyi, hly, g0, g1, g2, g3⟩ := (HL'.out.on HW.out).part (i := k) (by rw [HLL.out]; exact hlk)
      obtain rfl : x = y := by rw [hxi] at hyi; exact Option.some.inj hyi
      have hb2 : Below wr.heap.size wr ((wr.alloc (.cells #[.int .i64 x.op, .int .i64 x.n, .string x.name, .slice A1 x.args.length c1] 24)).alloc (.cells #[.int .i64 x.op, .int .i64 x.n, .string x.name, .slice A2 x.args.length c2] 24)) := ((Below.refl _ _).alloc (Nat.le_refl _) _).alloc (by simp) _
      have HC := Lib.hid (HD.out x A1 A2 c1 c2 _ (hlx.on hb2) (hly.on hb2))
      have HB2 := Lib.hid (HW.out.trans (hb2.mono HW.out.size))
      clear hxi hyi hlx hly hb2
      unfold tmV at HC
      go_wp2_with fail
      refine HC.out.mono ?_
      rintro e w' ⟨rfl, hb'⟩
      have HB3 := Lib.hid (HB2.out.trans (hb'.mono HB2.out.size))
      clear hb'
      go_wp2
      go_roundw
      case rel => exact ⟨k + 1, by go_num, by omega, HB3.out⟩
      case measure => simp [intOf]; omega
    · go_wp2
      go_ret
      exact ⟨rfl, HW.out⟩
set_option maxRecDepth 100000 in
set_option maxHeartbeats 2000000 in
theorem same_at : ∀ (d : Nat), SameAt d
  | 0 => fun t A A' c c' w hl _ => hl.elim
  | d + 1 => by
    have ih := same_at d
    intro t A A' c c' w hl hl'
    have hb2 : Below w.heap.size w ((w.alloc (.cells #[.int .i64 t.op, .int .i64 t.n, .string t.name, .slice A t.args.length c] 24)).alloc (.cells #[.int .i64 t.op, .int .i64 t.n, .string t.name, .slice A' t.args.length c'] 24)) := ((Below.refl _ _).alloc (Nat.le_refl _) _).alloc (by simp) _
    have HC := Lib.hid (eqfunc_same d ih t A A' c c' _ (hl.on hb2) (hl'.on hb2))
    have HB := Lib.hid hb2
    clear ih hl hl' hb2
    unfold tmV
    generalize t.op = op at HC HB ⊢
    generalize t.n = xn at HC HB ⊢
    generalize t.name = nm at HC HB ⊢
    generalize t.args.length = L at HC HB ⊢
    go_enter Try.func13, Try.ntmps13
    go_wp2_with fail
    refine HC.out.mono ?_
    rintro e w' ⟨rfl, hb'⟩
    go_wp2
    go_ret
    exact ⟨rfl, HB.out.trans (hb'.mono HB.out.size)⟩
end Go.Proofs.Ytfknokclemljfaa
