/- Contract of Eval: a term's value, or the error's number; panics are caught. -/
import Derived.Test.YtnngmpimobolpaaTermVal
import Derived.Defers
import Derived.Recover
import Derived.Laws.Pointers
namespace Go.Proofs.Ytnngmpimobolpaa
open Go.RowKit Mem
set_option linter.unusedVariables false
theorem eval_catch (p q : Addr) (x y n : Int) (older : List PanicEntry) (w : World) (hp : w.cell? p = some (.int .i64 x)) (hpf : w.frozen? p = false) (hq : w.cell? q = some (.int .i64 y)) (hqf : w.frozen? q = false) (hpq : p ≠ q) :
    CallsD Try.prog 49 #[.pointer (some p), .pointer (some q)] (.panicking ({ v := errV n, recovered := false } :: older)) w fun e u' w' =>
      e = .returned (.tuple #[]) ∧ u' = .panicking ({ v := errV n, recovered := true } :: older) ∧ w' = (w.setCell p (.int .i64 0)).setCell q (.int .i64 n) := by
  unfold errV
  have hta : ∀ w, (Instr.typeAssert (.iface 35 (.int .i64 n)) 20 35 true).run Try.prog w = .ok (.tuple #[.int .i64 n, .bool true]) w := fun _ => by kernel_rfl
  refine callsD_of_wpS Try.func49 rfl fun c₀ cs hu => ?_
  apply wpS_seq
  apply wpS_region
  simp [wpOpsS, go_sem, recoverD, hu, Try.ntmps49, Exit.thenS]
  refine wpS_of_wp ?_
  have e : (#[Value.pointer (some p), Value.pointer (some q)] ++ ((Array.replicate 9 undef).setIfInBounds 1 (Value.iface 35 (Value.int IntKind.i64 n))).setIfInBounds 0 (Value.iface 35 (Value.int IntKind.i64 n))) = #[Value.pointer (some p), Value.pointer (some q), Value.iface 35 (Value.int IntKind.i64 n), Value.iface 35 (Value.int IntKind.i64 n), undef, undef, undef, undef, undef, undef, undef] := rfl
  rw [e]
  clear e
  have hq' : (w.setCell p (.int .i64 0)).cell? q = some (.int .i64 y) := by rw [World.cell?_setCell_other _ _ _ _ hpq]; exact hq
  go_wp2
  simp [bodyPostS, results, Try.results49]
theorem eval_idle (p q : Addr) (w : World) :
    CallsD Try.prog 49 #[.pointer (some p), .pointer (some q)] .returning w fun e u' w' => e = .returned (.tuple #[]) ∧ u' = .returning ∧ w' = w := by
  refine callsD_of_wpS Try.func49 rfl fun c₀ cs hu => ?_
  apply wpS_seq
  apply wpS_region
  simp [wpOpsS, go_sem, recoverD, hu, Try.ntmps49, Exit.thenS]
  refine wpS_of_wp ?_
  have e : (#[Value.pointer (some p), Value.pointer (some q)] ++ ((Array.replicate 9 undef).setIfInBounds 1 Value.nilIface).setIfInBounds 0 Value.nilIface) = #[Value.pointer (some p), Value.pointer (some q), Value.nilIface, Value.nilIface, undef, undef, undef, undef, undef, undef, undef] := rfl
  rw [e]
  clear e
  go_wp2
  cases c₀
  simp_all [bodyPostS, results, Try.results49]
/-- What Eval hands back. -/
def EvalPost (r : Int × Int) (w : World) (e : Ending) (w' : World) : Prop := e = .returned (.tuple #[.int .i64 r.1, .int .i64 r.2]) ∧ Below w.heap.size w w'
set_option maxRecDepth 100000 in
set_option maxHeartbeats 4000000 in
theorem ex_Eval (d : Nat) (t : Tm) (names : List ByteArray) (vals : List Int) (A AN AV : Option Addr) (c nN cN nV cV : Nat) (w : World) (hl : Lies w w.heap.size d t (tmCells t A c)) (hN : Nms w w.heap.size AN nN names) (hV : Ints w w.heap.size AV nV vals) (hn1 : nN ≤ 9223372036854775807) (hn2 : nV ≤ 9223372036854775807) :
    Calls Try.prog 42 #[tmV t A c, .slice AN nN cN, .slice AV nV cV] w (EvalPost (evalR d t names vals) w) := by
  have hmf : ∀ (fn : Fn) (first cap : Array Value) (w : World), (Instr.makeFunc fn first cap).run Try.prog w = .ok (.func fn first cap) w := fun _ _ _ _ => rfl
  obtain ⟨W, hW⟩ : ∃ W, W = ((w.alloc (.cells #[.int .i64 t.op, .int .i64 t.n, .string t.name, .slice A t.args.length c] 54)).alloc (.cells #[.int .i64 0] 3)).alloc (.cells #[.int .i64 0] 35) := ⟨_, rfl⟩
  have hb0 : Below w.heap.size w W := by rw [hW]; exact (((Below.refl _ _).alloc (Nat.le_refl _) _).alloc (by simp) _).alloc (by simp; omega) _
  have hz0 : W.heap.size = w.heap.size + 1 + 1 + 1 := by rw [hW]; simp
  have e0 : W.cell? ⟨w.heap.size, 0, none⟩ = some (.int .i64 t.op) := by rw [hW]; simp [go_sem]
  have e1 : W.cell? ⟨w.heap.size, 1, none⟩ = some (.int .i64 t.n) := by rw [hW]; simp [go_sem]
  have e2 : W.cell? ⟨w.heap.size, 2, none⟩ = some (.string t.name) := by rw [hW]; simp [go_sem]
  have e3 : W.cell? ⟨w.heap.size, 3, none⟩ = some (.slice A t.args.length c) := by rw [hW]; simp [go_sem]
  have v0 : W.cell? ⟨w.heap.size + 1, 0, none⟩ = some (.int .i64 0) := by rw [hW]; simp [go_sem]
  have f0 : W.cell? ⟨w.heap.size + 1 + 1, 0, none⟩ = some (.int .i64 0) := by rw [hW]; simp [go_sem]
  have vz : W.frozen? ⟨w.heap.size + 1, 0, none⟩ = false := by rw [hW]; simp [go_sem]
  have fz : W.frozen? ⟨w.heap.size + 1 + 1, 0, none⟩ = false := by rw [hW]; simp [go_sem]
  have HE0 := Lib.hid e0; have HE1 := Lib.hid e1; have HE2 := Lib.hid e2; have HE3 := Lib.hid e3; have HV0 := Lib.hid v0; have HF0 := Lib.hid f0; have HVZ := Lib.hid vz; have HFZ := Lib.hid fz; have HZ0 := Lib.hid hz0
  have HB0 := Lib.hid hb0
  have HL := Lib.hid (hl.on hb0); have HN := Lib.hid (hN.on hb0); have HV := Lib.hid (ints_on hV hb0)
  have HD := Lib.hid (deep_at 16 (by omega) d t A c W (hl.on hb0))
  clear e0 e1 e2 e3 v0 f0 vz fz hz0 hl hN hV hb0
  unfold tmV at HD ⊢
  cases hdp : deepF 16 t with
  | true =>
    have HR := Lib.hid (show evalR d t names vals = (0, 11) by unfold evalR; rw [if_pos hdp])
    rw [HR.out]
    rw [hdp] at HD
    clear hdp
    go_enter_defers Try.func42, Try.ntmps42
    go_wp2_with fail
    rw [← hW]
    clear hW
    refine HD.out.mono ?_
    rintro e w1 ⟨rfl, hb⟩
    have HB := Lib.hid hb
    clear hb
    have v1 := ((HB.out).cell (p := ⟨w.heap.size + 1, 0, none⟩) (by rw [HZ0.out]; simp)).trans HV0.out
    have f1 := ((HB.out).cell (p := ⟨w.heap.size + 1 + 1, 0, none⟩) (by rw [HZ0.out]; simp)).trans HF0.out
    have vz := ((HB.out).frozen (p := ⟨w.heap.size + 1, 0, none⟩) (by rw [HZ0.out]; simp)).trans HVZ.out
    have fz := ((HB.out).frozen (p := ⟨w.heap.size + 1 + 1, 0, none⟩) (by rw [HZ0.out]; simp)).trans HFZ.out
    go_wp2
    refine leaves_cons (f := 49) (args := #[.pointer (some ⟨w.heap.size + 1, 0, none⟩), .pointer (some ⟨w.heap.size + 1 + 1, 0, none⟩)]) (by simp) (by simp [go_sem]) ?_
    refine (eval_catch ⟨w.heap.size + 1, 0, none⟩ ⟨w.heap.size + 1 + 1, 0, none⟩ 0 0 11 [] _ v1 vz f1 fz (by simp)).mono ?_
    rintro e u' w'' ⟨rfl, rfl, rfl⟩
    have y0 : (w1.setCell ⟨w.heap.size + 1, 0, none⟩ (.int .i64 0)).cell? ⟨w.heap.size + 1, 0, none⟩ = some (.int .i64 0) := World.cell?_setCell_same _ _ _ v1
    have y1 : ((w1.setCell ⟨w.heap.size + 1, 0, none⟩ (.int .i64 0)).setCell ⟨w.heap.size + 1 + 1, 0, none⟩ (.int .i64 11)).cell? ⟨w.heap.size + 1 + 1, 0, none⟩ = some (.int .i64 11) := World.cell?_setCell_same _ _ _ (by rw [World.cell?_setCell_other _ _ _ _ (by simp)]; exact f1)
    simp [Leaves, settle, results, Try.results42, go_sem, y0, y1]
    exact ⟨rfl, ((HB0.out.trans ((HB.out).mono HB0.out.size)).setCell (by simp) _).setCell (by simp <;> omega) _⟩
  | false =>
    have HFM := Lib.hid (fun w1 (hb : Below W.heap.size W w1) => formed_at d t A c w1 (HL.out.on hb))
    unfold tmV at HFM
    cases hfm : formedF d t with
    | false =>
      have HR := Lib.hid (show evalR d t names vals = (0, 3) by unfold evalR; rw [if_neg (by rw [hdp]; decide), if_pos hfm])
      rw [HR.out]
      rw [hdp] at HD
      rw [hfm] at HFM
      clear hdp hfm
      go_enter_defers Try.func42, Try.ntmps42
      go_wp2_with fail
      rw [← hW]
      clear hW
      refine HD.out.mono ?_
      rintro e w1 ⟨rfl, hb⟩
      have HB := Lib.hid hb
      clear hb
      have x0 := ((HB.out).cell (p := ⟨w.heap.size, 0, none⟩) (by rw [HZ0.out]; simp <;> omega)).trans HE0.out
      have x1 := ((HB.out).cell (p := ⟨w.heap.size, 1, none⟩) (by rw [HZ0.out]; simp <;> omega)).trans HE1.out
      have x2 := ((HB.out).cell (p := ⟨w.heap.size, 2, none⟩) (by rw [HZ0.out]; simp <;> omega)).trans HE2.out
      have x3 := ((HB.out).cell (p := ⟨w.heap.size, 3, none⟩) (by rw [HZ0.out]; simp <;> omega)).trans HE3.out
      go_wp2_with fail
      refine (HFM.out w1 HB.out).mono ?_
      rintro e w2 ⟨rfl, hb2⟩
      have HB2 := Lib.hid (HB.out.trans (hb2.mono HB.out.size))
      clear hb2 x0 x1 x2 x3
      have v1 := ((HB2.out).cell (p := ⟨w.heap.size + 1, 0, none⟩) (by rw [HZ0.out]; simp)).trans HV0.out
      have f1 := ((HB2.out).cell (p := ⟨w.heap.size + 1 + 1, 0, none⟩) (by rw [HZ0.out]; simp)).trans HF0.out
      have vz := ((HB2.out).frozen (p := ⟨w.heap.size + 1, 0, none⟩) (by rw [HZ0.out]; simp)).trans HVZ.out
      have fz := ((HB2.out).frozen (p := ⟨w.heap.size + 1 + 1, 0, none⟩) (by rw [HZ0.out]; simp)).trans HFZ.out
      go_wp2
      refine leaves_cons (f := 49) (args := #[.pointer (some ⟨w.heap.size + 1, 0, none⟩), .pointer (some ⟨w.heap.size + 1 + 1, 0, none⟩)]) (by simp) (by simp [go_sem]) ?_
      refine (eval_catch ⟨w.heap.size + 1, 0, none⟩ ⟨w.heap.size + 1 + 1, 0, none⟩ 0 0 3 [] _ v1 vz f1 fz (by simp)).mono ?_
      rintro e u' w'' ⟨rfl, rfl, rfl⟩
      have y0 : (w2.setCell ⟨w.heap.size + 1, 0, none⟩ (.int .i64 0)).cell? ⟨w.heap.size + 1, 0, none⟩ = some (.int .i64 0) := World.cell?_setCell_same _ _ _ v1
      have y1 : ((w2.setCell ⟨w.heap.size + 1, 0, none⟩ (.int .i64 0)).setCell ⟨w.heap.size + 1 + 1, 0, none⟩ (.int .i64 3)).cell? ⟨w.heap.size + 1 + 1, 0, none⟩ = some (.int .i64 3) := World.cell?_setCell_same _ _ _ (by rw [World.cell?_setCell_other _ _ _ _ (by simp)]; exact f1)
      simp [Leaves, settle, results, Try.results42, go_sem, y0, y1]
      exact ⟨rfl, ((HB0.out.trans ((HB2.out).mono HB0.out.size)).setCell (by simp) _).setCell (by simp <;> omega) _⟩
    | true =>
      have HVL := Lib.hid (fun w1 (hb : Below W.heap.size W w1) => val_at names vals d t A AN AV c nN cN nV cV w1 hfm (HL.out.on hb) (HN.out.on hb) (ints_on HV.out hb) hn1 hn2)
      unfold tmV at HVL
      have HR0 := Lib.hid (show evalR d t names vals = match valF names vals d t with | none => (0, 4) | some v => (v, 0) by unfold evalR; rw [if_neg (by rw [hdp]; decide), if_neg (by rw [hfm]; decide)]; cases valF names vals d t <;> rfl)
      rw [hdp] at HD
      rw [hfm] at HFM
      have HBD := Lib.hid (fun v => val_bd (names := names) (vals := vals) (d := d) (t := t) (v := v))
      clear hdp hfm
      obtain ⟨o, ho⟩ : ∃ o, valF names vals d t = o := ⟨_, rfl⟩
      rw [ho] at HVL HR0 HBD
      rw [HR0.out]
      clear ho
      go_enter_defers Try.func42, Try.ntmps42
      go_wp2_with fail
      rw [← hW]
      clear hW
      refine HD.out.mono ?_
      rintro e w1 ⟨rfl, hb⟩
      have HB := Lib.hid hb
      clear hb
      have x0 := ((HB.out).cell (p := ⟨w.heap.size, 0, none⟩) (by rw [HZ0.out]; simp <;> omega)).trans HE0.out
      have x1 := ((HB.out).cell (p := ⟨w.heap.size, 1, none⟩) (by rw [HZ0.out]; simp <;> omega)).trans HE1.out
      have x2 := ((HB.out).cell (p := ⟨w.heap.size, 2, none⟩) (by rw [HZ0.out]; simp <;> omega)).trans HE2.out
      have x3 := ((HB.out).cell (p := ⟨w.heap.size, 3, none⟩) (by rw [HZ0.out]; simp <;> omega)).trans HE3.out
      go_wp2_with fail
      refine (HFM.out w1 HB.out).mono ?_
      rintro e w2 ⟨rfl, hb2⟩
      have HB2 := Lib.hid (HB.out.trans (hb2.mono HB.out.size))
      clear hb2 x0 x1 x2 x3
      have x0 := ((HB2.out).cell (p := ⟨w.heap.size, 0, none⟩) (by rw [HZ0.out]; simp <;> omega)).trans HE0.out
      have x1 := ((HB2.out).cell (p := ⟨w.heap.size, 1, none⟩) (by rw [HZ0.out]; simp <;> omega)).trans HE1.out
      have x2 := ((HB2.out).cell (p := ⟨w.heap.size, 2, none⟩) (by rw [HZ0.out]; simp <;> omega)).trans HE2.out
      have x3 := ((HB2.out).cell (p := ⟨w.heap.size, 3, none⟩) (by rw [HZ0.out]; simp <;> omega)).trans HE3.out
      go_wp2_with fail
      refine (HVL.out w2 HB2.out).mono ?_
      rintro e w3 ⟨he, hb3⟩
      have HB3 := Lib.hid (HB2.out.trans (hb3.mono HB2.out.size))
      clear hb3 x0 x1 x2 x3
      have v1 := ((HB3.out).cell (p := ⟨w.heap.size + 1, 0, none⟩) (by rw [HZ0.out]; simp)).trans HV0.out
      have f1 := ((HB3.out).cell (p := ⟨w.heap.size + 1 + 1, 0, none⟩) (by rw [HZ0.out]; simp)).trans HF0.out
      have vz := ((HB3.out).frozen (p := ⟨w.heap.size + 1, 0, none⟩) (by rw [HZ0.out]; simp)).trans HVZ.out
      have fz := ((HB3.out).frozen (p := ⟨w.heap.size + 1 + 1, 0, none⟩) (by rw [HZ0.out]; simp)).trans HFZ.out
      cases o with
      | none =>
        simp only at he
        subst he
        go_wp2
        unfold errV
        refine leaves_cons (f := 49) (args := #[.pointer (some ⟨w.heap.size + 1, 0, none⟩), .pointer (some ⟨w.heap.size + 1 + 1, 0, none⟩)]) (by simp) (by simp [go_sem]) ?_
        have hcat := eval_catch ⟨w.heap.size + 1, 0, none⟩ ⟨w.heap.size + 1 + 1, 0, none⟩ 0 0 4 [] w3 v1 vz f1 fz (by simp)
        unfold errV at hcat
        refine hcat.mono ?_
        rintro e u' w'' ⟨rfl, rfl, rfl⟩
        have y0 : (w3.setCell ⟨w.heap.size + 1, 0, none⟩ (.int .i64 0)).cell? ⟨w.heap.size + 1, 0, none⟩ = some (.int .i64 0) := World.cell?_setCell_same _ _ _ v1
        have y1 : ((w3.setCell ⟨w.heap.size + 1, 0, none⟩ (.int .i64 0)).setCell ⟨w.heap.size + 1 + 1, 0, none⟩ (.int .i64 4)).cell? ⟨w.heap.size + 1 + 1, 0, none⟩ = some (.int .i64 4) := World.cell?_setCell_same _ _ _ (by rw [World.cell?_setCell_other _ _ _ _ (by simp)]; exact f1)
        simp [Leaves, settle, results, Try.results42, go_sem, y0, y1]
        exact ⟨rfl, ((HB0.out.trans ((HB3.out).mono HB0.out.size)).setCell (by simp) _).setCell (by simp <;> omega) _⟩
      | some v =>
        simp only at he
        subst he
        have hv0 := (HBD.out v rfl).1
        have hv1 := (HBD.out v rfl).2
        go_wp2
        refine leaves_cons (f := 49) (args := #[.pointer (some ⟨w.heap.size + 1, 0, none⟩), .pointer (some ⟨w.heap.size + 1 + 1, 0, none⟩)]) (by simp) (by simp [go_sem]) ?_
        refine (eval_idle ⟨w.heap.size + 1, 0, none⟩ ⟨w.heap.size + 1 + 1, 0, none⟩ _).mono ?_
        rintro e u' w'' ⟨rfl, rfl, rfl⟩
        have y0 : (w3.setCell ⟨w.heap.size + 1, 0, none⟩ (.int .i64 v)).cell? ⟨w.heap.size + 1, 0, none⟩ = some (.int .i64 v) := World.cell?_setCell_same _ _ _ v1
        have y1 : ((w3.setCell ⟨w.heap.size + 1, 0, none⟩ (.int .i64 v)).setCell ⟨w.heap.size + 1 + 1, 0, none⟩ (.int .i64 0)).cell? ⟨w.heap.size + 1 + 1, 0, none⟩ = some (.int .i64 0) := World.cell?_setCell_same _ _ _ (by rw [World.cell?_setCell_other _ _ _ _ (by simp)]; exact f1)
        simp [Leaves, settle, results, Try.results42, go_sem, y0, y1]
        exact ⟨rfl, ((HB0.out.trans (HB3.out.mono HB0.out.size)).setCell (by simp) _).setCell (by simp <;> omega) _⟩
end Go.Proofs.Ytnngmpimobolpaa
