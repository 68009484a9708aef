/- The contract of blocks.Check: whether blocks may be, and the line at which not. -/
import Derived.Test.YtoippgiahldkmaaBlockWithin
import Derived.Deep.RegionHeld3
import Derived.StillTailTactics
namespace Go.Proofs.Ytoippgiahldkmaa
open Go.RowKit Mem
set_option linter.unusedVariables false
/-- What the check keeps: what is asked, the result's cells, all that was there. -/
structure KeepR (w wr : World) (R C : Nat) (os : List Int) : Prop where
  arr : Arr wr C os
  c0 : wr.cell? ⟨R, 0, none⟩ = some (.int .i64 0)
  c1 : wr.cell? ⟨R, 1, none⟩ = some (.int .i64 0)
  f0 : wr.frozen? ⟨R, 0, none⟩ = false
  f1 : wr.frozen? ⟨R, 1, none⟩ = false
  lt : R < wr.heap.size
  bel : Below w.heap.size w wr
  base : w.heap.size ≤ R
theorem KeepR.below {w wr w' : World} {R C : Nat} {os : List Int} (h : KeepR w wr R C os) (hb : Below wr.heap.size wr w') : KeepR w w' R C os :=
  ⟨h.arr.below hb, (hb.cell (p := ⟨R, 0, none⟩) h.lt).trans h.c0, (hb.cell (p := ⟨R, 1, none⟩) h.lt).trans h.c1, (hb.frozen (p := ⟨R, 0, none⟩) h.lt).trans h.f0, (hb.frozen (p := ⟨R, 1, none⟩) h.lt).trans h.f1, Nat.lt_of_lt_of_le h.lt hb.size, h.bel.trans (hb.mono h.bel.size), h.base⟩
theorem KeepR.alloc {w wr : World} {R C : Nat} {os : List Int} (h : KeepR w wr R C os) (o : Obj) : KeepR w (wr.alloc o) R C os := h.below ((Below.refl _ _).alloc (Nat.le_refl _) _)
theorem check_at {ls : List Ln} {cs : List Int} {k : Nat} {left : Int} {L : Ln} {ci : Int} (h1 : ls[k]? = some L) (h2 : cs[k]? = some ci) : checkGo (ls.drop k) (cs.drop k) k left = if (okStep left L ci).1 then checkGo (ls.drop (k + 1)) (cs.drop (k + 1)) (k + 1) (okStep left L ci).2 else some k := by
  have e1 : ls.drop k = L :: ls.drop (k + 1) := by
    obtain ⟨h, rfl⟩ := List.getElem?_eq_some_iff.1 h1
    exact List.drop_eq_getElem_cons h
  have e2 : cs.drop k = ci :: cs.drop (k + 1) := by
    obtain ⟨h, rfl⟩ := List.getElem?_eq_some_iff.1 h2
    exact List.drop_eq_getElem_cons h
  rw [e1, e2]; rfl
theorem KeepR.drew {w wr : World} {R C : Nat} {os : List Int} (h : KeepR w wr R C os) : KeepR w wr.drew R C os := h.below (below_drewN (Below.refl _ _) 1)
theorem load_drew {wz : World} {b : Nat} {L : Ln} {X : Array Value} (h : ∀ j v, L.cells[j]? = some v → wz.cell? ⟨b, j, none⟩ = some v) (hX : X = L.cells.toArray) (hXi : (Try.prog.info? 56).map (·.size) = some X.size) :
    (Instr.loadAt 56 (.pointer (some ⟨b, 0, none⟩))).run Try.prog wz.drew = .ok (.agg X) wz.drew := by
  have := run_loadAt_any wz.drew ⟨b, 0, none⟩ 56 L.cells _ (fun j v hj => by rw [Addr.add_mid, Nat.zero_add]; exact h j v hj) Try.underlying56 rfl (by rw [hXi, hX]; rfl)
  rw [hX]; exact this
theorem wpStill_load_any {P : Program} {ops : Array Oper} {rest : List Oper} {op : Oper} {a : Act} {w : World} {Q : Act → Prop} (hw : Region.wanted op (yielded ops a.tmps) = true) (ty : TypeId) (x : Operand) (ho : op.op = .load ty x)
    (p : Addr) (hx : a.eval x = .pointer (some p)) (X : Array Value) (hr : (Instr.loadAt ty (.pointer (some p))).run P w = .ok (.agg X) w)
    (h : wpStill P ops w Q rest (a.put op.dst (.agg X))) : wpStill P ops w Q (op :: rest) a :=
  wpStill_step fun K hK => by
    rw [if_pos hw]
    unfold Oper.still execOp
    simp only [ho, hx, Sem.run_bind, hr, Result.andThen_ok]
    exact ⟨rfl, hK _ h⟩
def CheckSt (ls : List Ln) (os : List Int) (k : Nat) (left : Int) : Prop := checkGo ls os 0 0 = checkGo (ls.drop k) (os.drop k) k left ∧ -(k : Int) ≤ left ∧ left ≤ 4
theorem CheckSt.ok {ls : List Ln} {os : List Int} {k : Nat} {left left' : Int} {L : Ln} {ci : Int} (h : CheckSt ls os k left) (h1 : ls[k]? = some L) (h2 : os[k]? = some ci) (h3 : okStep left L ci = (true, left')) (hb : -((k + 1 : Nat) : Int) ≤ left') (hb' : left' ≤ 4) : CheckSt ls os (k + 1) left' := by
  refine ⟨?_, hb, hb'⟩
  rw [h.1, check_at h1 h2, h3]; rfl
theorem CheckSt.bad {ls : List Ln} {os : List Int} {k : Nat} {left : Int} {L : Ln} {ci : Int} (h : CheckSt ls os k left) (ho : os = (aSt ls).1) (h1 : ls[k]? = some L) (h2 : os[k]? = some ci) (h3 : (okStep left L ci).1 = false) : checkOf ls = (7, (k : Int) + 1) := by
  have : checkGo ls (aSt ls).1 0 0 = some k := by
    rw [← ho, h.1, check_at h1 h2, h3]; rfl
  unfold checkOf; rw [this]
theorem CheckSt.endd {ls : List Ln} {os : List Int} {left : Int} (h : CheckSt ls os ls.length left) (ho : os = (aSt ls).1) : checkGo ls (aSt ls).1 0 0 = none := by
  rw [← ho, h.1, List.drop_eq_nil_of_le (Nat.le_refl _)]; rfl
theorem ret_fault {a b : Int × Int} (h : a = b) : Ending.returned (.agg #[.int .i64 a.1, .int .i64 a.2]) = .returned (.agg #[.int .i64 b.1, .int .i64 b.2]) := by rw [h]
theorem below_two {w wr : World} {R : Nat} (h : Below w.heap.size w wr) (hb : w.heap.size ≤ R) (x y : Value) : Below w.heap.size w ((wr.setCell ⟨R, 0, none⟩ x).setCell ⟨R, 1, none⟩ y) := below_set (below_set h hb x) hb y
set_option maxRecDepth 100000 in
set_option maxHeartbeats 8000000 in
theorem blocks_Check (A : Option Addr) (n c B : Nat) (ls : List Ln) (w : World) (hx : Lines w B A n ls) (hB : B ≤ w.heap.size) (hn : n ≤ 1000) :
    Calls Try.prog 29 #[.slice A n c] w fun e w' => e = .returned (.agg #[.int .i64 (checkOf ls).1, .int .i64 (checkOf ls).2]) ∧ Below w.heap.size w w' := by
  have HX := Lib.hid hx
  have HLL := Lib.hid hx.len
  clear hx
  obtain ⟨os, hos⟩ : ∃ os, os = (aSt ls).1 := ⟨_, rfl⟩
  have HOS := Lib.hid hos
  have HOL := Lib.hid (show os.length = n by rw [hos, aSt_len]; exact HLL.out)
  obtain ⟨r1, r2, hr⟩ : ∃ r1 r2, checkOf ls = (r1, r2) := ⟨_, _, rfl⟩
  rw [hr]
  have HR := Lib.hid hr
  clear hos hr
  go_enter Try.func29, Try.ntmps29
  go_wp2_with fail
  have hb0 : Below w.heap.size w (w.alloc (.cells #[.int .i64 0, .int .i64 0] 48)) := (Below.refl _ _).alloc (Nat.le_refl _) _
  refine (blocks_asked _ _ _ _ _ _ (HX.out.below (hb0.mono hB)) (by rw [World.size_alloc']; omega) hn).mono ?_
  rintro e w1 ⟨rfl, ha, hb1⟩
  rw [← HOS.out] at ha
  rw [World.size_alloc'] at ha hb1 ⊢
  have HK := Lib.hid (show KeepR w w1 w.heap.size (w.heap.size + 1) os from
    ⟨ha, (hb1.cell (p := ⟨w.heap.size, 0, none⟩) (by show w.heap.size < _; omega)).trans (by simp [go_sem]), (hb1.cell (p := ⟨w.heap.size, 1, none⟩) (by show w.heap.size < _; omega)).trans (by simp [go_sem]),
      (hb1.frozen (p := ⟨w.heap.size, 0, none⟩) (by show w.heap.size < _; omega)).trans (by simp [go_sem]), (hb1.frozen (p := ⟨w.heap.size, 1, none⟩) (by show w.heap.size < _; omega)).trans (by simp [go_sem]),
      by have := hb1.size; rw [World.size_alloc'] at this; omega, hb0.trans (hb1.mono (by omega)), Nat.le_refl _⟩)
  clear ha hb1 hb0
  obtain ⟨op, hop⟩ : ∃ op, op = decide (0 < (aSt ls).2.length) := ⟨_, rfl⟩
  rw [← hop]
  have HOP := Lib.hid hop
  clear hop
  go_wp2_with fail
  go_loopw [5, 16] (fun lv iv wr => ∃ (k : Nat) (left : Int), k ≤ n ∧ iv = .int .i64 k ∧ lv = .int .i64 left ∧ CheckSt ls os k left ∧ KeepR w wr w.heap.size (w.heap.size + 1) os) (fun _ iv _ => n - (intOf iv).toNat)
  case atStart => exact ⟨0, 0, by omega, rfl, rfl, ⟨rfl, by omega, by omega⟩, HK.out⟩
  case round =>
    obtain ⟨k, left, hk, rfl, rfl, hst, hkeep⟩ := hrel
    have HS := Lib.hid hst; have HKR := Lib.hid hkeep
    have hl1 := hst.2.1
    have hl2 := hst.2.2
    clear hst hkeep
    by_cases hlt : k < n
    · obtain ⟨ad, p, L, rfl, hp, hpb, hL, hok, hc⟩ := (HX.out.below (HKR.out.bel.mono hB)).get hlt
      obtain ⟨ci, hci⟩ : ∃ ci, os[k]? = some ci := ⟨os[k]'(by rw [HOL.out]; exact hlt), List.getElem?_eq_getElem _⟩
      have HLK := Lib.hid hL; have HCI := Lib.hid hci
      obtain ⟨X, hX⟩ : ∃ X, X = L.cells.toArray := ⟨_, rfl⟩
      have hld : (Instr.loadAt 56 (.pointer (some p))).run Try.prog wr = .ok (.agg X) wr := by rw [hX]; exact run_loadAt_any wr p 56 L.cells _ hc Try.underlying56 rfl (by kernel_rfl)
      have hXs : X.size = 19 := by rw [hX]; rfl
      have hXi : (Try.prog.info? 56).map (·.size) = some X.size := by rw [hXs]; kernel_rfl
      have hX1 : X.all (·.oneCell') = true := by rw [hX]; exact Ln.arr_one L hok
      have HXX := Lib.hid hX
      have hld2 : (Instr.loadAt 56 (.pointer (some ⟨wr.heap.size, 0, none⟩))).run Try.prog (wr.alloc (.cells X 56)) = .ok (.agg X) (wr.alloc (.cells X 56)) := run_load_new _ _ _ _ X _ rfl Try.underlying56 rfl hXi
      clear hc hL hX hci
      go_wp2_with (first | (refine wpList_load_any rfl 56 _ rfl p rfl X hld ?_) | (refine wpList_load_any rfl 56 _ rfl ⟨wr.heap.size, 0, none⟩ rfl X hld2 ?_) | (refine wpList_store_any rfl 56 _ _ rfl ⟨wr.heap.size, 0, none⟩ rfl X rfl (run_store_new wr 56 56 _ X (by rw [hXs]; rfl) hXi hX1) ?_))
      refine (blocks_ins L X HXX.out _).mono ?_
      rintro e w' ⟨rfl, rfl⟩
      have HK2 := Lib.hid ((HKR.out.alloc (.cells X 56)).alloc (.cells X 56))
      have hbx : ∀ j v, L.cells[j]? = some v → ((wr.alloc (.cells X 56)).alloc (.cells X 56)).cell? ⟨wr.heap.size, j, none⟩ = some v := fun j v hj => by
        rw [World.cell?_alloc_lt _ _ _ (by rw [World.size_alloc']; show wr.heap.size < _; omega)]
        exact new_line wr X 56 j v (by rw [HXX.out, List.getElem?_toArray]; exact hj)
      have hz2 : wr.heap.size < ((wr.alloc (.cells X 56)).alloc (.cells X 56)).heap.size := by rw [World.size_alloc', World.size_alloc']; omega
      have hld3 : (Instr.loadAt 56 (.pointer (some ⟨wr.heap.size, 0, none⟩))).run Try.prog ((wr.alloc (.cells X 56)).alloc (.cells X 56)) = .ok (.agg X) ((wr.alloc (.cells X 56)).alloc (.cells X 56)) := by
        have := run_loadAt_any ((wr.alloc (.cells X 56)).alloc (.cells X 56)) ⟨wr.heap.size, 0, none⟩ 56 L.cells _ (fun j v hj => by rw [Addr.add_mid, Nat.zero_add]; exact hbx j v hj) Try.underlying56 rfl (by rw [hXi, HXX.out]; rfl)
        rw [HXX.out]
        rw [HXX.out] at this
        exact this
      generalize (wr.alloc (.cells X 56)).alloc (.cells X 56) = wz at HK2 hbx hz2 hld3 ⊢
      have hb0 := hbx 0 (.string L.lab) rfl
      have hb1 := hbx 1 (.int .i64 L.kind) rfl
      have hb2 := hbx 2 (.int .i64 L.op) rfl
      have hb3 := hbx 3 (.int .i64 L.cond) rfl
      have hb7 := hbx 7 (.int .i64 L.imm) rfl
      have hb11 := hbx 11 (.int .i64 L.c) rfl
      have hcc := HK2.out.arr.cell HCI.out
      have hkn : (k : Int) < (n : Int) := by omega
      obtain ⟨x0, x1, g0, g1⟩ : wz.cell? ⟨w.heap.size, 0, none⟩ = some (.int .i64 0) ∧ wz.cell? ⟨w.heap.size, 1, none⟩ = some (.int .i64 0) ∧ wz.frozen? ⟨w.heap.size, 0, none⟩ = false ∧ wz.frozen? ⟨w.heap.size, 1, none⟩ = false := ⟨HK2.out.c0, HK2.out.c1, HK2.out.f0, HK2.out.f1⟩
      have HBX := Lib.hid hbx
      clear hld hld2 hbx
      cases hi1 : insB L with
      | true =>
        cases hci1 : (ci != -1) with
        | true =>
          cases hlab : L.lab.toList.isEmpty with
          | false =>
            have HBADS := Lib.hid (show (okStep left L ci).1 = false by unfold okStep; rw [hi1, hci1, hlab]; rfl)
            go_wp2_with fail
            go_quiet (fail)
            go_wp2
            refine bodyPost_ret (v := .agg #[.int .i64 7, .int .i64 ((k : Int) + 1)]) (by simp [results, Try.results29, go_sem, *]) rfl ⟨ret_fault (a := (7, (k : Int) + 1)) (b := (r1, r2)) (by rw [← HR.out, HS.out.bad HOS.out HLK.out HCI.out HBADS.out]), ?_⟩
            exact below_two (below_drewN HK2.out.bel _) (Nat.le_refl _) _ _
          | true =>
            cases hcc1 : (L.c == ci) with
            | false =>
              have HBADS := Lib.hid (show (okStep left L ci).1 = false by unfold okStep; rw [hi1, hci1, hlab, hcc1]; rfl)
              go_wp2_with fail
              go_quiet (fail)
              go_wp2
              refine bodyPost_ret (v := .agg #[.int .i64 7, .int .i64 ((k : Int) + 1)]) (by simp [results, Try.results29, go_sem, *]) rfl ⟨ret_fault (a := (7, (k : Int) + 1)) (b := (r1, r2)) (by rw [← HR.out, HS.out.bad HOS.out HLK.out HCI.out HBADS.out]), ?_⟩
              exact below_two (below_drewN HK2.out.bel _) (Nat.le_refl _) _ _
            | true =>
              go_wp2_with fail
              have hldd := load_drew HBX.out HXX.out hXi
              go_still_tail 16, (by kernel_rfl)
              refine wpStill_load_any (by rfl) 56 _ rfl ⟨wr.heap.size, 0, none⟩ rfl X hldd ?_
              repeat still_step
              refine wpStill_nil ?_
              change wpList _ _ _ _ _ wz.drew
              have HK3 := Lib.hid (KeepR.drew HK2.out)
              have y0 : wz.drew.cell? ⟨w.heap.size, 0, none⟩ = some (.int .i64 0) := x0
              generalize wz.drew = wy at HK3 ⊢
              obtain ⟨x0, x1, g0, g1⟩ : wy.cell? ⟨w.heap.size, 0, none⟩ = some (.int .i64 0) ∧ wy.cell? ⟨w.heap.size, 1, none⟩ = some (.int .i64 0) ∧ wy.frozen? ⟨w.heap.size, 0, none⟩ = false ∧ wy.frozen? ⟨w.heap.size, 1, none⟩ = false := ⟨HK3.out.c0, HK3.out.c1, HK3.out.f0, HK3.out.f1⟩
              go_wp2_with fail
              refine (blocks_within L _ X HXX.out _).mono ?_
              rintro e w' ⟨rfl, rfl⟩
              have HK4 := Lib.hid (HK3.out.alloc (.cells X 56))
              generalize wy.alloc (.cells X 56) = wv at HK4 ⊢
              obtain ⟨x0, x1, g0, g1⟩ : wv.cell? ⟨w.heap.size, 0, none⟩ = some (.int .i64 0) ∧ wv.cell? ⟨w.heap.size, 1, none⟩ = some (.int .i64 0) ∧ wv.frozen? ⟨w.heap.size, 0, none⟩ = false ∧ wv.frozen? ⟨w.heap.size, 1, none⟩ = false := ⟨HK4.out.c0, HK4.out.c1, HK4.out.f0, HK4.out.f1⟩
              cases hwi : withinB L (left - 1 == 0) with
              | false =>
                have HBADS := Lib.hid (show (okStep left L ci).1 = false by unfold okStep; rw [hi1, hci1, hlab, hcc1, hwi]; rfl)
                go_wp2
                refine bodyPost_ret (v := .agg #[.int .i64 7, .int .i64 ((k : Int) + 1)]) (by simp [results, Try.results29, go_sem, *]) rfl ⟨ret_fault (a := (7, (k : Int) + 1)) (b := (r1, r2)) (by rw [← HR.out, HS.out.bad HOS.out HLK.out HCI.out HBADS.out]), ?_⟩
                exact below_two HK4.out.bel (Nat.le_refl _) _ _
              | true =>
                have HOK := Lib.hid (show okStep left L ci = (true, left - 1) by unfold okStep; rw [hi1, hci1, hlab, hcc1, hwi]; rfl)
                go_wp2
                go_roundw
                case rel => exact ⟨k + 1, _, by omega, by go_num, rfl, HS.out.ok HLK.out HCI.out HOK.out (by omega) (by omega), HK4.out⟩
                case measure => simp [intOf]; omega
        | false =>
          have hgo : (insB L && ci != -1) = false := by rw [hi1, hci1]; rfl
          by_cases hlf : 0 < left
          · cases hk0 : (L.kind == 0) with
            | false =>
              have HBADS := Lib.hid (show (okStep left L ci).1 = false by unfold okStep; rw [if_neg (by rw [hgo]; decide), if_pos hlf, hk0]; rfl)
              go_wp2_with fail
              refine bodyPost_ret (v := .agg #[.int .i64 7, .int .i64 ((k : Int) + 1)]) (by simp [results, Try.results29, go_sem, *]) rfl ⟨ret_fault (a := (7, (k : Int) + 1)) (b := (r1, r2)) (by rw [← HR.out, HS.out.bad HOS.out HLK.out HCI.out HBADS.out]), ?_⟩
              exact below_two HK2.out.bel (Nat.le_refl _) _ _
            | true =>
              cases hlab : L.lab.toList.isEmpty with
              | false =>
                have HBADS := Lib.hid (show (okStep left L ci).1 = false by unfold okStep; rw [if_neg (by rw [hgo]; decide), if_pos hlf, hk0, hlab]; rfl)
                go_wp2_with fail
                refine bodyPost_ret (v := .agg #[.int .i64 7, .int .i64 ((k : Int) + 1)]) (by simp [results, Try.results29, go_sem, *]) rfl ⟨ret_fault (a := (7, (k : Int) + 1)) (b := (r1, r2)) (by rw [← HR.out, HS.out.bad HOS.out HLK.out HCI.out HBADS.out]), ?_⟩
                exact below_two HK2.out.bel (Nat.le_refl _) _ _
              | true =>
                have HOK := Lib.hid (show okStep left L ci = (true, left) by unfold okStep; rw [if_neg (by rw [hgo]; decide), if_pos hlf, hk0, hlab]; rfl)
                go_wp2_with fail
                go_roundw
                case rel => exact ⟨k + 1, _, by omega, by go_num, rfl, HS.out.ok HLK.out HCI.out HOK.out (by omega) (by omega), HK2.out⟩
                case measure => simp [intOf]; omega
          · have hlf' : left ≤ 0 := by omega
            go_wp2_with (refine wpList_load_any rfl 56 _ rfl ⟨wr.heap.size, 0, none⟩ rfl X hld3 ?_)
            refine (blocks_ins L X HXX.out _).mono ?_
            rintro e w' ⟨rfl, rfl⟩
            have HK5 := Lib.hid (HK2.out.alloc (.cells X 56))
            replace hb1 := (World.cell?_alloc_lt wz (.cells X 56) ⟨wr.heap.size, 1, none⟩ hz2).trans hb1
            replace hb2 := (World.cell?_alloc_lt wz (.cells X 56) ⟨wr.heap.size, 2, none⟩ hz2).trans hb2
            replace hb3 := (World.cell?_alloc_lt wz (.cells X 56) ⟨wr.heap.size, 3, none⟩ hz2).trans hb3
            replace hb7 := (World.cell?_alloc_lt wz (.cells X 56) ⟨wr.heap.size, 7, none⟩ hz2).trans hb7
            replace hb11 := (World.cell?_alloc_lt wz (.cells X 56) ⟨wr.heap.size, 11, none⟩ hz2).trans hb11
            generalize wz.alloc (.cells X 56) = wv at HK5 hb1 hb2 hb3 hb7 hb11 ⊢
            obtain ⟨x0, x1, g0, g1⟩ : wv.cell? ⟨w.heap.size, 0, none⟩ = some (.int .i64 0) ∧ wv.cell? ⟨w.heap.size, 1, none⟩ = some (.int .i64 0) ∧ wv.frozen? ⟨w.heap.size, 0, none⟩ = false ∧ wv.frozen? ⟨w.heap.size, 1, none⟩ = false := ⟨HK5.out.c0, HK5.out.c1, HK5.out.f0, HK5.out.f1⟩
            cases hk1 : (L.kind == 1) with
            | false =>
              have hit : itB L = false := by unfold itB; rw [hk1]; rfl
              cases hc14 : (L.c == 14) with
              | false =>
                have HBADS := Lib.hid (show (okStep left L ci).1 = false by unfold okStep; rw [if_neg (by rw [hgo]; decide), if_neg (show ¬ 0 < left by omega), hi1, hit, hc14, hk1]; rfl)
                go_wp2_with fail
                refine bodyPost_ret (v := .agg #[.int .i64 7, .int .i64 ((k : Int) + 1)]) (by simp [results, Try.results29, go_sem, *]) rfl ⟨ret_fault (a := (7, (k : Int) + 1)) (b := (r1, r2)) (by rw [← HR.out, HS.out.bad HOS.out HLK.out HCI.out HBADS.out]), ?_⟩
                exact below_two HK5.out.bel (Nat.le_refl _) _ _
              | true =>
                have HOK := Lib.hid (show okStep left L ci = (true, left) by unfold okStep; rw [if_neg (by rw [hgo]; decide), if_neg (show ¬ 0 < left by omega), hi1, hit, hc14]; rfl)
                go_wp2_with fail
                go_roundw
                case rel => exact ⟨k + 1, _, by omega, by go_num, rfl, HS.out.ok HLK.out HCI.out HOK.out (by omega) (by omega), HK5.out⟩
                case measure => simp [intOf]; omega
            | true =>
              cases ho42 : (L.op == 42) with
              | true =>
                have hit : itB L = true := by unfold itB; rw [hk1, ho42]; rfl
                have ho35 : (L.op == 35) = false := by have : L.op = 42 := by simpa using ho42
                                                       rw [this]; rfl
                have hcl := condsL_len L.cond L.imm
                cases hc14 : (L.c == 14) with
                | false =>
                  go_wp2_with fail
                  refine (conds_Conds _ _ _ hok.cond.1 hok.cond.2 hok.imm.1 hok.imm.2).mono ?_
                  rintro e w4 ⟨v, rfl, hown, hb4⟩
                  obtain ⟨A4, c4, rfl, hmc4, _⟩ := own_shape hown
                  have HK6 := Lib.hid (HK5.out.below hb4)
                  clear hown hb4 x0 x1 g0 g1
                  obtain ⟨x0, x1, g0, g1⟩ : w4.cell? ⟨w.heap.size, 0, none⟩ = some (.int .i64 0) ∧ w4.cell? ⟨w.heap.size, 1, none⟩ = some (.int .i64 0) ∧ w4.frozen? ⟨w.heap.size, 0, none⟩ = false ∧ w4.frozen? ⟨w.heap.size, 1, none⟩ = false := ⟨HK6.out.c0, HK6.out.c1, HK6.out.f0, HK6.out.f1⟩
                  have HBADS := Lib.hid (show (okStep left L ci).1 = false by unfold okStep; rw [if_neg (by rw [hgo]; decide), if_neg (show ¬ 0 < left by omega), hi1, hit, hc14, hk1, ho35]; rfl)
                  go_wp2_with fail
                  refine bodyPost_ret (v := .agg #[.int .i64 7, .int .i64 ((k : Int) + 1)]) (by simp [results, Try.results29, go_sem, *]) rfl ⟨ret_fault (a := (7, (k : Int) + 1)) (b := (r1, r2)) (by rw [← HR.out, HS.out.bad HOS.out HLK.out HCI.out HBADS.out]), ?_⟩
                  exact below_two HK6.out.bel (Nat.le_refl _) _ _
                | true =>
                  go_wp2_with fail
                  refine (conds_Conds _ _ _ hok.cond.1 hok.cond.2 hok.imm.1 hok.imm.2).mono ?_
                  rintro e w4 ⟨v, rfl, hown, hb4⟩
                  obtain ⟨A4, c4, rfl, hmc4, _⟩ := own_shape hown
                  have HK6 := Lib.hid (HK5.out.below hb4)
                  clear hown hb4 x0 x1 g0 g1
                  obtain ⟨x0, x1, g0, g1⟩ : w4.cell? ⟨w.heap.size, 0, none⟩ = some (.int .i64 0) ∧ w4.cell? ⟨w.heap.size, 1, none⟩ = some (.int .i64 0) ∧ w4.frozen? ⟨w.heap.size, 0, none⟩ = false ∧ w4.frozen? ⟨w.heap.size, 1, none⟩ = false := ⟨HK6.out.c0, HK6.out.c1, HK6.out.f0, HK6.out.f1⟩
                  have HOK := Lib.hid (show okStep left L ci = (true, ((condsL L.cond L.imm).length : Int)) by unfold okStep; rw [if_neg (by rw [hgo]; decide), if_neg (show ¬ 0 < left by omega), hi1, hit, hc14]; rfl)
                  go_wp2_with fail
                  go_roundw
                  case rel => exact ⟨k + 1, _, by omega, by go_num, rfl, HS.out.ok HLK.out HCI.out HOK.out (by omega) (by omega), HK6.out⟩
                  case measure => simp [intOf]; omega
              | false =>
                have hit : itB L = false := by unfold itB; rw [hk1, ho42]; rfl
                cases hc14 : (L.c == 14) with
                | true =>
                  have HOK := Lib.hid (show okStep left L ci = (true, left) by unfold okStep; rw [if_neg (by rw [hgo]; decide), if_neg (show ¬ 0 < left by omega), hi1, hit, hc14]; rfl)
                  go_wp2_with fail
                  go_roundw
                  case rel => exact ⟨k + 1, _, by omega, by go_num, rfl, HS.out.ok HLK.out HCI.out HOK.out (by omega) (by omega), HK5.out⟩
                  case measure => simp [intOf]; omega
                | false =>
                  cases ho35 : (L.op == 35) with
                  | true =>
                    have HOK := Lib.hid (show okStep left L ci = (true, left) by unfold okStep; rw [if_neg (by rw [hgo]; decide), if_neg (show ¬ 0 < left by omega), hi1, hit, hc14, hk1, ho35]; rfl)
                    go_wp2_with fail
                    go_roundw
                    case rel => exact ⟨k + 1, _, by omega, by go_num, rfl, HS.out.ok HLK.out HCI.out HOK.out (by omega) (by omega), HK5.out⟩
                    case measure => simp [intOf]; omega
                  | false =>
                    have HBADS := Lib.hid (show (okStep left L ci).1 = false by unfold okStep; rw [if_neg (by rw [hgo]; decide), if_neg (show ¬ 0 < left by omega), hi1, hit, hc14, hk1, ho35]; rfl)
                    go_wp2_with fail
                    refine bodyPost_ret (v := .agg #[.int .i64 7, .int .i64 ((k : Int) + 1)]) (by simp [results, Try.results29, go_sem, *]) rfl ⟨ret_fault (a := (7, (k : Int) + 1)) (b := (r1, r2)) (by rw [← HR.out, HS.out.bad HOS.out HLK.out HCI.out HBADS.out]), ?_⟩
                    exact below_two HK5.out.bel (Nat.le_refl _) _ _
      | false =>
        have hgo : (insB L && ci != -1) = false := by rw [hi1]; rfl
        by_cases hlf : 0 < left
        · cases hk0 : (L.kind == 0) with
          | false =>
            have HBADS := Lib.hid (show (okStep left L ci).1 = false by unfold okStep; rw [if_neg (by rw [hgo]; decide), if_pos hlf, hk0]; rfl)
            go_wp2_with fail
            refine bodyPost_ret (v := .agg #[.int .i64 7, .int .i64 ((k : Int) + 1)]) (by simp [results, Try.results29, go_sem, *]) rfl ⟨ret_fault (a := (7, (k : Int) + 1)) (b := (r1, r2)) (by rw [← HR.out, HS.out.bad HOS.out HLK.out HCI.out HBADS.out]), ?_⟩
            exact below_two HK2.out.bel (Nat.le_refl _) _ _
          | true =>
            cases hlab : L.lab.toList.isEmpty with
            | false =>
              have HBADS := Lib.hid (show (okStep left L ci).1 = false by unfold okStep; rw [if_neg (by rw [hgo]; decide), if_pos hlf, hk0, hlab]; rfl)
              go_wp2_with fail
              refine bodyPost_ret (v := .agg #[.int .i64 7, .int .i64 ((k : Int) + 1)]) (by simp [results, Try.results29, go_sem, *]) rfl ⟨ret_fault (a := (7, (k : Int) + 1)) (b := (r1, r2)) (by rw [← HR.out, HS.out.bad HOS.out HLK.out HCI.out HBADS.out]), ?_⟩
              exact below_two HK2.out.bel (Nat.le_refl _) _ _
            | true =>
              have HOK := Lib.hid (show okStep left L ci = (true, left) by unfold okStep; rw [if_neg (by rw [hgo]; decide), if_pos hlf, hk0, hlab]; rfl)
              go_wp2_with fail
              go_roundw
              case rel => exact ⟨k + 1, _, by omega, by go_num, rfl, HS.out.ok HLK.out HCI.out HOK.out (by omega) (by omega), HK2.out⟩
              case measure => simp [intOf]; omega
        · have hlf' : left ≤ 0 := by omega
          go_wp2_with (refine wpList_load_any rfl 56 _ rfl ⟨wr.heap.size, 0, none⟩ rfl X hld3 ?_)
          refine (blocks_ins L X HXX.out _).mono ?_
          rintro e w' ⟨rfl, rfl⟩
          have HK5 := Lib.hid (HK2.out.alloc (.cells X 56))
          replace hb1 := (World.cell?_alloc_lt wz (.cells X 56) ⟨wr.heap.size, 1, none⟩ hz2).trans hb1
          replace hb2 := (World.cell?_alloc_lt wz (.cells X 56) ⟨wr.heap.size, 2, none⟩ hz2).trans hb2
          replace hb3 := (World.cell?_alloc_lt wz (.cells X 56) ⟨wr.heap.size, 3, none⟩ hz2).trans hb3
          replace hb7 := (World.cell?_alloc_lt wz (.cells X 56) ⟨wr.heap.size, 7, none⟩ hz2).trans hb7
          replace hb11 := (World.cell?_alloc_lt wz (.cells X 56) ⟨wr.heap.size, 11, none⟩ hz2).trans hb11
          generalize wz.alloc (.cells X 56) = wv at HK5 hb1 hb2 hb3 hb7 hb11 ⊢
          obtain ⟨x0, x1, g0, g1⟩ : wv.cell? ⟨w.heap.size, 0, none⟩ = some (.int .i64 0) ∧ wv.cell? ⟨w.heap.size, 1, none⟩ = some (.int .i64 0) ∧ wv.frozen? ⟨w.heap.size, 0, none⟩ = false ∧ wv.frozen? ⟨w.heap.size, 1, none⟩ = false := ⟨HK5.out.c0, HK5.out.c1, HK5.out.f0, HK5.out.f1⟩
          have HOK := Lib.hid (show okStep left L ci = (true, left) by unfold okStep; rw [if_neg (by rw [hgo]; decide), if_neg (show ¬ 0 < left by omega), hi1]; rfl)
          go_wp2_with fail
          go_roundw
          case rel => exact ⟨k + 1, _, by omega, by go_num, rfl, HS.out.ok HLK.out HCI.out HOK.out (by omega) (by omega), HK5.out⟩
          case measure => simp [intOf]; omega
    · have hkn : k = n := by omega
      have hkn2 : ¬ ((k : Int) < (n : Int)) := by omega
      obtain ⟨x0, x1, g0, g1⟩ : wr.cell? ⟨w.heap.size, 0, none⟩ = some (.int .i64 0) ∧ wr.cell? ⟨w.heap.size, 1, none⟩ = some (.int .i64 0) ∧ wr.frozen? ⟨w.heap.size, 0, none⟩ = false ∧ wr.frozen? ⟨w.heap.size, 1, none⟩ = false := ⟨HKR.out.c0, HKR.out.c1, HKR.out.f0, HKR.out.f1⟩
      have HE := Lib.hid (show checkGo ls (aSt ls).1 0 0 = none from CheckSt.endd (left := left) (by have := HS.out; rw [hkn] at this; rw [HLL.out]; exact this) HOS.out)
      cases op with
      | true =>
        have HRR := Lib.hid (show checkOf ls = (7, (n : Int) + 1) by unfold checkOf; rw [HE.out]; show (if _ then _ else _) = _; rw [if_pos (by simpa using HOP.out.symm), HLL.out])
        go_wp2_with fail
        refine bodyPost_ret (v := .agg #[.int .i64 7, .int .i64 ((n : Int) + 1)]) (by simp [results, Try.results29, go_sem, *]) rfl ⟨ret_fault (a := (7, (n : Int) + 1)) (b := (r1, r2)) (by rw [← HR.out, HRR.out]), ?_⟩
        exact below_two HKR.out.bel (Nat.le_refl _) _ _
      | false =>
        have HRR := Lib.hid (show checkOf ls = (0, 0) by unfold checkOf; rw [HE.out]; show (if _ then _ else _) = _; rw [if_neg (by simpa using HOP.out.symm)])
        go_wp2_with fail
        refine bodyPost_ret (v := .agg #[.int .i64 0, .int .i64 0]) (by simp [results, Try.results29, go_sem, *]) rfl ⟨ret_fault (a := (0, 0)) (b := (r1, r2)) (by rw [← HR.out, HRR.out]), ?_⟩
        exact below_two HKR.out.bel (Nat.le_refl _) _ _
end Go.Proofs.Ytoippgiahldkmaa
