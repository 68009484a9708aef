/- Contracts of deep, formed and of their references. -/
import Derived.Test.YtnngmpimobolpaaTermIdx
namespace Go.Proofs.Ytnngmpimobolpaa
open Go.RowKit Mem
set_option linter.unusedVariables false
/-- A term as a value. -/
abbrev tmV (t : Tm) (A : Option Addr) (c : Nat) : Value := .agg #[.int .i64 t.op, .int .i64 t.n, .string t.name, .slice A t.args.length c]
def BoolPost (b : Bool) (w : World) (e : Ending) (w' : World) : Prop := e = .returned (.bool b) ∧ Below w.heap.size w w'
/-- What deep's contract says at a depth. -/
def DeepAt (m : Nat) : Prop := ∀ (d : Nat) (t : Tm) (A : Option Addr) (c : Nat) (w : World), Lies w w.heap.size d t (tmCells t A c) → Calls Try.prog 50 #[tmV t A c, .int .i64 (m : Int)] w (BoolPost (deepF m t) w)
set_option maxRecDepth 100000 in
set_option maxHeartbeats 1000000 in
theorem deep1 (m : Nat) (hm : m ≤ 1000) (hd : DeepAt m) (d : Nat) (x : Tm) (A : Option Addr) (c : Nat) (q : Addr) (w : World) (hq : w.cell? q = some (.int .i64 ((m : Int) + 1))) (hl : Lies w w.heap.size d x (tmCells x A c)) :
    Calls Try.prog 59 #[tmV x A c, .pointer (some q)] w (BoolPost (deepF m x) w) := by
  have hql := World.block_lt_of_cell? w _ hq
  have hq' := (World.cell?_alloc_lt w (.cells #[.int .i64 x.op, .int .i64 x.n, .string x.name, .slice A x.args.length c] 54) q hql).trans hq
  have HC := Lib.hid (hd d x A c _ (hl.on ((Below.refl _ _).alloc (Nat.le_refl _) (.cells #[.int .i64 x.op, .int .i64 x.n, .string x.name, .slice A x.args.length c] 54))))
  clear hq hd hl
  unfold tmV at HC ⊢
  obtain ⟨r, hr⟩ : ∃ r, deepF m x = r := ⟨_, rfl⟩
  rw [hr] at HC ⊢
  obtain ⟨op, hop⟩ : ∃ op, x.op = op := ⟨_, rfl⟩
  obtain ⟨xn, hxn⟩ : ∃ xn, x.n = xn := ⟨_, rfl⟩
  obtain ⟨nm, hnm⟩ : ∃ nm, x.name = nm := ⟨_, rfl⟩
  obtain ⟨L, hL⟩ : ∃ L, x.args.length = L := ⟨_, rfl⟩
  rw [hop, hxn, hnm, hL] at HC hq' ⊢
  clear hop hxn hnm hL hr
  go_enter Try.func59, Try.ntmps59
  go_wp2_with fail
  refine HC.out.mono ?_
  rintro e w1 ⟨rfl, hb⟩
  go_wp2
  go_ret
  exact ⟨rfl, ((Below.refl _ _).alloc (Nat.le_refl _) _).trans (hb.mono (by simp))⟩
set_option maxRecDepth 100000 in
set_option maxHeartbeats 2000000 in
theorem deep_at : ∀ (m : Nat), m ≤ 1000 → DeepAt m
  | 0, _ => by
    intro d t A c w hl
    clear hl
    unfold tmV
    go_enter Try.func50, Try.ntmps50
    go_wp2
    go_ret
    exact ⟨rfl, ((Below.refl _ _).alloc (Nat.le_refl _) _).alloc (by simp) _⟩
  | m + 1, hm => by
    have ih := deep_at m (by omega)
    intro d t A c w hl
    cases d with
    | zero => exact hl.elim
    | succ d =>
      have hb0 : Below w.heap.size w ((w.alloc (.cells #[.int .i64 t.op, .int .i64 t.n, .string t.name, .slice A t.args.length c] 54)).alloc (.cells #[.int .i64 ((m : Int) + 1)] 3)) := ((Below.refl _ _).alloc (Nat.le_refl _) _).alloc (by simp) _
      have HC := Lib.hid (has_deep d t (deepF m) A c ⟨w.heap.size + 1, 0, none⟩ _ (hl.on hb0) (fun w1 i x A' c' hb1 hx hlx => by
        refine deep1 m (by omega) ih d x A' c' _ w1 ?_ (hlx.more hb1.size)
        rw [hb1.cell (by simp)]
        simp))
      have HB0 := Lib.hid hb0
      clear ih hl hb0
      have hcast : ((m + 1 : Nat) : Int) = (m : Int) + 1 := by omega
      unfold tmV
      rw [hcast]
      clear hcast
      have hlt : decide ((m : Int) + 1 < 1) = false := by rw [decide_eq_false_iff_not]; omega
      have hmf : ∀ (fn : Fn) (first cap : Array Value) (w : World), (Instr.makeFunc fn first cap).run Try.prog w = .ok (.func fn first cap) w := fun _ _ _ _ => rfl
      obtain ⟨r, hr⟩ : ∃ r, t.args.any (deepF m) = r := ⟨_, rfl⟩
      rw [hr] at HC
      have HR := Lib.hid (show deepF (m + 1) t = r from hr)
      rw [HR.out]
      clear hr
      obtain ⟨op, hop⟩ : ∃ op, t.op = op := ⟨_, rfl⟩
      obtain ⟨xn, hxn⟩ : ∃ xn, t.n = xn := ⟨_, rfl⟩
      obtain ⟨nm, hnm⟩ : ∃ nm, t.name = nm := ⟨_, rfl⟩
      obtain ⟨L, hL⟩ : ∃ L, t.args.length = L := ⟨_, rfl⟩
      rw [hop, hxn, hnm, hL] at HC HB0 ⊢
      clear hop hxn hnm hL
      go_enter Try.func50, Try.ntmps50
      go_wp2_with fail
      refine HC.out.mono ?_
      rintro e w1 ⟨rfl, hb⟩
      go_wp2
      go_ret
      exact ⟨rfl, HB0.out.trans (hb.mono HB0.out.size)⟩
/-- What formed's contract says of terms of at most some levels. -/
def FormedAt (d : Nat) : Prop := ∀ (t : Tm) (A : Option Addr) (c : Nat) (w : World), Lies w w.heap.size d t (tmCells t A c) → Calls Try.prog 51 #[tmV t A c] w (BoolPost (formedF d t) w)
theorem bpost_calls {f : FuncId} {args : Array Value} {w : World} {b : Bool} (h : Calls Try.prog f args w (BoolPost b w)) : Calls Try.prog f args w fun e w' => e = .returned (.bool b) ∧ Below w.heap.size w w' := h
set_option maxRecDepth 100000 in
set_option maxHeartbeats 1000000 in
theorem formed1 (d : Nat) (hd : FormedAt d) (x : Tm) (A : Option Addr) (c : Nat) (w : World) (hl : Lies w w.heap.size d x (tmCells x A c)) :
    Calls Try.prog 61 #[tmV x A c] w (BoolPost (!formedF d x) w) := by
  have HC := Lib.hid (hd x A c _ (hl.on ((Below.refl _ _).alloc (Nat.le_refl _) (.cells #[.int .i64 x.op, .int .i64 x.n, .string x.name, .slice A x.args.length c] 54))))
  clear hd hl
  unfold tmV at HC ⊢
  obtain ⟨r, hr⟩ : ∃ r, formedF d x = r := ⟨_, rfl⟩
  rw [hr] at HC ⊢
  clear hr
  obtain ⟨op, hop⟩ : ∃ op, x.op = op := ⟨_, rfl⟩
  obtain ⟨xn, hxn⟩ : ∃ xn, x.n = xn := ⟨_, rfl⟩
  obtain ⟨nm, hnm⟩ : ∃ nm, x.name = nm := ⟨_, rfl⟩
  obtain ⟨L, hL⟩ : ∃ L, x.args.length = L := ⟨_, rfl⟩
  rw [hop, hxn, hnm, hL] at HC ⊢
  clear hop hxn hnm hL
  go_enter Try.func61, Try.ntmps61
  go_wp2_with fail
  refine HC.out.mono ?_
  rintro e w1 ⟨rfl, hb⟩
  go_wp2
  go_ret
  exact ⟨rfl, ((Below.refl _ _).alloc (Nat.le_refl _) _).trans (hb.mono (by simp))⟩
theorem all_any (l : List Tm) (p : Tm → Bool) : l.all p = !l.any (fun x => !p x) := by rw [List.all_eq_not_any_not]
set_option maxRecDepth 100000 in
set_option maxHeartbeats 2000000 in
theorem formed_at : ∀ (d : Nat), FormedAt d
  | 0 => fun t A c w hl => hl.elim
  | d + 1 => by
    have ih := formed_at d
    intro t A c w hl
    have hnm0 := hl.1.name
    have hb0 : Below w.heap.size w (w.alloc (.cells #[.int .i64 t.op, .int .i64 t.n, .string t.name, .slice A t.args.length c] 54)) := (Below.refl _ _).alloc (Nat.le_refl _) _
    have hl1 := hl.on hb0
    have HF := Lib.hid (ex_form t.op t.n t.name A t.args.length c (w.alloc (.cells #[.int .i64 t.op, .int .i64 t.n, .string t.name, .slice A t.args.length c] 54)) hnm0)
    have HC := Lib.hid (fun (w2 : World) (hb2 : Below (w.alloc (.cells #[.int .i64 t.op, .int .i64 t.n, .string t.name, .slice A t.args.length c] 54)).heap.size (w.alloc (.cells #[.int .i64 t.op, .int .i64 t.n, .string t.name, .slice A t.args.length c] 54)) w2) =>
      has_formed d t (fun x => !formedF d x) A c w2 (hl1.on hb2) (fun w1 i x A' c' hb1 hx hlx => formed1 d ih x A' c' w1 (hlx.more hb1.size)))
    have HB0 := Lib.hid hb0
    clear ih hl hl1 hb0
    unfold tmV
    obtain ⟨r, hr⟩ : ∃ r, t.args.any (fun x => !formedF d x) = r := ⟨_, rfl⟩
    rw [hr] at HC
    obtain ⟨f, hf⟩ : ∃ f, formV t.op t.n t.name t.args.length = f := ⟨_, rfl⟩
    rw [hf] at HF
    have HR := Lib.hid (show formedF (d + 1) t = (f && !r) by rw [← hf, ← hr, ← all_any]; rfl)
    rw [HR.out]
    clear hr hf HR
    obtain ⟨op, hop⟩ : ∃ op, t.op = op := ⟨_, rfl⟩
    obtain ⟨xn, hxn⟩ : ∃ xn, t.n = xn := ⟨_, rfl⟩
    obtain ⟨nm, hnm⟩ : ∃ nm, t.name = nm := ⟨_, rfl⟩
    obtain ⟨L, hL⟩ : ∃ L, t.args.length = L := ⟨_, rfl⟩
    rw [hop, hxn, hnm, hL] at HC HF HB0 ⊢
    clear hop hxn hnm hL
    go_enter Try.func51, Try.ntmps51
    go_wp2_with fail
    refine HF.out.mono ?_
    rintro e w2 ⟨rfl, hb2⟩
    have HB2 := Lib.hid hb2
    have hc3 : w2.cell? ⟨w.heap.size, 3, none⟩ = some (.slice A L c) := by
      rw [hb2.cell (by simp)]; simp
    clear hb2
    cases f with
    | false =>
      go_wp2
      go_ret
      exact ⟨rfl, HB0.out.trans (HB2.out.mono HB0.out.size)⟩
    | true =>
      go_wp2_with fail
      refine (HC.out w2 HB2.out).mono ?_
      rintro e w3 ⟨rfl, hb3⟩
      go_wp2
      go_ret
      exact ⟨rfl, (HB0.out.trans (HB2.out.mono HB0.out.size)).trans (hb3.mono (Nat.le_trans HB0.out.size HB2.out.size))⟩
/-- What the reference's Deep says at a depth. -/
def RefDeepAt (m : Nat) : Prop := ∀ (d : Nat) (t : Tm) (A : Option Addr) (c : Nat) (w : World), Lies w w.heap.size d t (tmCells t A c) → Calls Try.prog 53 #[tmV t A c, .int .i64 (m : Int)] w (BoolPost (deepF m t) w)
set_option maxRecDepth 100000 in
set_option maxHeartbeats 2000000 in
theorem ref_deep_at : ∀ (m : Nat), m ≤ 1000 → RefDeepAt m
  | 0, _ => by
    intro d t A c w hl
    clear hl
    unfold tmV
    go_enter Try.func53, Try.ntmps53
    go_wp2
    go_ret
    exact ⟨rfl, (Below.refl _ _).alloc (Nat.le_refl _) _⟩
  | m + 1, hm => by
    have ih := ref_deep_at m (by omega)
    intro d t A c w hl
    cases d with
    | zero => exact hl.elim
    | succ d =>
      have hargs := hl.1.args
      have hb0 : Below w.heap.size w (w.alloc (.cells #[.int .i64 t.op, .int .i64 t.n, .string t.name, .slice A t.args.length c] 54)) := (Below.refl _ _).alloc (Nat.le_refl _) _
      have HIH := Lib.hid ih
      have HL := Lib.hid (hl.on hb0)
      have HB0 := Lib.hid hb0
      have HT := Lib.hid (fun (h : t.args.any (deepF m) = true) => show deepF (m + 1) t = true from h)
      have HF := Lib.hid (fun (h : t.args.any (deepF m) = false) => show deepF (m + 1) t = false from h)
      clear ih hl hb0
      have hcast : ((m + 1 : Nat) : Int) = (m : Int) + 1 := by omega
      unfold tmV
      rw [hcast]
      clear hcast
      have hlt : decide ((m : Int) + 1 < 1) = false := by rw [decide_eq_false_iff_not]; omega
      obtain ⟨r, hr⟩ : ∃ r, deepF (m + 1) t = r := ⟨_, rfl⟩
      rw [hr] at HT HF ⊢
      clear hr
      obtain ⟨op, hop⟩ : ∃ op, t.op = op := ⟨_, rfl⟩
      obtain ⟨xn, hxn⟩ : ∃ xn, t.n = xn := ⟨_, rfl⟩
      obtain ⟨nm, hnm⟩ : ∃ nm, t.name = nm := ⟨_, rfl⟩
      obtain ⟨L, hL⟩ : ∃ L, t.args.length = L := ⟨_, rfl⟩
      rw [hop, hxn, hnm, hL] at HB0 HL ⊢
      rw [hL] at hargs
      have HLL := Lib.hid hL
      clear hop hxn hnm hL
      obtain ⟨w0, hw0⟩ : ∃ w0, w0 = w.alloc (.cells #[.int .i64 op, .int .i64 xn, .string nm, .slice A L c] 54) := ⟨_, rfl⟩
      have hz0 : w0.heap.size = w.heap.size + 1 := by rw [hw0]; simp
      have hc0 : w0.cell? ⟨w.heap.size, 3, none⟩ = some (.slice A L c) := by rw [hw0]; simp
      rw [← hw0] at HL HB0
      have HC0 := Lib.hid hc0
      have HZ0 := Lib.hid hz0
      clear hc0 hz0
      go_enter Try.func53, Try.ntmps53
      go_wp2
      rw [← hw0]
      clear hw0 hlt
      go_loopw [5] (fun iv wr => ∃ k : Nat, iv = .int .i64 k ∧ k ≤ L ∧ Below w0.heap.size w0 wr ∧ NoneTo t (deepF m) k) (fun iv _ => L - (intOf iv).toNat)
      case atStart => exact ⟨0, rfl, by omega, Below.refl _ _, fun i x h => by omega⟩
      case round =>
        obtain ⟨k, rfl, hk, hbel, hno⟩ := hrel
        have HW := Lib.hid hbel; have HX := Lib.hid hno
        have hc3 : wr.cell? ⟨w.heap.size, 3, none⟩ = some (.slice A L c) := by
          rw [hbel.cell (by rw [HZ0.out]; simp)]; exact HC0.out
        clear hbel hno
        by_cases hlk : k < L
        · obtain ⟨ad, q0, x, A', c', rfl, hp, hpb, hxi, hlx, c0, c1, c2, c3⟩ := (HL.out.on HW.out).part (i := k) (by rw [HLL.out]; exact hlk)
          have HXI := Lib.hid hxi
          have HCC := Lib.hid (HIH.out d x A' c' wr hlx)
          clear hxi hlx
          unfold tmV at HCC
          obtain ⟨op', hop⟩ : ∃ op, x.op = op := ⟨_, rfl⟩
          obtain ⟨xn', hxn⟩ : ∃ xn, x.n = xn := ⟨_, rfl⟩
          obtain ⟨nm', hnm⟩ : ∃ nm, x.name = nm := ⟨_, rfl⟩
          obtain ⟨L', hL⟩ : ∃ L, x.args.length = L := ⟨_, rfl⟩
          rw [hop, hxn, hnm, hL] at HCC
          rw [hop] at c0; rw [hxn] at c1; rw [hnm] at c2; rw [hL] at c3
          clear hop hxn hnm hL
          cases hpx : deepF m x with
          | true =>
            have HP := Lib.hid hpx
            clear hpx
            have HI := Lib.hid (HT.out (any_yes HXI.out HP.out))
            go_wp2_with (go_at_call 53; refine HCC.out.mono ?_; rintro e w' ⟨rfl, hb'⟩; rw [HP.out])
            go_ret
            exact ⟨ret_bool HI.out.symm, (HB0.out.trans (HW.out.mono HB0.out.size)).trans (hb'.mono (Nat.le_trans HB0.out.size HW.out.size))⟩
          | false =>
            have HP := Lib.hid hpx
            clear hpx
            have HS := Lib.hid (none_next HX.out HXI.out HP.out)
            go_wp2_with (go_at_call 53; refine HCC.out.mono ?_; rintro e w' ⟨rfl, hb'⟩; rw [HP.out])
            go_roundw
            case rel => exact ⟨k + 1, by go_num, by omega, HW.out.trans (hb'.mono HW.out.size), HS.out⟩
            case measure => simp [intOf]; omega
        · have HI := Lib.hid (HF.out (any_no (p := deepF m) (show ∀ i x, i < t.args.length → t.args[i]? = some x → deepF m x = false from fun i x hi hx => HX.out i x (by have := HLL.out; omega) hx)))
          go_wp2
          go_ret
          exact ⟨ret_bool HI.out.symm, HB0.out.trans (HW.out.mono HB0.out.size)⟩
/-- What the reference's forms says of terms of at most some levels. -/
def RefFormsAt (d : Nat) : Prop := ∀ (t : Tm) (A : Option Addr) (c : Nat) (w : World), Lies w w.heap.size d t (tmCells t A c) → Calls Try.prog 54 #[tmV t A c] w (BoolPost (formedF d t) w)
theorem formed_no {d : Nat} {t x : Tm} {k : Nat} (hx : t.args[k]? = some x) (h : formedF d x = false) : formedF (d + 1) t = false := by
  unfold formedF
  rw [Bool.and_eq_false_iff]
  refine .inr ?_
  rw [all_any, any_yes (p := fun x => !formedF d x) hx (by rw [h]; rfl)]; rfl
theorem formed_yes {d : Nat} {t : Tm} (hf : formB t = true) (h : ∀ i x, i < t.args.length → t.args[i]? = some x → (!formedF d x) = false) : formedF (d + 1) t = true := by
  unfold formedF
  rw [hf, all_any, any_no (p := fun x => !formedF d x) h]; rfl
set_option maxRecDepth 100000 in
set_option maxHeartbeats 2000000 in
theorem ref_forms_at : ∀ (d : Nat), RefFormsAt d
  | 0 => fun t A c w hl => hl.elim
  | d + 1 => by
    have ih := ref_forms_at d
    intro t A c w hl
    have hnm0 := hl.1.name
    have hargs := hl.1.args
    have hb0 : Below w.heap.size w (w.alloc (.cells #[.int .i64 t.op, .int .i64 t.n, .string t.name, .slice A t.args.length c] 54)) := (Below.refl _ _).alloc (Nat.le_refl _) _
    have HIH := Lib.hid ih
    have HL := Lib.hid (hl.on hb0)
    have HB0 := Lib.hid hb0
    have HFM := Lib.hid (ref_form t.op t.n t.name A t.args.length c (w.alloc (.cells #[.int .i64 t.op, .int .i64 t.n, .string t.name, .slice A t.args.length c] 54)) hnm0)
    obtain ⟨f, hf⟩ : ∃ f, formV t.op t.n t.name t.args.length = f := ⟨_, rfl⟩
    rw [hf] at HFM
    have HN := Lib.hid (show f = false → formedF (d + 1) t = false from fun e => by unfold formedF; rw [show formB t = f from hf, e]; rfl)
    have HY := Lib.hid (show f = true → (∀ i x, i < t.args.length → t.args[i]? = some x → (!formedF d x) = false) → formedF (d + 1) t = true from fun e h => formed_yes (show formB t = true by rw [show formB t = f from hf, e]) h)
    have HM := Lib.hid (fun (k : Nat) (x : Tm) (hx : t.args[k]? = some x) (h : formedF d x = false) => formed_no hx h)
    clear ih hl hb0 hf
    unfold tmV
    obtain ⟨r, hr⟩ : ∃ r, formedF (d + 1) t = r := ⟨_, rfl⟩
    rw [hr] at HN HY HM ⊢
    clear hr
    obtain ⟨op, hop⟩ : ∃ op, t.op = op := ⟨_, rfl⟩
    obtain ⟨xn, hxn⟩ : ∃ xn, t.n = xn := ⟨_, rfl⟩
    obtain ⟨nm, hnm⟩ : ∃ nm, t.name = nm := ⟨_, rfl⟩
    obtain ⟨L, hL⟩ : ∃ L, t.args.length = L := ⟨_, rfl⟩
    rw [hop, hxn, hnm, hL] at HB0 HL HFM ⊢
    rw [hL] at hargs
    have HLL := Lib.hid hL
    clear hop hxn hnm hL
    obtain ⟨w0, hw0⟩ : ∃ w0, w0 = w.alloc (.cells #[.int .i64 op, .int .i64 xn, .string nm, .slice A L c] 54) := ⟨_, rfl⟩
    have hz0 : w0.heap.size = w.heap.size + 1 := by rw [hw0]; simp
    have hc0 : w0.cell? ⟨w.heap.size, 3, none⟩ = some (.slice A L c) := by rw [hw0]; simp
    rw [← hw0] at HL HB0 HFM
    have HC0 := Lib.hid hc0
    have HZ0 := Lib.hid hz0
    clear hc0 hz0
    go_enter Try.func54, Try.ntmps54
    go_wp2_with fail
    rw [← hw0]
    refine HFM.out.mono ?_
    rintro e w2 ⟨rfl, hb2⟩
    clear hw0
    have HB2 := Lib.hid hb2
    clear hb2
    cases f with
    | false =>
      have HI := Lib.hid (HN.out rfl)
      go_wp2
      go_ret
      exact ⟨ret_bool HI.out.symm, HB0.out.trans (HB2.out.mono HB0.out.size)⟩
    | true =>
      go_wp2
      go_loopw [3] (fun iv wr => ∃ k : Nat, iv = .int .i64 k ∧ k ≤ L ∧ Below w0.heap.size w0 wr ∧ NoneTo t (fun x => !formedF d x) k) (fun iv _ => L - (intOf iv).toNat)
      case atStart => exact ⟨0, rfl, by omega, HB2.out, fun i x h => by omega⟩
      case round =>
        obtain ⟨k, rfl, hk, hbel, hno⟩ := hrel
        have HW := Lib.hid hbel; have HX := Lib.hid hno
        have hc3 : wr.cell? ⟨w.heap.size, 3, none⟩ = some (.slice A L c) := by
          rw [hbel.cell (by rw [HZ0.out]; simp)]; exact HC0.out
        clear hbel hno
        by_cases hlk : k < L
        · obtain ⟨ad, q0, x, A', c', rfl, hp, hpb, hxi, hlx, c0, c1, c2, c3⟩ := (HL.out.on HW.out).part (i := k) (by rw [HLL.out]; exact hlk)
          have HXI := Lib.hid hxi
          have HCC := Lib.hid (HIH.out x A' c' wr hlx)
          clear hxi hlx
          unfold tmV at HCC
          obtain ⟨op', hop⟩ : ∃ op, x.op = op := ⟨_, rfl⟩
          obtain ⟨xn', hxn⟩ : ∃ xn, x.n = xn := ⟨_, rfl⟩
          obtain ⟨nm', hnm⟩ : ∃ nm, x.name = nm := ⟨_, rfl⟩
          obtain ⟨L', hL⟩ : ∃ L, x.args.length = L := ⟨_, rfl⟩
          rw [hop, hxn, hnm, hL] at HCC
          rw [hop] at c0; rw [hxn] at c1; rw [hnm] at c2; rw [hL] at c3
          clear hop hxn hnm hL
          cases hpx : formedF d x with
          | false =>
            have HP := Lib.hid hpx
            clear hpx
            have HI := Lib.hid (HM.out k x HXI.out HP.out)
            go_wp2_with (go_at_call 54; refine HCC.out.mono ?_; rintro e w' ⟨rfl, hb'⟩; rw [HP.out])
            go_ret
            exact ⟨ret_bool HI.out.symm, (HB0.out.trans (HW.out.mono HB0.out.size)).trans (hb'.mono (Nat.le_trans HB0.out.size HW.out.size))⟩
          | true =>
            have HP := Lib.hid hpx
            clear hpx
            have HS := Lib.hid (none_next (p := fun x => !formedF d x) HX.out HXI.out (by rw [HP.out]; rfl))
            go_wp2_with (go_at_call 54; refine HCC.out.mono ?_; rintro e w' ⟨rfl, hb'⟩; rw [HP.out])
            go_roundw
            case rel => exact ⟨k + 1, by go_num, by omega, HW.out.trans (hb'.mono HW.out.size), HS.out⟩
            case measure => simp [intOf]; omega
        · have HI := Lib.hid (HY.out (by trivial) (fun i x hi hx => HX.out i x (by have := HLL.out; omega) hx))
          go_wp2
          go_ret
          exact ⟨ret_bool HI.out.symm, HB0.out.trans (HW.out.mono HB0.out.size)⟩
end Go.Proofs.Ytnngmpimobolpaa
