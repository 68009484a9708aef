/- Contract of parts: how many parts are left of so many. -/
import Derived.Test.YtfknokclemljfaaTermForm
import Derived.Test.YtfknokclemljfaaTermDeep
namespace Go.Proofs.Ytfknokclemljfaa
open Go.RowKit Mem
set_option linter.unusedVariables false
def partsF : Nat → Tm → Int → Int
  | 0, _, _ => -1
  | m + 1, t, left => if left ≤ 0 then -1 else if formB t = false then -1 else t.args.foldl (fun acc x => if acc < 0 then acc else partsF m x acc) (left - 1)
def stepP (m : Nat) (acc : Int) (x : Tm) : Int := if acc < 0 then acc else partsF m x acc
theorem parts_le : ∀ (m : Nat) (t : Tm) (left : Int), 0 ≤ left → -1 ≤ partsF m t left ∧ partsF m t left ≤ left
  | 0, t, left, h => ⟨Int.le_refl _, by show -1 ≤ left; omega⟩
  | m + 1, t, left, h => by
    unfold partsF
    split
    · omega
    · split
      · omega
      · have : ∀ (l : List Tm) (z : Int), -1 ≤ z → z ≤ left → -1 ≤ l.foldl (fun acc x => if acc < 0 then acc else partsF m x acc) z ∧ l.foldl (fun acc x => if acc < 0 then acc else partsF m x acc) z ≤ left := by
          intro l
          induction l with
          | nil => intro z h1 h2; exact ⟨h1, h2⟩
          | cons x l ih =>
            intro z h1 h2
            show -1 ≤ l.foldl _ (if z < 0 then z else partsF m x z) ∧ l.foldl _ (if z < 0 then z else partsF m x z) ≤ left
            split
            · exact ih z h1 h2
            · have := parts_le m x z (by omega)
              exact ih _ this.1 (by omega)
        exact this t.args (left - 1) (by omega) (by omega)
theorem fold_neg (m : Nat) : ∀ (l : List Tm) (z : Int), z < 0 → l.foldl (stepP m) z = z
  | [], _, _ => rfl
  | x :: l, z, h => by
    show l.foldl (stepP m) (stepP m z x) = z
    rw [show stepP m z x = z by unfold stepP; rw [if_pos h]]
    exact fold_neg m l z h
def IntPost (z : Int) (w : World) (e : Ending) (w' : World) : Prop := e = .returned (.int .i64 z) ∧ Below w.heap.size w w'
def PartsAt (m : Nat) : Prop := ∀ (d : Nat) (t : Tm) (A : Option Addr) (c : Nat) (left : Int) (w : World), 0 ≤ left → left ≤ 1000000 → Lies w w.heap.size d t (tmCells t A c) → Calls Try.prog 28 #[tmV t A c, .int .i64 (m : Int), .int .i64 left] w (IntPost (partsF m t left) w)
theorem part_fold {m k : Nat} {l : List Tm} {x : Tm} {z r : Int} (hx : l[k]? = some x) (h : r = (l.drop k).foldl (stepP m) z) : r = (l.drop (k + 1)).foldl (stepP m) (stepP m z x) := by
  obtain ⟨hl, e⟩ := List.getElem?_eq_some_iff.1 hx
  rw [h, List.drop_eq_getElem_cons hl, e]; rfl
set_option maxRecDepth 100000 in
set_option maxHeartbeats 4000000 in
theorem parts_at : ∀ (m : Nat), m ≤ 1000 → PartsAt m
  | 0, _ => by
    intro d t A c left w h0 h1 hl
    clear hl
    unfold tmV
    rw [show partsF 0 t left = -1 from rfl]
    go_enter Try.func28, Try.ntmps28
    go_wp2
    go_ret
    exact ⟨rfl, (Below.refl _ _).alloc (Nat.le_refl _) _⟩
  | m + 1, hm => by
    have ih := parts_at m (by omega)
    intro d t A c left w h0 h1 hl
    cases d with
    | zero => exact hl.elim
    | succ d =>
      have hargs := hl.1.args
      have hnm := hl.1.name
      have hb0 : Below w.heap.size w (w.alloc (.cells #[.int .i64 t.op, .int .i64 t.n, .string t.name, .slice A t.args.length c] 24)) := (Below.refl _ _).alloc (Nat.le_refl _) _
      have HIH := Lib.hid ih
      have HL := Lib.hid (hl.on hb0)
      have HB0 := Lib.hid hb0
      have HPL := Lib.hid (fun x z h => parts_le m x z h)
      clear ih hl hb0
      obtain ⟨r, hr⟩ : ∃ r, r = partsF (m + 1) t left := ⟨_, rfl⟩
      rw [← hr]
      have HR := Lib.hid hr
      clear hr
      have HFM := Lib.hid (fun w1 => ex_form t.op t.n t.name A t.args.length c w1 hnm)
      have HFB := Lib.hid (show formB t = formV t.op t.n t.name t.args.length from rfl)
      obtain ⟨fb, hfb⟩ : ∃ fb, fb = formV t.op t.n t.name t.args.length := ⟨_, rfl⟩
      rw [← hfb] at HFM HFB
      have hcast : ((m + 1 : Nat) : Int) = (m : Int) + 1 := by omega
      unfold tmV
      rw [hcast]
      clear hcast hfb hnm
      have hlt : decide ((m : Int) + 1 < 1) = false := by rw [decide_eq_false_iff_not]; omega
      obtain ⟨mz, hmz⟩ : ∃ mz : Int, mz = m := ⟨_, rfl⟩
      rw [← hmz] at hlt ⊢
      have hmz0 : 0 ≤ mz := by omega
      have hmz1 : mz ≤ 1000 := by omega
      have HMZ := Lib.hid hmz
      obtain ⟨op, hop⟩ : ∃ op, t.op = op := ⟨_, rfl⟩
      obtain ⟨xn, hxn⟩ : ∃ xn, t.n = xn := ⟨_, rfl⟩
      obtain ⟨nm, hnm⟩ : ∃ nm, t.name = nm := ⟨_, rfl⟩
      obtain ⟨L, hL⟩ : ∃ L, t.args.length = L := ⟨_, rfl⟩
      rw [hop, hxn, hnm, hL] at HB0 HL HFM ⊢
      rw [hL] at hargs
      have HLL := Lib.hid hL
      clear hop hxn hnm hL hmz hm
      by_cases hleft : left ≤ 0
      · obtain rfl : left = 0 := by omega
        have HRR := Lib.hid (show r = -1 by rw [HR.out]; unfold partsF; rw [if_pos (by omega)])
        rw [HRR.out]
        go_enter Try.func28, Try.ntmps28
        go_wp2
        go_ret
        exact ⟨rfl, HB0.out⟩
      · have hl1 : decide (left - 1 < 0) = false := by rw [decide_eq_false_iff_not]; omega
        have hl2 : 1 ≤ left := by omega
        cases fb with
        | false =>
          have HRR := Lib.hid (show r = -1 by rw [HR.out]; unfold partsF; rw [if_neg hleft, if_pos HFB.out])
          rw [HRR.out]
          clear hleft
          go_enter Try.func28, Try.ntmps28
          go_wp2_with fail
          refine (HFM.out _).mono ?_
          rintro e w1 ⟨rfl, hb⟩
          have HB1 := Lib.hid (HB0.out.trans (hb.mono HB0.out.size))
          clear hb
          go_wp2
          go_ret
          exact ⟨rfl, HB1.out⟩
        | true =>
          have HRR := Lib.hid (show r = (t.args.drop 0).foldl (stepP m) (left - 1) by rw [HR.out]; unfold partsF; rw [if_neg hleft, if_neg (by rw [HFB.out]; decide)]; rfl)
          clear hleft HFB
          go_enter Try.func28, Try.ntmps28
          go_wp2_with fail
          refine (HFM.out _).mono ?_
          rintro e w1 ⟨rfl, hb⟩
          have HB1 := Lib.hid (HB0.out.trans (hb.mono HB0.out.size))
          have HL1 := Lib.hid (HL.out.on hb)
          have hc3 : w1.cell? ⟨w.heap.size, 3, none⟩ = some (.slice A L c) := by rw [hb.cell (by simp)]; simp [go_sem]
          have HC3 := Lib.hid hc3
          have hzw : w.heap.size < w1.heap.size := by have := hb.size; simp at this; omega
          clear hb HL HFM
          go_wp2
          clear hc3
          go_loopw [2, 25] (fun lv iv wr => ∃ (z : Int) (k : Nat), lv = .int .i64 z ∧ iv = .int .i64 k ∧ k ≤ L ∧ 0 ≤ z ∧ z ≤ 1000000 ∧ Below w1.heap.size w1 wr ∧ r = (t.args.drop k).foldl (stepP m) z) (fun _ iv _ => L - (intOf iv).toNat)
          case atStart => exact ⟨_, 0, rfl, rfl, by omega, by omega, by omega, Below.refl _ _, HRR.out⟩
          case round =>
            obtain ⟨z, k, rfl, rfl, hk, hz0, hz1, hbel, hfo⟩ := hrel
            have HW := Lib.hid hbel; have HFO := Lib.hid hfo
            clear hbel hfo HRR
            by_cases hlk : k < L
            · obtain ⟨ad, q0, x, A', c', rfl, hp, hpb, hxi, hlx, c0, c1, c2, c3⟩ := (HL1.out.on HW.out).part (i := k) (by rw [HLL.out]; exact hlk)
              have hb2 : Below wr.heap.size wr (wr.alloc (.cells #[.int .i64 x.op, .int .i64 x.n, .string x.name, .slice A' x.args.length c'] 24)) := (Below.refl _ _).alloc (Nat.le_refl _) _
              have HCC := Lib.hid (HIH.out d x A' c' z _ hz0 hz1 (hlx.on hb2))
              rw [← HMZ.out] at HCC
              have HFX := Lib.hid (part_fold hxi HFO.out)
              have HB2 := Lib.hid (HW.out.trans (hb2.mono HW.out.size))
              have HPX := Lib.hid (HPL.out x z hz0)
              clear hxi hlx hb2
              unfold tmV at HCC
              obtain ⟨pz, hpz⟩ : ∃ pz, pz = partsF m x z := ⟨_, rfl⟩
              rw [← hpz] at HCC HPX
              have HPZ := Lib.hid hpz
              clear hpz
              go_wp2_with fail
              refine HCC.out.mono ?_
              rintro e w' ⟨rfl, hb'⟩
              have HB3 := Lib.hid (HB2.out.trans (hb'.mono HB2.out.size))
              clear hb'
              have HSP := Lib.hid (show stepP m z x = pz by unfold stepP; rw [if_neg (by omega), HPZ.out])
              by_cases hneg : pz < 0
              · go_wp2
                go_ret
                exact ⟨ret_int (by rw [HFX.out, HSP.out, fold_neg m _ _ hneg]), HB1.out.trans (HB3.out.mono HB1.out.size)⟩
              · have hpz0 := HPX.out.1
                have hpz1 := HPX.out.2
                go_wp2
                go_roundw
                case rel => exact ⟨pz, k + 1, rfl, by go_num, by omega, by omega, by omega, HB3.out, by rw [HFX.out, HSP.out]⟩
                case measure => simp [intOf]; omega
            · go_wp2
              go_ret
              refine ⟨ret_int ?_, HB1.out.trans (HW.out.mono HB1.out.size)⟩
              rw [HFO.out, List.drop_eq_nil_of_le (by rw [HLL.out]; omega)]; rfl
end Go.Proofs.Ytfknokclemljfaa
