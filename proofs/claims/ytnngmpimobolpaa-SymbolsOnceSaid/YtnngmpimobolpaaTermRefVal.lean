/- Contract of a term's value in the reference. -/
import Derived.Test.YtnngmpimobolpaaTermEval
namespace Go.Proofs.Ytnngmpimobolpaa
open Go.RowKit Mem
set_option linter.unusedVariables false
def RefValPost (o : Option Int) (w : World) (e : Ending) (w' : World) : Prop :=
  ∃ (v : Int) (ok : Bool), e = .returned (.tuple #[.int .u32 v, .bool ok]) ∧ In32 v ∧ ok = o.isSome ∧ (∀ x, o = some x → v = x) ∧ Below w.heap.size w w'
/-- What the reference's value says of formed terms of at most some levels. -/
def RefValAt (names : List ByteArray) (vals : List Int) (d : Nat) : Prop :=
  ∀ (t : Tm) (A AN AV : Option Addr) (c nN cN nV cV : Nat) (w : World), formedF d t = true → Lies w w.heap.size d t (tmCells t A c) → Nms w w.heap.size AN nN names → Ints w w.heap.size AV nV vals → nN ≤ 9223372036854775807 → nV ≤ 9223372036854775807 →
    Calls Try.prog 55 #[tmV t A c, .slice AN nN cN, .slice AV nV cV] w (RefValPost (valF names vals d t) w)
set_option maxRecDepth 100000 in
set_option maxHeartbeats 2000000 in
theorem rval_num (n : Int) (nm : ByteArray) (A AN AV : Option Addr) (c nN cN nV cV : Nat) (w : World) :
    Calls Try.prog 55 #[.agg #[.int .i64 1, .int .i64 n, .string nm, .slice A 0 c], .slice AN nN cN, .slice AV nV cV] w (RefValPost (some (u32 n)) w) := by
  go_enter Try.func55, Try.ntmps55
  go_wp2
  go_ret2
  exact ⟨_, _, rfl, u32_bd n, rfl, fun x hx => by cases hx; rfl, (Below.refl _ _).alloc (Nat.le_refl _) _⟩
set_option maxRecDepth 100000 in
set_option maxHeartbeats 4000000 in
theorem rval_leaf (names : List ByteArray) (vals : List Int) (n : Int) (nm : ByteArray) (A AN AV : Option Addr) (c nN cN nV cV : Nat) (w : World) (hN : Nms w w.heap.size AN nN names) (hV : Ints w w.heap.size AV nV vals) (hn1 : nN ≤ 9223372036854775807) (hn2 : nV ≤ 9223372036854775807) :
    Calls Try.prog 55 #[.agg #[.int .i64 2, .int .i64 n, .string nm, .slice A 0 c], .slice AN nN cN, .slice AV nV cV] w (RefValPost (refV names vals nm) w) := by
  obtain ⟨W, hW⟩ : ∃ W, W = w.alloc (.cells #[.int .i64 2, .int .i64 n, .string nm, .slice A 0 c] 54) := ⟨_, rfl⟩
  have hb0 : Below w.heap.size w W := by rw [hW]; exact (Below.refl _ _).alloc (Nat.le_refl _) _
  have hc2 : W.cell? ⟨w.heap.size, 2, none⟩ = some (.string nm) := by rw [hW]; simp
  have HC2 := Lib.hid hc2
  have HN := Lib.hid (hN.on hb0); have HV := Lib.hid (ints_on hV hb0); have HB := Lib.hid hb0
  have HNL := Lib.hid hN.len; have HVL := Lib.hid hV.len
  clear hN hV hb0 hc2
  go_enter Try.func55, Try.ntmps55
  go_wp2
  rw [← hW]
  clear hW
  go_loopw [8] (fun iv wr => ∃ (k m : Nat), iv = .int .i64 k ∧ k ≤ nN ∧ wr = W.drewN m ∧ NoneAt names nm k) (fun iv _ => nN - (intOf iv).toNat)
  case atStart => exact ⟨0, 0, rfl, by omega, rfl, fun j x h => by omega⟩
  case round =>
    obtain ⟨k, m, rfl, hk, rfl, hno⟩ := hrel
    have HX := Lib.hid hno
    clear hno
    have hc2 : W.cell? ⟨w.heap.size, 2, none⟩ = some (.string nm) := HC2.out
    by_cases hlt : k < nN
    · obtain ⟨ad, z, rfl, hb, hz, hc⟩ := HN.out.get hlt
      have HZ := Lib.hid hz
      clear hz
      have hlt' : (k : Int) < nN := by omega
      cases he : (z.toList == nm.toList) with
      | true =>
        have HI := Lib.hid (refV_some (vals := vals) (place_hit HZ.out (by rw [← tl_beq]; exact he) HX.out))
        by_cases hkv : k < nV
        · obtain ⟨ad2, y, rfl, hb2, hy, hcy⟩ := HV.out.get hkv
          have HY := Lib.hid (show vals.getD k 0 = y by rw [List.getD_eq_getElem?_getD, hy]; rfl)
          clear hy
          go_wp2
          go_quiet (fail)
          go_wp2
          go_ret2
          exact ⟨_, _, rfl, u32_bd y, by rw [HI.out]; rfl, fun x hx => by rw [HI.out, HY.out] at hx; cases hx; rfl, below_drewN HB.out _⟩
        · have HY := Lib.hid (show vals.getD k 0 = 0 by rw [List.getD_eq_getElem?_getD, List.getElem?_eq_none (by have := HVL.out; omega)]; rfl)
          go_wp2
          go_quiet (fail)
          go_wp2
          go_ret2
          exact ⟨_, _, rfl, ⟨by decide, by decide⟩, by rw [HI.out]; rfl, fun x hx => by rw [HI.out, HY.out] at hx; cases hx; rfl, below_drewN HB.out _⟩
      | false =>
        have HI := Lib.hid (noneAt_next HX.out HZ.out (by rw [← tl_beq]; exact he))
        go_wp2
        go_quiet (fail)
        go_wp2
        go_roundw
        case rel => exact ⟨k + 1, _, by go_num, by omega, rfl, HI.out⟩
        case measure => simp [intOf]; omega
    · have HI := Lib.hid (refV_none (vals := vals) (place_miss (l := names) (nm := nm) (fun j x hj hx => HX.out j x (by have := HNL.out; omega) hx)))
      go_wp2
      go_ret2
      exact ⟨_, _, rfl, ⟨by decide, by decide⟩, by rw [HI.out]; rfl, (fun x hx => by rw [HI.out] at hx; cases hx), below_drewN HB.out _⟩
/-- What the call on a part gives, wherever it is made. -/
def RPartAt (W : World) (AN AV : Option Addr) (nN cN nV cV : Nat) (op n : Int) (nm : ByteArray) (A : Option Addr) (L c : Nat) (o : Option Int) : Prop :=
  ∀ w1, Below W.heap.size W w1 → Calls Try.prog 55 #[.agg #[.int .i64 op, .int .i64 n, .string nm, .slice A L c], .slice AN nN cN, .slice AV nV cV] w1 (RefValPost o w1)
set_option maxRecDepth 100000 in
set_option maxHeartbeats 4000000 in
theorem rval_one (op n : Int) (nm : ByteArray) (ad : Addr) (AN AV : Option Addr) (c nN cN nV cV : Nat) (op1 n1 : Int) (nm1 : ByteArray) (A1 : Option Addr) (L1 c1 : Nat) (o : Option Int) (w : World) (hop : op = 3 ∨ op = 4) (p : Addr) (hp : ad.add (0 * 4) = p) (hpb : p.block < w.heap.size)
    (k0 : w.cell? p = some (.int .i64 op1)) (k1 : w.cell? ⟨p.block, p.off + 1, none⟩ = some (.int .i64 n1)) (k2 : w.cell? ⟨p.block, p.off + 2, none⟩ = some (.string nm1)) (k3 : w.cell? ⟨p.block, p.off + 3, none⟩ = some (.slice A1 L1 c1))
    (hpart : RPartAt w AN AV nN cN nV cV op1 n1 nm1 A1 L1 c1 o) :
    Calls Try.prog 55 #[.agg #[.int .i64 op, .int .i64 n, .string nm, .slice (some ad) 1 c], .slice AN nN cN, .slice AV nV cV] w (RefValPost (o.map (unV op)) w) := by
  obtain ⟨W, hW⟩ : ∃ W, W = w.alloc (.cells #[.int .i64 op, .int .i64 n, .string nm, .slice (some ad) 1 c] 54) := ⟨_, rfl⟩
  have hb0 : Below w.heap.size w W := by rw [hW]; exact (Below.refl _ _).alloc (Nat.le_refl _) _
  have k0' := (hb0.cell (p := p) hpb).trans k0
  have k1' := (hb0.cell (p := ⟨p.block, p.off + 1, none⟩) hpb).trans k1
  have k2' := (hb0.cell (p := ⟨p.block, p.off + 2, none⟩) hpb).trans k2
  have k3' := (hb0.cell (p := ⟨p.block, p.off + 3, none⟩) hpb).trans k3
  have z0 : W.cell? ⟨w.heap.size, 0, none⟩ = some (.int .i64 op) := by rw [hW]; simp
  have hz0 : W.heap.size = w.heap.size + 1 := by rw [hW]; simp
  have HZ := Lib.hid z0; have HZ0 := Lib.hid hz0
  have HP := Lib.hid (hpart _ hb0)
  have HB0 := Lib.hid hb0
  rw [hW] at k0' k1' k2' k3'
  clear k0 k1 k2 k3 hpart hb0 z0 hz0
  have t1 : (op == 1) = false := by rw [beq_eq_false_iff_ne]; omega
  have t2 : (op == 2) = false := by rw [beq_eq_false_iff_ne]; omega
  go_enter Try.func55, Try.ntmps55
  go_wp2_with fail
  rw [← hW]
  clear k0' k1' k2' k3' hW
  refine HP.out.mono ?_
  rintro e w1 ⟨v, ok, rfl, hv, hok, hvx, hb⟩
  have HB := Lib.hid (HB0.out.trans (hb.mono HB0.out.size))
  have q0 := (hb.cell (p := ⟨w.heap.size, 0, none⟩) (by rw [HZ0.out]; simp)).trans HZ.out
  have HV := Lib.hid hv; have HOK := Lib.hid hok; have HVX := Lib.hid hvx
  clear hb hv hok hvx
  rcases hop with rfl | rfl
  · go_wp2
    go_ret2
    exact ⟨_, _, rfl, u32_bd (-v), by rw [HOK.out]; cases o <;> rfl, (fun x hx => by
      cases o with
      | none => cases hx
      | some y => cases hx; rw [HVX.out y rfl]; unfold unV u32; rw [if_pos rfl]), HB.out⟩
  · have hx := xor_ones v HV.out.1 HV.out.2
    go_wp2
    go_ret2
    exact ⟨_, _, rfl, ⟨by have := HV.out.2; omega, by have := HV.out.1; omega⟩, by rw [HOK.out]; cases o <;> rfl, (fun x hx => by
      cases o with
      | none => cases hx
      | some y => cases hx; rw [HVX.out y rfl]; unfold unV; rw [if_neg (by decide)]), HB.out⟩
set_option maxRecDepth 100000 in
set_option maxHeartbeats 8000000 in
theorem rval_two (op n : Int) (nm : ByteArray) (ad : Addr) (AN AV : Option Addr) (c nN cN nV cV : Nat) (op1 n1 : Int) (nm1 : ByteArray) (A1 : Option Addr) (L1 c1 : Nat) (o1 : Option Int) (op2 n2 : Int) (nm2 : ByteArray) (A2 : Option Addr) (L2 c2 : Nat) (o2 : Option Int) (w : World) (hop : 5 ≤ op ∧ op ≤ 11)
    (p q : Addr) (hp : ad.add (0 * 4) = p) (hpb : p.block < w.heap.size) (hq : ad.add (1 * 4) = q) (hqb : q.block < w.heap.size)
    (k0 : w.cell? p = some (.int .i64 op1)) (k1 : w.cell? ⟨p.block, p.off + 1, none⟩ = some (.int .i64 n1)) (k2 : w.cell? ⟨p.block, p.off + 2, none⟩ = some (.string nm1)) (k3 : w.cell? ⟨p.block, p.off + 3, none⟩ = some (.slice A1 L1 c1))
    (g0 : w.cell? q = some (.int .i64 op2)) (g1 : w.cell? ⟨q.block, q.off + 1, none⟩ = some (.int .i64 n2)) (g2 : w.cell? ⟨q.block, q.off + 2, none⟩ = some (.string nm2)) (g3 : w.cell? ⟨q.block, q.off + 3, none⟩ = some (.slice A2 L2 c2))
    (hpart1 : RPartAt w AN AV nN cN nV cV op1 n1 nm1 A1 L1 c1 o1) (hpart2 : RPartAt w AN AV nN cN nV cV op2 n2 nm2 A2 L2 c2 o2) :
    Calls Try.prog 55 #[.agg #[.int .i64 op, .int .i64 n, .string nm, .slice (some ad) 2 c], .slice AN nN cN, .slice AV nV cV] w (RefValPost (binO op o1 o2) w) := by
  obtain ⟨W, hW⟩ : ∃ W, W = w.alloc (.cells #[.int .i64 op, .int .i64 n, .string nm, .slice (some ad) 2 c] 54) := ⟨_, rfl⟩
  have hb0 : Below w.heap.size w W := by rw [hW]; exact (Below.refl _ _).alloc (Nat.le_refl _) _
  have k0' := (hb0.cell (p := p) hpb).trans k0
  have k1' := (hb0.cell (p := ⟨p.block, p.off + 1, none⟩) hpb).trans k1
  have k2' := (hb0.cell (p := ⟨p.block, p.off + 2, none⟩) hpb).trans k2
  have k3' := (hb0.cell (p := ⟨p.block, p.off + 3, none⟩) hpb).trans k3
  have z0 : W.cell? ⟨w.heap.size, 0, none⟩ = some (.int .i64 op) := by rw [hW]; simp
  have z3 : W.cell? ⟨w.heap.size, 3, none⟩ = some (.slice (some ad) 2 c) := by rw [hW]; simp
  have hz0 : W.heap.size = w.heap.size + 1 := by rw [hW]; simp
  have HZ := Lib.hid z0; have HZ3 := Lib.hid z3; have HZ0 := Lib.hid hz0
  have HP := Lib.hid (hpart1 _ hb0); have HP2 := Lib.hid hpart2
  have HB0 := Lib.hid hb0
  have G0 := Lib.hid g0; have G1 := Lib.hid g1; have G2 := Lib.hid g2; have G3 := Lib.hid g3
  rw [hW] at k0' k1' k2' k3'
  clear k0 k1 k2 k3 g0 g1 g2 g3 hpart1 hpart2 hb0 z0 z3 hz0
  have t1 : (op == 1) = false := by rw [beq_eq_false_iff_ne]; omega
  have t2 : (op == 2) = false := by rw [beq_eq_false_iff_ne]; omega
  have t3 : (op == 3) = false := by rw [beq_eq_false_iff_ne]; omega
  have t4 : (op == 4) = false := by rw [beq_eq_false_iff_ne]; omega
  go_enter Try.func55, Try.ntmps55
  go_wp2_with fail
  rw [← hW]
  clear k0' k1' k2' k3' hW
  refine HP.out.mono ?_
  rintro e w1 ⟨v, ok, rfl, hv, hok, hvx, hb⟩
  have hbw := HB0.out.trans (hb.mono HB0.out.size)
  have HB := Lib.hid hbw
  have q0 := (hb.cell (p := ⟨w.heap.size, 0, none⟩) (by rw [HZ0.out]; simp)).trans HZ.out
  have q3 := (hb.cell (p := ⟨w.heap.size, 3, none⟩) (by rw [HZ0.out]; simp)).trans HZ3.out
  have hs1 : w.heap.size < w1.heap.size := by have := hb.size; rw [HZ0.out] at this; omega
  have g0' := (hbw.cell (p := q) hqb).trans G0.out
  have g1' := (hbw.cell (p := ⟨q.block, q.off + 1, none⟩) hqb).trans G1.out
  have g2' := (hbw.cell (p := ⟨q.block, q.off + 2, none⟩) hqb).trans G2.out
  have g3' := (hbw.cell (p := ⟨q.block, q.off + 3, none⟩) hqb).trans G3.out
  have HP3 := Lib.hid (HP2.out w1 hbw)
  have HQ0 := Lib.hid q0
  have HV := Lib.hid hv; have HOK := Lib.hid hok; have HVX := Lib.hid hvx
  clear hb hv hok hvx hbw HP2 HP
  go_wp2_with fail
  refine HP3.out.mono ?_
  rintro e w2 ⟨y, ok2, rfl, hy, hok2, hyx, hb⟩
  have HB2 := Lib.hid (HB.out.trans (hb.mono HB.out.size))
  clear g0' g1' g2' g3' q0 q3
  have r0 := (hb.cell (p := ⟨w.heap.size, 0, none⟩) hs1).trans HQ0.out
  have HY := Lib.hid hy; have HOK2 := Lib.hid hok2; have HYX := Lib.hid hyx
  have y0 := HY.out.1
  clear hb hy hok2 hyx
  have hcase : op = 5 ∨ op = 6 ∨ op = 7 ∨ op = 8 ∨ op = 9 ∨ op = 10 ∨ op = 11 := by omega
  have FIN := Lib.hid (show ∀ b, b = (ok && ok2) → RefValPost (binO op o1 o2) w (.returned (.tuple #[.int .u32 (binV op v y), .bool b])) w2 from fun b hb => ⟨_, _, rfl, bin_bd HV.out HY.out, by
      rw [hb, HOK.out, HOK2.out]; cases o1 <;> cases o2 <;> rfl, (fun x hx => by
      cases o1 with
      | none => cases hx
      | some a =>
        cases o2 with
        | none => cases hx
        | some b => cases hx; rw [HVX.out a rfl, HYX.out b rfl]), HB2.out⟩)
  clear hop t1 t2 t3 t4
  rcases hcase with rfl | rfl | rfl | rfl | rfl | rfl | rfl
  all_goals
    cases ok with
    | true =>
      go_wp2
      go_ret2
      exact FIN.out _ rfl
    | false =>
      go_wp2
      go_ret2
      exact FIN.out _ rfl
end Go.Proofs.Ytnngmpimobolpaa
