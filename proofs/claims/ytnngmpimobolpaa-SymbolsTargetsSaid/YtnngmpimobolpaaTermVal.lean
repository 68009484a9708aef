/- Contract of a term's value in the program: it returns the value, or panics with ErrName. -/
import Derived.Test.YtnngmpimobolpaaTermDeep
import Derived.Test.YtnngmpimobolpaaNames
namespace Go.Proofs.Ytnngmpimobolpaa
open Go.RowKit Mem
set_option linter.unusedVariables false
def errV (n : Int) : Value := .iface 35 (.int .i64 n)
def ValPost (o : Option Int) (w : World) (e : Ending) (w' : World) : Prop :=
  (match o with | some v => e = .returned (.int .u32 v) | none => e = .panicked [{ v := errV 4, recovered := false }]) ∧ Below w.heap.size w w'
/-- What value's contract says of formed terms of at most some levels. -/
def ValAt (names : List ByteArray) (vals : List Int) (d : Nat) : Prop :=
  ∀ (t : Tm) (A AN AV : Option Addr) (c nN cN nV cV : Nat) (w : World), formedF d t = true → Lies w w.heap.size d t (tmCells t A c) → Nms w w.heap.size AN nN names → Ints w w.heap.size AV nV vals → nN ≤ 9223372036854775807 → nV ≤ 9223372036854775807 →
    Calls Try.prog 52 #[.agg #[.slice AN nN cN, .slice AV nV cV], tmV t A c] w (ValPost (valF names vals d t) w)
theorem bcell {W w1 : World} (hb : Below W.heap.size W w1) : (∀ b o, b < W.heap.size → w1.cell? ⟨b, o, none⟩ = W.cell? ⟨b, o, none⟩) ∧ (∀ b o, b < W.heap.size → w1.frozen? ⟨b, o, none⟩ = W.frozen? ⟨b, o, none⟩) :=
  ⟨fun b o h => hb.cell (p := ⟨b, o, none⟩) h, fun b o h => hb.frozen (p := ⟨b, o, none⟩) h⟩
abbrev box3 (w : World) (AN AV A : Option Addr) (nN cN nV cV L c : Nat) (op n : Int) (nm : ByteArray) : World :=
  ((w.alloc (.cells #[.slice AN nN cN, .slice AV nV cV] 86)).alloc (.cells #[.int .i64 op, .int .i64 n, .string nm, .slice A L c] 54)).alloc (.cells #[.int .u32 0, .int .u32 0] 92)
theorem box3_below (w : World) (AN AV A : Option Addr) (nN cN nV cV L c : Nat) (op n : Int) (nm : ByteArray) : Below w.heap.size w (box3 w AN AV A nN cN nV cV L c op n nm) :=
  (((Below.refl _ _).alloc (Nat.le_refl _) _).alloc (by simp) _).alloc (by simp; omega) _
theorem place_none {l : List ByteArray} {nm : ByteArray} (h : l.findIdx? (· == nm) = none) : placeI l nm = -1 := by unfold placeI; rw [h]
theorem place_some {l : List ByteArray} {nm : ByteArray} {i : Nat} (h : l.findIdx? (· == nm) = some i) : placeI l nm = i := by unfold placeI; rw [h]
theorem refV_none {names : List ByteArray} {vals : List Int} {nm : ByteArray} (h : names.findIdx? (· == nm) = none) : refV names vals nm = none := by unfold refV; rw [h]
theorem refV_some {names : List ByteArray} {vals : List Int} {nm : ByteArray} {i : Nat} (h : names.findIdx? (· == nm) = some i) : refV names vals nm = some (u32 (vals.getD i 0)) := by unfold refV; rw [h]
set_option maxRecDepth 100000 in
set_option maxHeartbeats 2000000 in
theorem val_num (n : Int) (nm : ByteArray) (A AN AV : Option Addr) (c nN cN nV cV : Nat) (w : World) :
    Calls Try.prog 52 #[.agg #[.slice AN nN cN, .slice AV nV cV], .agg #[.int .i64 1, .int .i64 n, .string nm, .slice A 0 c]] w (ValPost (some (u32 n)) w) := by
  have HB := Lib.hid (box3_below w AN AV A nN cN nV cV 0 c 1 n nm)
  unfold box3 at HB
  go_enter Try.func52, Try.ntmps52
  go_wp2
  refine wp_loop_rounds 1 ?_
  rw [rounds_succ]
  go_wp2
  go_ret
  exact ⟨rfl, HB.out⟩
set_option maxRecDepth 100000 in
set_option maxHeartbeats 4000000 in
theorem val_leaf (names : List ByteArray) (vals : List Int) (n : Int) (nm : ByteArray) (A AN AV : Option Addr) (c nN cN nV cV : Nat) (w : World) (hN : Nms w w.heap.size AN nN names) (hV : Ints w w.heap.size AV nV vals) (hn1 : nN ≤ 9223372036854775807) (hn2 : nV ≤ 9223372036854775807) :
    Calls Try.prog 52 #[.agg #[.slice AN nN cN, .slice AV nV cV], .agg #[.int .i64 2, .int .i64 n, .string nm, .slice A 0 c]] w (ValPost (refV names vals nm) w) := by
  have hb0 := box3_below w AN AV A nN cN nV cV 0 c 2 n nm
  have HN := Lib.hid (hN.on hb0); have HV := Lib.hid (ints_on hV hb0)
  have hnl := hN.len
  have HB := Lib.hid hb0
  unfold box3 at HB HN HV
  have HVL := Lib.hid hV.len
  clear hN hV hb0
  cases hf : names.findIdx? (· == nm) with
  | none =>
    have HP := Lib.hid (place_none hf); have HR := Lib.hid (refV_none (vals := vals) hf)
    clear hf
    go_enter Try.func52, Try.ntmps52
    go_wp2
    refine wp_loop_rounds 1 ?_
    rw [rounds_succ]
    go_wp2_with fail
    refine (str_Index _ _ _ names _ _ HN.out (by omega)).mono ?_
    rintro e w1 ⟨rfl, rfl⟩
    rw [HP.out]
    go_wp2
    exact ⟨rfl, by rw [HR.out]; exact ⟨rfl, HB.out⟩⟩
  | some i =>
    have hi : i < names.length := (List.findIdx?_eq_some_iff_getElem.1 hf).1
    have HP := Lib.hid (place_some hf); have HR := Lib.hid (refV_some (vals := vals) hf)
    clear hf
    have hneg : decide ((i : Int) < 0) = false := by rw [decide_eq_false_iff_not]; omega
    by_cases hiv : i < nV
    · obtain ⟨ad, z, rfl, hb, hz, hc⟩ := HV.out.get hiv
      have HZ := Lib.hid (show vals.getD i 0 = z by rw [List.getD_eq_getElem?_getD, hz]; rfl)
      clear hz
      go_enter Try.func52, Try.ntmps52
      go_wp2
      refine wp_loop_rounds 1 ?_
      rw [rounds_succ]
      go_wp2_with fail
      refine (str_Index _ _ _ names _ _ HN.out (by omega)).mono ?_
      rintro e w1 ⟨rfl, rfl⟩
      rw [HP.out]
      go_wp2
      go_ret
      exact ⟨by rw [HR.out, HZ.out]; rfl, HB.out⟩
    · have HZ := Lib.hid (show vals.getD i 0 = 0 by rw [List.getD_eq_getElem?_getD, List.getElem?_eq_none (by have := HVL.out; omega)]; rfl)
      go_enter Try.func52, Try.ntmps52
      go_wp2
      refine wp_loop_rounds 1 ?_
      rw [rounds_succ]
      go_wp2_with fail
      refine (str_Index _ _ _ names _ _ HN.out (by omega)).mono ?_
      rintro e w1 ⟨rfl, rfl⟩
      rw [HP.out]
      go_wp2
      go_ret
      exact ⟨by rw [HR.out, HZ.out]; rfl, HB.out⟩
/-- What the call on a part gives, wherever it is made. -/
def PartAt (W : World) (AN AV : Option Addr) (nN cN nV cV : Nat) (op n : Int) (nm : ByteArray) (A : Option Addr) (L c : Nat) (o : Option Int) : Prop :=
  ∀ w1, Below W.heap.size W w1 → Calls Try.prog 52 #[.agg #[.slice AN nN cN, .slice AV nV cV], .agg #[.int .i64 op, .int .i64 n, .string nm, .slice A L c]] w1 (ValPost o w1)
set_option maxRecDepth 100000 in
set_option maxHeartbeats 4000000 in
theorem val_one (op n : Int) (nm : ByteArray) (ad : Addr) (AN AV : Option Addr) (c nN cN nV cV : Nat) (op1 n1 : Int) (nm1 : ByteArray) (A1 : Option Addr) (L1 c1 : Nat) (o : Option Int) (w : World) (hop : op = 3 ∨ op = 4) (p : Addr) (hp : ad.add (0 * 4) = p) (hpb : p.block < w.heap.size)
    (k0 : w.cell? p = some (.int .i64 op1)) (k1 : w.cell? ⟨p.block, p.off + 1, none⟩ = some (.int .i64 n1)) (k2 : w.cell? ⟨p.block, p.off + 2, none⟩ = some (.string nm1)) (k3 : w.cell? ⟨p.block, p.off + 3, none⟩ = some (.slice A1 L1 c1))
    (hpart : PartAt w AN AV nN cN nV cV op1 n1 nm1 A1 L1 c1 o) (ho : ∀ v, o = some v → In32 v) :
    Calls Try.prog 52 #[.agg #[.slice AN nN cN, .slice AV nV cV], .agg #[.int .i64 op, .int .i64 n, .string nm, .slice (some ad) 1 c]] w (ValPost (o.map (unV op)) w) := by
  have hb0 := box3_below w AN AV (some ad) nN cN nV cV 1 c op n nm
  have k0' := (hb0.cell (p := p) hpb).trans k0
  have k1' := (hb0.cell (p := ⟨p.block, p.off + 1, none⟩) hpb).trans k1
  have k2' := (hb0.cell (p := ⟨p.block, p.off + 2, none⟩) hpb).trans k2
  have k3' := (hb0.cell (p := ⟨p.block, p.off + 3, none⟩) hpb).trans k3
  have hb1 := hb0.alloc hb0.size (.cells #[.int .i64 op1, .int .i64 n1, .string nm1, .slice A1 L1 c1] 54)
  have HP := Lib.hid (hpart _ hb1)
  have HB1 := Lib.hid hb1
  unfold box3 at HP HB1 k0' k1' k2' k3'
  clear k0 k1 k2 k3 hpart hb0 hb1
  have t1 : (op == 1) = false := by rw [beq_eq_false_iff_ne]; omega
  have t2 : (op == 2) = false := by rw [beq_eq_false_iff_ne]; omega
  go_enter Try.func52, Try.ntmps52
  go_wp2
  refine wp_loop_rounds 2 ?_
  rw [rounds_succ]
  go_wp2_with fail
  refine HP.out.mono ?_
  clear k0' k1' k2' k3'
  rintro e w1 ⟨he, hb⟩
  have HB := Lib.hid (HB1.out.trans (hb.mono HB1.out.size))
  cases o with
  | none =>
    simp only at he
    subst he
    go_wp2
    exact ⟨rfl, rfl, HB.out⟩
  | some v =>
    simp only at he
    subst he
    obtain ⟨hc, hf⟩ := bcell hb
    have hz : w.heap.size + 3 < w1.heap.size := by have := hb.size; simp at this; omega
    clear hb
    go_wp2
    rw [rounds_succ]
    have HV := Lib.hid (ho v rfl)
    clear ho
    rcases hop with rfl | rfl
    · go_wp2
      go_ret
      exact ⟨ret_int (by unfold unV u32; rw [if_pos rfl]), HB.out.setCell (by simp; omega) _⟩
    · go_wp2
      go_ret
      exact ⟨ret_int (by unfold unV; rw [if_neg (by decide)]; exact xor_max v HV.out.1 HV.out.2), HB.out.setCell (by simp; omega) _⟩
set_option maxRecDepth 100000 in
set_option maxHeartbeats 8000000 in
theorem val_two (op n : Int) (nm : ByteArray) (ad : Addr) (AN AV : Option Addr) (c nN cN nV cV : Nat) (op1 n1 : Int) (nm1 : ByteArray) (A1 : Option Addr) (L1 c1 : Nat) (o1 : Option Int) (op2 n2 : Int) (nm2 : ByteArray) (A2 : Option Addr) (L2 c2 : Nat) (o2 : Option Int) (w : World) (hop : 5 ≤ op ∧ op ≤ 11)
    (p q : Addr) (hp : ad.add (0 * 4) = p) (hpb : p.block < w.heap.size) (hq : ad.add (1 * 4) = q) (hqb : q.block < w.heap.size)
    (k0 : w.cell? p = some (.int .i64 op1)) (k1 : w.cell? ⟨p.block, p.off + 1, none⟩ = some (.int .i64 n1)) (k2 : w.cell? ⟨p.block, p.off + 2, none⟩ = some (.string nm1)) (k3 : w.cell? ⟨p.block, p.off + 3, none⟩ = some (.slice A1 L1 c1))
    (g0 : w.cell? q = some (.int .i64 op2)) (g1 : w.cell? ⟨q.block, q.off + 1, none⟩ = some (.int .i64 n2)) (g2 : w.cell? ⟨q.block, q.off + 2, none⟩ = some (.string nm2)) (g3 : w.cell? ⟨q.block, q.off + 3, none⟩ = some (.slice A2 L2 c2))
    (hpart1 : PartAt w AN AV nN cN nV cV op1 n1 nm1 A1 L1 c1 o1) (hpart2 : PartAt w AN AV nN cN nV cV op2 n2 nm2 A2 L2 c2 o2) (ho1 : ∀ v, o1 = some v → In32 v) (ho2 : ∀ v, o2 = some v → In32 v) :
    Calls Try.prog 52 #[.agg #[.slice AN nN cN, .slice AV nV cV], .agg #[.int .i64 op, .int .i64 n, .string nm, .slice (some ad) 2 c]] w (ValPost (binO op o1 o2) w) := by
  have hb0 := box3_below w AN AV (some ad) nN cN nV cV 2 c op n nm
  have k0' := (hb0.cell (p := p) hpb).trans k0
  have k1' := (hb0.cell (p := ⟨p.block, p.off + 1, none⟩) hpb).trans k1
  have k2' := (hb0.cell (p := ⟨p.block, p.off + 2, none⟩) hpb).trans k2
  have k3' := (hb0.cell (p := ⟨p.block, p.off + 3, none⟩) hpb).trans k3
  have hb1 := hb0.alloc hb0.size (.cells #[.int .i64 op1, .int .i64 n1, .string nm1, .slice A1 L1 c1] 54)
  have HP := Lib.hid (hpart1 _ hb1)
  have HP2 := Lib.hid hpart2
  have HB1 := Lib.hid hb1
  have G0 := Lib.hid g0; have G1 := Lib.hid g1; have G2 := Lib.hid g2; have G3 := Lib.hid g3
  unfold box3 at HP HB1 k0' k1' k2' k3'
  clear k0 k1 k2 k3 g0 g1 g2 g3 hpart1 hpart2 hb0 hb1
  have t1 : (op == 1) = false := by rw [beq_eq_false_iff_ne]; omega
  have t2 : (op == 2) = false := by rw [beq_eq_false_iff_ne]; omega
  have t3 : (op == 3) = false := by rw [beq_eq_false_iff_ne]; omega
  have t4 : (op == 4) = false := by rw [beq_eq_false_iff_ne]; omega
  go_enter Try.func52, Try.ntmps52
  go_wp2
  refine wp_loop_rounds 3 ?_
  rw [rounds_succ]
  go_wp2_with fail
  refine HP.out.mono ?_
  clear k0' k1' k2' k3'
  rintro e w1 ⟨he, hb⟩
  have HB := Lib.hid (HB1.out.trans (hb.mono HB1.out.size))
  cases o1 with
  | none =>
    simp only at he
    subst he
    go_wp2
    exact ⟨rfl, rfl, HB.out⟩
  | some v =>
    simp only at he
    subst he
    obtain ⟨hc, hf⟩ := bcell hb
    have hz : w.heap.size + 3 < w1.heap.size := by have := hb.size; simp at this; omega
    have m0 : w1.cell? ⟨w.heap.size, 0, none⟩ = some (.slice AN nN cN) := by rw [hc _ _ (by simp <;> omega)]; simp [go_sem]
    have m1 : w1.cell? ⟨w.heap.size, 1, none⟩ = some (.slice AV nV cV) := by rw [hc _ _ (by simp <;> omega)]; simp [go_sem]
    have m2 : w1.cell? ⟨w.heap.size + 1, 0, none⟩ = some (.int .i64 op) := by rw [hc _ _ (by simp <;> omega)]; simp [go_sem]
    have m3 : w1.cell? ⟨w.heap.size + 1 + 1, 1, none⟩ = some (.int .u32 0) := by rw [hc _ _ (by simp)]; simp [go_sem]
    have m5 : w1.cell? ⟨w.heap.size + 1 + 1, 0, none⟩ = some (.int .u32 0) := by rw [hc _ _ (by simp)]; simp [go_sem]
    have m4 : w1.frozen? ⟨w.heap.size + 1 + 1, 1, none⟩ = false := by rw [hf _ _ (by simp)]; simp [go_sem]
    have HV1 := Lib.hid (ho1 v rfl); have HO2 := Lib.hid ho2
    clear hb HP ho1 ho2
    go_wp2
    obtain ⟨W1, hW1⟩ : ∃ W1, W1 = w1.setCell ⟨w.heap.size + 1 + 1, 0, none⟩ (.int .u32 v) := ⟨_, rfl⟩
    have hb2 := HB.out.setCell (p := ⟨w.heap.size + 1 + 1, 0, none⟩) (by simp <;> omega) (.int .u32 v)
    have s0 : W1.cell? ⟨w.heap.size, 0, none⟩ = some (.slice AN nN cN) := by rw [hW1, World.cell?_setCell_other _ _ _ _ (by simp <;> omega)]; exact m0
    have s1 : W1.cell? ⟨w.heap.size, 1, none⟩ = some (.slice AV nV cV) := by rw [hW1, World.cell?_setCell_other _ _ _ _ (by simp <;> omega)]; exact m1
    have s2 : W1.cell? ⟨w.heap.size + 1, 0, none⟩ = some (.int .i64 op) := by rw [hW1, World.cell?_setCell_other _ _ _ _ (by simp)]; exact m2
    have s3 : W1.cell? ⟨w.heap.size + 1 + 1, 1, none⟩ = some (.int .u32 0) := by rw [hW1, World.cell?_setCell_other _ _ _ _ (by simp)]; exact m3
    have s4 : W1.frozen? ⟨w.heap.size + 1 + 1, 1, none⟩ = false := by rw [hW1, World.frozen?_setCell]; exact m4
    have s5 : W1.cell? ⟨w.heap.size + 1 + 1, 0, none⟩ = some (.int .u32 v) := by rw [hW1]; exact World.cell?_setCell_same _ _ _ m5
    rw [← hW1] at hb2 ⊢
    have hz2 : w.heap.size + 3 < W1.heap.size := by rw [hW1]; simpa using hz
    have g0' := (hb2.cell (p := q) hqb).trans G0.out
    have g1' := (hb2.cell (p := ⟨q.block, q.off + 1, none⟩) hqb).trans G1.out
    have g2' := (hb2.cell (p := ⟨q.block, q.off + 2, none⟩) hqb).trans G2.out
    have g3' := (hb2.cell (p := ⟨q.block, q.off + 3, none⟩) hqb).trans G3.out
    have hb3 := hb2.alloc hb2.size (.cells #[.int .i64 op2, .int .i64 n2, .string nm2, .slice A2 L2 c2] 54)
    have s0' := (World.cell?_alloc_lt W1 (.cells #[.int .i64 op2, .int .i64 n2, .string nm2, .slice A2 L2 c2] 54) ⟨w.heap.size, 0, none⟩ (by simp <;> omega)).trans s0
    have s1' := (World.cell?_alloc_lt W1 (.cells #[.int .i64 op2, .int .i64 n2, .string nm2, .slice A2 L2 c2] 54) ⟨w.heap.size, 1, none⟩ (by simp <;> omega)).trans s1
    have HP3 := Lib.hid (HP2.out _ hb3)
    have HB3 := Lib.hid hb3
    clear hb2 hb3 HP2 hc hf m0 m1 m2 m3 m4 m5 hz hW1
    rw [rounds_succ]
    go_wp2_with fail
    refine HP3.out.mono ?_
    rintro e w2 ⟨he, hb⟩
    have HB4 := Lib.hid (HB3.out.trans (hb.mono HB3.out.size))
    clear g0' g1' g2' g3' s0' s1'
    cases o2 with
    | none =>
      simp only at he
      subst he
      go_wp2
      exact ⟨rfl, rfl, HB4.out⟩
    | some y =>
      simp only at he
      subst he
      have q2 : w2.cell? ⟨w.heap.size + 1, 0, none⟩ = some (.int .i64 op) := by rw [hb.cell (by simp <;> omega), World.cell?_alloc_lt _ _ _ (by simp <;> omega)]; exact s2
      have q3 : w2.cell? ⟨w.heap.size + 1 + 1, 1, none⟩ = some (.int .u32 0) := by rw [hb.cell (by simp <;> omega), World.cell?_alloc_lt _ _ _ (by simp <;> omega)]; exact s3
      have q5 : w2.cell? ⟨w.heap.size + 1 + 1, 0, none⟩ = some (.int .u32 v) := by rw [hb.cell (by simp <;> omega), World.cell?_alloc_lt _ _ _ (by simp <;> omega)]; exact s5
      have q4 : w2.frozen? ⟨w.heap.size + 1 + 1, 1, none⟩ = false := by rw [hb.frozen (by simp <;> omega)]; exact (World.frozen?_of_block (w := W1) (Below.heap_alloc W1 _ _ (by simp <;> omega))).trans s4
      have HV2 := Lib.hid (HO2.out y rfl)
      have y0 := HV2.out.1
      clear hb HP3 s0 s1 s2 s3 s4 s5 HO2
      go_wp2
      rw [rounds_succ]
      have hcase : op = 5 ∨ op = 6 ∨ op = 7 ∨ op = 8 ∨ op = 9 ∨ op = 10 ∨ op = 11 := by omega
      clear hop t1 t2 t3 t4
      rcases hcase with rfl | rfl | rfl | rfl | rfl | rfl | rfl
      all_goals
        go_wp2
        go_ret
        exact ⟨ret_int (by simp [binV, u32]), HB4.out.setCell (by simp <;> omega) _⟩
theorem zero_args {t : Tm} (h : t.args.length = 0) : t.args = [] := List.eq_nil_of_length_eq_zero h
theorem one_arg {t : Tm} (h : t.args.length = 1) : ∃ a, t.args = [a] := by
  match e : t.args, h with
  | [a], _ => exact ⟨a, rfl⟩
theorem two_args {t : Tm} (h : t.args.length = 2) : ∃ a b, t.args = [a, b] := by
  match e : t.args, h with
  | [a, b], _ => exact ⟨a, b, rfl⟩
/-- The value of a formed term of whatever depth. -/
theorem val_at (names : List ByteArray) (vals : List Int) : ∀ (d : Nat), ValAt names vals d
  | 0 => fun t A AN AV c nN cN nV cV w hf hl => hl.elim
  | d + 1 => by
    have ih := val_at names vals d
    intro t A AN AV c nN cN nV cV w hf hl hN hV hn1 hn2
    obtain ⟨hfb, hfa⟩ := formed_part hf
    have part : ∀ (i : Nat) (x : Tm) (A' : Option Addr) (c' : Nat), t.args[i]? = some x → Lies w w.heap.size d x (tmCells x A' c') → PartAt w AN AV nN cN nV cV x.op x.n x.name A' x.args.length c' (valF names vals d x) := fun i x A' c' hx hlx w1 hb1 =>
      ih x A' AN AV c' nN cN nV cV w1 (hfa x (List.mem_of_getElem? hx)) (hlx.on hb1) (hN.on hb1) (ints_on hV hb1) hn1 hn2
    rcases form_args hfb with ⟨h0, ho⟩ | ⟨h0, ho⟩ | ⟨h1, ho⟩ | ⟨h2, ho⟩
    · have ha := zero_args h0
      have e : valF names vals (d + 1) t = some (u32 t.n) := by simp only [valF, ha]; rw [if_pos ho]
      rw [e]
      unfold tmV
      rw [ho, h0]
      exact val_num t.n t.name A AN AV c nN cN nV cV w
    · have ha := zero_args h0
      have e : valF names vals (d + 1) t = refV names vals t.name := by simp only [valF, ha]; rw [if_neg (by omega)]
      rw [e]
      unfold tmV
      rw [ho, h0]
      exact val_leaf names vals t.n t.name A AN AV c nN cN nV cV w hN hV hn1 hn2
    · obtain ⟨a, ha⟩ := one_arg h1
      obtain ⟨ad, p, x, A', c', rfl, hp, hpb, hxi, hlx, k0, k1, k2, k3⟩ := hl.part (i := 0) (by omega)
      have hxa : x = a := by rw [ha] at hxi; exact (Option.some.inj hxi).symm
      have e : valF names vals (d + 1) t = (valF names vals d x).map (unV t.op) := by simp only [valF, ha, hxa]
      rw [e]
      unfold tmV
      rw [h1]
      exact val_one t.op t.n t.name ad AN AV c nN cN nV cV x.op x.n x.name A' x.args.length c' _ w ho p hp hpb k0 k1 k2 k3 (part 0 x A' c' hxi hlx) (fun v hv => val_bd hv)
    · obtain ⟨a, b, ha⟩ := two_args h2
      obtain ⟨ad, p, x, A', c', eA, hp, hpb, hxi, hlx, k0, k1, k2, k3⟩ := hl.part (i := 0) (by omega)
      obtain ⟨ad2, q, y, A2, c2, eA2, hq, hqb, hyi, hly, g0, g1, g2, g3⟩ := hl.part (i := 1) (by omega)
      subst eA
      cases eA2
      have hxa : x = a := by rw [ha] at hxi; exact (Option.some.inj hxi).symm
      have hyb : y = b := by rw [ha] at hyi; exact (Option.some.inj hyi).symm
      have e : valF names vals (d + 1) t = binO t.op (valF names vals d x) (valF names vals d y) := by simp only [valF, ha, hxa, hyb]
      rw [e]
      unfold tmV
      rw [h2]
      exact val_two t.op t.n t.name ad AN AV c nN cN nV cV x.op x.n x.name A' x.args.length c' _ y.op y.n y.name A2 y.args.length c2 _ w ho p q hp hpb hq hqb k0 k1 k2 k3 g0 g1 g2 g3 (part 0 x A' c' hxi hlx) (part 1 y A2 c2 hyi hly) (fun v hv => val_bd hv) (fun v hv => val_bd hv)
end Go.Proofs.Ytnngmpimobolpaa
