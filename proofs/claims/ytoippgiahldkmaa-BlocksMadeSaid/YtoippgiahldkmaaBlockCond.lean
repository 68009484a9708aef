/- Contracts of blocks.Inside, Cond, of the references' conds, Inside, Cond, and of the statements' bools. -/
import Derived.Test.YtoippgiahldkmaaBlockAsked
import Derived.Test.YtoippgiahldkmaaBools
namespace Go.Proofs.Ytoippgiahldkmaa
open Go.RowKit Mem
set_option linter.unusedVariables false
def insideOf (ls : List Ln) : List Bool := (aSt ls).1.map fun x => x != -1
theorem inside_len (ls : List Ln) : (insideOf ls).length = ls.length := by unfold insideOf; rw [List.length_map, aSt_len]
theorem inside_alt (ls : List Ln) : (aSt ls).1.map (fun x => decide (0 ≤ x)) = insideOf ls := by
  unfold insideOf
  apply List.map_congr_left
  intro x hx
  have := (askOk_all ls).1 x hx
  rw [Bool.eq_iff_iff]; simp; omega
/-- The condition that a line's block asks. -/
def condOf (ls : List Ln) (i : Int) : Int := if i < 0 then 14 else match (aSt ls).1[i.toNat]? with
  | some x => if x = -1 then 14 else x
  | none => 14
theorem condOf_neg {ls : List Ln} {i : Int} (h : i < 0) : condOf ls i = 14 := if_pos h
theorem condOf_big {ls : List Ln} {i : Int} (h : (ls.length : Int) ≤ i) : condOf ls i = 14 := by
  unfold condOf; rw [if_neg (by omega), List.getElem?_eq_none (by rw [aSt_len]; omega)]
theorem condOf_at {ls : List Ln} {k : Nat} {x : Int} (h : (aSt ls).1[k]? = some x) : condOf ls (k : Int) = if x = -1 then 14 else x := by
  unfold condOf; rw [if_neg (by omega), show ((k : Nat) : Int).toNat = k by omega, h]
def ArrB (w : World) (O : Nat) (bs : List Bool) : Prop := w.heap[O]? = some (.cells (bls bs).toArray 4 (0, 0))
theorem ArrB.lt {w : World} {O : Nat} {bs : List Bool} (h : ArrB w O bs) : O < w.heap.size := by
  rcases Nat.lt_or_ge O w.heap.size with hh | hh
  · exact hh
  · unfold ArrB at h; rw [Array.getElem?_eq_none hh] at h; cases h
theorem ArrB.cell {w : World} {O : Nat} {bs : List Bool} (h : ArrB w O bs) {k : Nat} {z : Bool} (hk : bs[k]? = some z) : w.cell? ⟨O, k, none⟩ = some (.bool z) := by
  rw [cell_of_row _ _ _ (bls bs).toArray _ (0, 0) h, List.getElem?_toArray]; unfold bls; rw [List.getElem?_map, hk]; rfl
theorem ArrB.frozen {w : World} {O : Nat} {bs : List Bool} (h : ArrB w O bs) (k : Nat) : w.frozen? ⟨O, k, none⟩ = false := by
  unfold ArrB at h; simp [World.frozen?, h]
theorem ArrB.set {w : World} {O : Nat} {bs : List Bool} (h : ArrB w O bs) (k : Nat) (x : Bool) : ArrB (w.setCell ⟨O, k, none⟩ (.bool x)) O (bs.set k x) := by
  unfold ArrB at h ⊢
  unfold World.setCell
  simp only [Option.isSome_none, Bool.false_eq_true, if_false]
  rw [Array.getElem?_modify, if_pos rfl, h]
  simp [bls, List.map_set]
theorem ArrB.bools {w : World} {O : Nat} {bs : List Bool} (h : ArrB w O bs) : Bools w w.heap.size (some ⟨O, 0, none⟩) bs.length bs := by
  refine ⟨by rw [bls_len]; omega, fun _ => ⟨_, rfl, h.lt, fun j u hu => ?_⟩⟩
  obtain ⟨z, hz, rfl⟩ := bls_get hu
  rw [Addr.add_mid, Nat.zero_add]; exact h.cell hz
theorem made_bools (n : Nat) : madeCells #[Value.bool false] n = (bls (List.replicate n false)).toArray := by
  apply Array.ext
  · simp [madeCells, bls]
  · intro i h1 h2
    simp [madeCells, bls, Nat.mod_one]
theorem Try.infoBool : (Try.prog.info? 4).map (fun i => (i.zero, i.size, i.bytes)) = some (some (.bool false), 1, 1) := by kernel_rfl
theorem fill_stepB {os : List Bool} {k n : Nat} (h : os.length = k) (hk : k < n) (x : Bool) : (os ++ List.replicate (n - k) false).set k x = (os ++ [x]) ++ List.replicate (n - (k + 1)) false := by
  rw [show n - k = (n - (k + 1)) + 1 by omega, List.replicate_succ, List.set_append, if_neg (by omega), show k - os.length = 0 by omega]
  simp
theorem fill_atB {os : List Bool} {k n : Nat} (h : os.length = k) (hk : k < n) : (os ++ List.replicate (n - k) false)[k]? = some false := by
  rw [List.getElem?_append_right (by omega), show k - os.length = 0 by omega, show n - k = (n - (k + 1)) + 1 by omega, List.replicate_succ]; rfl
theorem Arr.set_other {w : World} {O P k : Nat} {os : List Int} (h : Arr w O os) (hne : O ≠ P) (v : Value) : Arr (w.setCell ⟨P, k, none⟩ v) O os := by
  unfold Arr; rw [Below.heap_setCell w ⟨P, k, none⟩ v O hne]; exact h
set_option maxRecDepth 100000 in
set_option maxHeartbeats 2000000 in
theorem blocks_Inside (A : Option Addr) (n c B : Nat) (ls : List Ln) (w : World) (hx : Lines w B A n ls) (hB : B ≤ w.heap.size) (hn : n ≤ 1000) :
    Calls Try.prog 25 #[.slice A n c] w fun e w' => ∃ A1 c1, e = .returned (.slice A1 n c1) ∧ Bools w' w'.heap.size A1 n (insideOf ls) ∧ Below w.heap.size w w' := by
  have HX := Lib.hid hx
  have HLL := Lib.hid hx.len
  clear hx
  obtain ⟨i0, hi, hz0, hz1, hz2⟩ := info_parts Try.infoBool
  obtain ⟨os, hos⟩ : ∃ os, os = (aSt ls).1 := ⟨_, rfl⟩
  have HOS := Lib.hid hos
  have HOL := Lib.hid (show os.length = n by rw [hos, aSt_len]; exact HLL.out)
  clear hos
  go_enter Try.func25, Try.ntmps25
  go_wp2_with fail
  refine (blocks_asked _ _ _ _ _ _ HX.out hB hn).mono ?_
  rintro e w1 ⟨rfl, ha, hb1⟩
  rw [← HOS.out] at ha
  have HA := Lib.hid ha; have HB1 := Lib.hid hb1
  clear ha hb1
  have hlt1 := HA.out.lt
  have hmk : (Instr.makeSlice 42 (.int .i64 (n : Int)) (.int .i64 (n : Int))).run Try.prog w1 = .ok (.slice (some ⟨w1.heap.size, 0, none⟩) n n) (w1.alloc (.cells (madeCells #[.bool false] n) 4)) := by
    have := run_make (P := Try.prog) w1 42 4 i0 (.bool false) Try.underlying42 hi hz0 .i64 .i64 (n : Int) (n : Int) (by omega) (by omega) (by rw [hz2]; omega) (by omega)
    rw [hz1, show ((n : Nat) : Int).toNat = n by omega, Nat.mul_one] at this
    exact this
  have hA0 : ArrB (w1.alloc (.cells (madeCells #[.bool false] n) 4)) w1.heap.size ([] ++ List.replicate (n - 0) false) := by
    unfold ArrB; rw [made_bools]; exact heap_alloc_new w1 _
  have hA1 : Arr (w1.alloc (.cells (madeCells #[.bool false] n) 4)) w.heap.size os := HA.out.below ((Below.refl _ _).alloc (Nat.le_refl _) _)
  have hB2 : Below w.heap.size w (w1.alloc (.cells (madeCells #[.bool false] n) 4)) := HB1.out.alloc HB1.out.size _
  go_wp2
  generalize w1.alloc (.cells (madeCells #[.bool false] n) 4) = w0 at hA0 hA1 hB2 ⊢
  clear hmk
  go_loopw [17] (fun iv wr => ∃ k : Nat, k ≤ n ∧ iv = .int .i64 k ∧ Arr wr w.heap.size os ∧ ArrB wr w1.heap.size ((os.take k).map (fun x => x != -1) ++ List.replicate (n - k) false) ∧ Below w.heap.size w wr) (fun iv _ => n - (intOf iv).toNat)
  case atStart => exact ⟨0, by omega, rfl, hA1, hA0, hB2⟩
  case round =>
    obtain ⟨k, hk, rfl, ha, hbb, hb⟩ := hrel
    have HA2 := Lib.hid ha; have HB2 := Lib.hid hbb; have HB3 := Lib.hid hb
    clear ha hbb hb
    by_cases hlt : k < n
    · obtain ⟨x, hx⟩ : ∃ x, os[k]? = some x := ⟨os[k]'(by rw [HOL.out]; exact hlt), List.getElem?_eq_getElem _⟩
      have hkl : ((os.take k).map (fun x => x != -1)).length = k := by rw [List.length_map, List.length_take, HOL.out]; omega
      have hc1 := HA2.out.cell hx
      have hc2 := HB2.out.cell (fill_atB hkl hlt)
      have hf2 := HB2.out.frozen k
      have HN := Lib.hid (show ArrB (wr.setCell ⟨w1.heap.size, k, none⟩ (.bool (x != -1))) w1.heap.size ((os.take (k + 1)).map (fun x => x != -1) ++ List.replicate (n - (k + 1)) false) by
        have := HB2.out.set k (x != -1)
        rw [fill_stepB hkl hlt] at this
        rw [List.take_add_one, hx]
        simpa using this)
      have HA3 := Lib.hid (HA2.out.set_other (P := w1.heap.size) (k := k) (by omega) (.bool (x != -1)))
      have HB4 := Lib.hid (below_set HB3.out (O := w1.heap.size) (k := k) (by omega) (.bool (x != -1)))
      clear hx hkl
      go_wp2
      go_roundw
      case rel => exact ⟨k + 1, by omega, by go_num, HA3.out, HN.out, HB4.out⟩
      case measure => simp [intOf]; omega
    · obtain rfl : n = k := by omega
      have HE := Lib.hid (show Bools wr wr.heap.size (some ⟨w1.heap.size, 0, none⟩) n (insideOf ls) by
        have h1 := HB2.out
        rw [Nat.sub_self, List.take_of_length_le (by rw [HOL.out]; exact Nat.le_refl _), HOS.out] at h1
        have h2 := ArrB.bools h1
        simp only [List.replicate_zero, List.append_nil, List.length_map, aSt_len, HLL.out] at h2
        exact h2)
      go_wp2
      go_ret
      exact ⟨_, _, rfl, HE.out, HB3.out⟩
set_option maxRecDepth 100000 in
set_option maxHeartbeats 2000000 in
theorem blocks_Cond (A : Option Addr) (n c B : Nat) (ls : List Ln) (i : Int) (w : World) (hx : Lines w B A n ls) (hB : B ≤ w.heap.size) (hn : n ≤ 1000) (h0 : -9223372036854775808 ≤ i) (h1 : i ≤ 9223372036854775807) :
    Calls Try.prog 27 #[.slice A n c, .int .i64 i] w fun e w' => e = .returned (.int .i64 (condOf ls i)) ∧ Below w.heap.size w w' := by
  have HX := Lib.hid hx
  have HLL := Lib.hid hx.len
  clear hx
  by_cases hneg : i < 0
  · go_enter Try.func27, Try.ntmps27
    go_wp2_with fail
    refine (blocks_asked _ _ _ _ _ _ HX.out hB hn).mono ?_
    rintro e w1 ⟨rfl, ha, hb1⟩
    have HB1 := Lib.hid hb1
    clear ha hb1
    go_wp2
    go_ret
    exact ⟨ret_int (condOf_neg hneg).symm, HB1.out⟩
  obtain ⟨k, rfl⟩ := Int.eq_ofNat_of_zero_le (show 0 ≤ i by omega)
  by_cases hbig : n ≤ k
  · have hd : decide (n ≤ k) = true := by simp; exact hbig
    go_enter Try.func27, Try.ntmps27
    go_wp2_with fail
    refine (blocks_asked _ _ _ _ _ _ HX.out hB hn).mono ?_
    rintro e w1 ⟨rfl, ha, hb1⟩
    have HB1 := Lib.hid hb1
    clear ha hb1
    go_wp2
    go_ret
    exact ⟨ret_int (condOf_big (by rw [HLL.out]; omega)).symm, HB1.out⟩
  have hd : decide (n ≤ k) = false := by simp; omega
  obtain ⟨x, hx⟩ : ∃ x, (aSt ls).1[k]? = some x := ⟨(aSt ls).1[k]'(by rw [aSt_len, HLL.out]; omega), List.getElem?_eq_getElem _⟩
  have HC := Lib.hid (condOf_at hx)
  have HXK := Lib.hid hx
  clear hx
  cases hx1 : (x == -1) with
  | true =>
    go_enter Try.func27, Try.ntmps27
    go_wp2_with fail
    refine (blocks_asked _ _ _ _ _ _ HX.out hB hn).mono ?_
    rintro e w1 ⟨rfl, ha, hb1⟩
    have hc := ha.cell HXK.out
    have HB1 := Lib.hid hb1
    clear ha hb1
    go_wp2
    go_ret
    exact ⟨ret_int (by rw [HC.out, if_pos (by simpa using hx1)]), HB1.out⟩
  | false =>
    go_enter Try.func27, Try.ntmps27
    go_wp2_with fail
    refine (blocks_asked _ _ _ _ _ _ HX.out hB hn).mono ?_
    rintro e w1 ⟨rfl, ha, hb1⟩
    have hc := ha.cell HXK.out
    have HB1 := Lib.hid hb1
    clear ha hb1
    go_wp2
    go_ret
    exact ⟨ret_int (by rw [HC.out, if_neg (by simpa using hx1)]), HB1.out⟩
end Go.Proofs.Ytoippgiahldkmaa
