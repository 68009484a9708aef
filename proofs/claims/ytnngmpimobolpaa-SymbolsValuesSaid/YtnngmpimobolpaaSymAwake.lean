/- Layer 20's awake returns true. -/
import Derived.Test.YtnngmpimobolpaaSymVals
import Derived.Test.YtnngmpimobolpaaSymTarget
import Derived.Test.YtnngmpimobolpaaSymFew
import Derived.Test.YtnngmpimobolpaaIntsWalk
import Derived.Laws.StructEq
namespace Go.Proofs.Ytnngmpimobolpaa
open Go.RowKit Mem
set_option linter.unusedVariables false
theorem flt_eqG : Try.prog.eqGuardType Try.prog.depth 37 = false := by kernel_rfl
set_option maxRecDepth 100000 in
theorem flt_same (a b : Int) (w : World) : (Op.equalIn 10000 37 (.agg #[.int .i64 a, .int .i64 b]) (.agg #[.int .i64 a, .int .i64 b])).run Try.prog w = .ok true w := by
  rw [run_equalIn_struct w 9999 37 _ _ (by kernel_rfl) (by kernel_rfl)]
  have hi : ∀ (x y : Int) w, (Op.equalIn (9998 + 1) 3 (.int .i64 x) (.int .i64 y)).run Try.prog w = .ok (x == y) w := fun x y w => run_equalIn_int w 9998 3 .i64 .i64 x y Try.underlying3
  have he : ∀ (x y : Int) w, (Op.equalIn (9998 + 1) 35 (.int .i64 x) (.int .i64 y)).run Try.prog w = .ok (x == y) w := fun x y w => run_equalIn_int w 9998 35 .i64 .i64 x y Try.underlying35
  have p0 : ∀ w, (part 35 #[Value.int IntKind.i64 a, Value.int IntKind.i64 b] 0).run Try.prog w = .ok (.int .i64 a) w := fun w => by simp [part, go_sem, Try.isAgg35, Try.sizeOf35]
  have p1 : ∀ w, (part 3 #[Value.int IntKind.i64 a, Value.int IntKind.i64 b] 1).run Try.prog w = .ok (.int .i64 b) w := fun w => by simp [part, go_sem, Try.isAgg3, Try.sizeOf3]
  simp only [Program.fieldsOf, Try.underlying37]
  simp only [Op.eqFields]
  simp only [Sem.run_bind, Sem.run_ite, Sem.run_pure, Result.andThen_ok, p0, p1, hi, he]
  simp
/-- A literal's cells as a slice. -/
theorem lit_nms {w : World} {b B : Nat} {l : List ByteArray} {T : TypeId} (hb : b < B) (h : w.heap[b]? = some (.cells (nmCells l).toArray T (0, 0))) : Nms w B (some ⟨b, 0, none⟩) l.length l :=
  ⟨by rw [nmCells_len]; omega, fun _ => ⟨⟨b, 0, none⟩, rfl, hb, fun j u hu => by
    rw [Addr.add_mid, Nat.zero_add, cell_of_row _ _ j _ _ _ h]; simpa using hu⟩⟩
theorem lit_ints {w : World} {b B : Nat} {l : List Int} {T : TypeId} (hb : b < B) (h : w.heap[b]? = some (.cells (ints l).toArray T (0, 0))) : Ints w B (some ⟨b, 0, none⟩) l.length l :=
  ⟨by rw [ints_len]; omega, fun _ => ⟨⟨b, 0, none⟩, rfl, hb, fun j u hu => by
    rw [Addr.add_mid, Nat.zero_add, cell_of_row _ _ j _ _ _ h]; simpa using hu⟩⟩
theorem two_lines {w : World} {b B : Nat} {L0 L1 : Ln} {T : TypeId} (hb : b < B) (h0 : L0.ok) (h1 : L1.ok) (h : w.heap[b]? = some (.cells (L0.cells ++ L1.cells).toArray T (0, 0))) : Lines w B (some ⟨b, 0, none⟩) 2 [L0, L1] := by
  refine ⟨rfl, fun L hL => ?_, fun _ => ⟨⟨b, 0, none⟩, rfl, hb, fun i L hi j u hu => ?_⟩⟩
  · simp at hL
    rcases hL with rfl | rfl
    · exact h0
    · exact h1
  · have hj : j < 19 := by
      rcases Nat.lt_or_ge j 19 with h | h
      · exact h
      · rw [List.getElem?_eq_none (show L.cells.length ≤ j from h)] at hu; cases hu
    rw [Addr.add_mid, Nat.zero_add, cell_of_row _ _ _ _ _ _ h, List.getElem?_toArray]
    match i, hi with
    | 0, hi =>
      cases hi
      rw [Nat.zero_mul, Nat.zero_add, List.getElem?_append_left (show j < L0.cells.length from hj)]; exact hu
    | 1, hi =>
      cases hi
      rw [List.getElem?_append_right (show L0.cells.length ≤ 1 * 19 + j by show 19 ≤ _; omega), show 1 * 19 + j - L0.cells.length = j by show 1 * 19 + j - 19 = j; omega]; exact hu
def ze : ByteArray := ⟨#[]⟩
def la : ByteArray := ⟨#[97]⟩
def lb : ByteArray := ⟨#[98]⟩
def lx : ByteArray := ⟨#[120]⟩
def aw0 : Ln := ⟨ze, 6, 0, 0, 0, 0, 0, 0, 0, 0, false, 0, la, false, 0, 1, 1, ze, .slice none 0 0⟩
def aw1 (b : Nat) : Ln := ⟨lx, 6, 0, 0, 0, 0, 0, 0, 0, 0, false, 0, lb, false, 0, 5, 0, ze, .slice (some ⟨b, 0, none⟩) 2 2⟩
def aw2 : Ln := ⟨lx, 0, 0, 0, 0, 0, 0, 0, 0, 0, false, 0, ze, false, 0, 0, 0, ze, .slice none 0 0⟩
def at0 : Tm := .mk 1 1 ze []
def at1 : Tm := .mk 5 0 ze [.mk 2 0 la [], .mk 1 1 ze []]
def awLs (b : Nat) : List (Ln × Tm) := [(aw0, at0), (aw1 b, at1)]
theorem aw_names (b : Nat) : namesOf [aw0, aw1 b] = ([la, lx, lb], 0, 0) := by kernel_rfl
theorem aw_vals (b : Nat) : valsOf 2 (awLs b) = ([la, lb], [1, 2], 0, 0) := by kernel_rfl
theorem aw_twice : namesOf [aw2, aw2] = ([], 5, 2) := by kernel_rfl
theorem aw_tx (b : Nat) : targetOf [aw0, aw1 b] lx = 1 := by kernel_rfl
theorem aw_ta (b : Nat) : targetOf [aw0, aw1 b] la = -1 := by kernel_rfl
theorem ln_ok {L : Ln} (h1 : i64B L.kind) (h2 : i64B L.op) (h3 : i64B L.cond) (h4 : i64B L.imm) (h5 : i64B L.lst) (h6 : i64B L.c) (h7 : i64B L.eop) (h8 : i64B L.en) (h9 : ∃ (a : Option Addr) (n k : Nat), L.ea = .slice a n k) : L.ok := ⟨h1, h2, h3, h4, h5, h6, h7, h8, h9⟩
theorem aw0_ok : aw0.ok := ln_ok ⟨by decide, by decide⟩ ⟨by decide, by decide⟩ ⟨by decide, by decide⟩ ⟨by decide, by decide⟩ ⟨by decide, by decide⟩ ⟨by decide, by decide⟩ ⟨by decide, by decide⟩ ⟨by decide, by decide⟩ ⟨_, _, _, rfl⟩
theorem aw2_ok : aw2.ok := ln_ok ⟨by decide, by decide⟩ ⟨by decide, by decide⟩ ⟨by decide, by decide⟩ ⟨by decide, by decide⟩ ⟨by decide, by decide⟩ ⟨by decide, by decide⟩ ⟨by decide, by decide⟩ ⟨by decide, by decide⟩ ⟨_, _, _, rfl⟩
theorem i64_n {z : Int} (h0 : 0 ≤ z) (h1 : z ≤ 100) : i64B z := ⟨by omega, by omega⟩
theorem aw1_ok (b : Nat) : (aw1 b).ok := ln_ok (i64_n (by show (0:Int) ≤ 6; omega) (by show (6:Int) ≤ 100; omega)) (i64_n (by show (0:Int) ≤ 0; omega) (by show (0:Int) ≤ 100; omega)) (i64_n (by show (0:Int) ≤ 0; omega) (by show (0:Int) ≤ 100; omega)) (i64_n (by show (0:Int) ≤ 0; omega) (by show (0:Int) ≤ 100; omega)) (i64_n (by show (0:Int) ≤ 0; omega) (by show (0:Int) ≤ 100; omega)) (i64_n (by show (0:Int) ≤ 0; omega) (by show (0:Int) ≤ 100; omega)) (i64_n (by show (0:Int) ≤ 5; omega) (by show (5:Int) ≤ 100; omega)) (i64_n (by show (0:Int) ≤ 0; omega) (by show (0:Int) ≤ 100; omega)) ⟨_, _, _, rfl⟩
theorem leaf_lies {w : World} {B : Nat} {t : Tm} (ho : t.ok) (ha : t.args = []) (d : Nat) : Lies w B (d + 1) t (tmCells t none 0) :=
  ⟨ho, none, 0, rfl, fun h => by rw [ha] at h; simp at h⟩
theorem at1_lies {w : World} {b B : Nat} {T : TypeId} (hb : b < B) (h : w.heap[b]? = some (.cells #[.int .i64 2, .int .i64 0, .string ⟨#[97]⟩, .slice none 0 0, .int .i64 1, .int .i64 1, .string ⟨#[]⟩, .slice none 0 0] T (0, 0))) : Lies w B 2 at1 (tmCells at1 (some ⟨b, 0, none⟩) 2) := by
  refine ⟨⟨by decide, by decide, by decide, by decide⟩, some ⟨b, 0, none⟩, 2, rfl, fun _ => ⟨⟨b, 0, none⟩, rfl, hb, fun i x hi => ?_⟩⟩
  match i, hi with
  | 0, hi =>
    cases hi
    refine ⟨tmCells (.mk 2 0 la []) none 0, rfl, fun j u hu => ?_, leaf_lies ⟨by decide, by decide, by decide, by decide⟩ rfl 0⟩
    rw [Addr.add_mid, Nat.zero_add, cell_of_row _ _ _ _ _ _ h]
    match j, hu with
    | 0, hu => cases hu; rfl
    | 1, hu => cases hu; rfl
    | 2, hu => cases hu; rfl
    | 3, hu => cases hu; rfl
  | 1, hi =>
    cases hi
    refine ⟨tmCells (.mk 1 1 ze []) none 0, rfl, fun j u hu => ?_, leaf_lies ⟨by decide, by decide, by decide, by decide⟩ rfl 0⟩
    rw [Addr.add_mid, Nat.zero_add, cell_of_row _ _ _ _ _ _ h]
    match j, hu with
    | 0, hu => cases hu; rfl
    | 1, hu => cases hu; rfl
    | 2, hu => cases hu; rfl
    | 3, hu => cases hu; rfl
theorem aw_tlines {w : World} {b1 b2 B : Nat} {T T2 : TypeId} (h1 : b1 < B) (h2 : b2 < B) (l1 : w.heap[b1]? = some (.cells #[.int .i64 2, .int .i64 0, .string ⟨#[97]⟩, .slice none 0 0, .int .i64 1, .int .i64 1, .string ⟨#[]⟩, .slice none 0 0] T (0, 0)))
    (l2 : w.heap[b2]? = some (.cells (aw0.cells ++ (aw1 b1).cells).toArray T2 (0, 0))) : TLines w B (some ⟨b2, 0, none⟩) 2 2 (awLs b1) := by
  refine ⟨two_lines h2 aw0_ok (aw1_ok b1) l2, fun L t hm => ?_, fun L t hm => ?_⟩
  · unfold awLs at hm
    simp at hm
    rcases hm with ⟨rfl, rfl⟩ | ⟨rfl, rfl⟩
    · exact leaf_lies ⟨by decide, by decide, by decide, by decide⟩ rfl 1
    · exact at1_lies h1 l1
  · unfold awLs at hm
    simp at hm
    rcases hm with ⟨rfl, rfl⟩ | ⟨rfl, rfl⟩
    · exact ⟨by decide, by decide⟩
    · exact ⟨by show lx.size ≤ _; decide, by show lb.size ≤ _; decide⟩
theorem three_gen (w : World) (o1 o2 o3 : Obj) (W : World) (hW : W = ((w.alloc o1).alloc o2).alloc o3) : Below w.heap.size w W ∧ W.heap[w.heap.size + 1]? = some o2 ∧ W.heap[w.heap.size + 1 + 1]? = some o3 ∧ W.heap.size = w.heap.size + 3 := by
  have hs : ∀ (w : World) (o : Obj), (w.alloc o).heap.size = w.heap.size + 1 := fun w o => by simp
  subst hW
  refine ⟨(((Below.refl _ _).alloc (Nat.le_refl _) _).alloc (by rw [hs]; omega) _).alloc (by rw [hs, hs]; omega) _, ?_, ?_, by simp only [hs]⟩
  · rw [Below.heap_alloc _ _ _ (by simp only [hs]; omega), show w.heap.size + 1 = (w.alloc o1).heap.size by rw [hs]]; exact heap_alloc_new _ _
  · rw [show w.heap.size + 1 + 1 = ((w.alloc o1).alloc o2).heap.size by rw [hs, hs]]; exact heap_alloc_new _ _
set_option maxRecDepth 100000 in
set_option maxHeartbeats 8000000 in
theorem law20_awake (w : World) : Calls Try.prog 27 #[] w fun e w' => e = .returned (.bool true) ∧ Below w.heap.size w w' := by
  obtain ⟨W3, hW⟩ : ∃ W3, W3 = ((w.alloc (.cells #[.int .i64 1, .int .i64 1, .string ⟨#[]⟩, .slice none 0 0] 54)).alloc (.cells #[.int .i64 2, .int .i64 0, .string ⟨#[97]⟩, .slice none 0 0, .int .i64 1, .int .i64 1, .string ⟨#[]⟩, .slice none 0 0] 54)).alloc (.cells #[.string ⟨#[]⟩, .int .i64 6, .int .i64 0, .int .i64 0, .int .i64 0, .int .i64 0, .int .i64 0, .int .i64 0, .int .i64 0, .int .i64 0, .bool false, .int .i64 0, .string ⟨#[97]⟩, .bool false, .int .i64 0, .int .i64 1, .int .i64 1, .string ⟨#[]⟩, .slice none 0 0, .string ⟨#[120]⟩, .int .i64 6, .int .i64 0, .int .i64 0, .int .i64 0, .int .i64 0, .int .i64 0, .int .i64 0, .int .i64 0, .int .i64 0, .bool false, .int .i64 0, .string ⟨#[98]⟩, .bool false, .int .i64 0, .int .i64 5, .int .i64 0, .string ⟨#[]⟩, .slice (some ⟨w.heap.size + 1, 0, none⟩) 2 2] 56) := ⟨_, rfl⟩
  obtain ⟨hb3, l1, l2, hz3⟩ := three_gen w _ _ _ W3 hW
  have HT3 := Lib.hid (aw_tlines (B := W3.heap.size) (by omega) (by omega) l1 l2)
  have HB3 := Lib.hid hb3
  clear hb3 l1 l2 hz3
  have hgd := flt_eqG
  have hfs := flt_same 5 2
  go_enter Try.func27, Try.ntmps27
  go_wp2_with fail
  rw [← hW]
  clear hW
  refine (sym_Values _ 2 2 2 (awLs (w.heap.size + 1)) W3 HT3.out (by omega)).mono ?_
  rintro e w4 ⟨A, A2, n, n2, c, c2, rfl, hN, hV, hb⟩
  rw [aw_vals] at hN hV ⊢
  simp only at hN hV ⊢
  obtain rfl : n = 2 := hN.len.symm
  obtain rfl : n2 = 2 := hV.len.symm
  have HB4 := Lib.hid (HB3.out.trans (hb.mono HB3.out.size))
  have HT4 := Lib.hid (HT3.out.on hb)
  have hb5 : Below w4.heap.size w4 (w4.alloc (.cells #[.int .i64 0, .int .i64 0] 37)) := (Below.refl _ _).alloc (Nat.le_refl _) _
  have L5 := Lib.hid (heap_alloc_new w4 (.cells #[.int .i64 0, .int .i64 0] 37))
  have HN5 := Lib.hid (hN.on hb5); have HV5 := Lib.hid (ints_on hV hb5); have HT5 := Lib.hid (HT4.out.on hb5)
  have HB5 := Lib.hid (HB4.out.trans (hb5.mono HB4.out.size))
  clear hN hV hb hb5
  go_wp2_with fail
  refine (sym_Names _ 2 2 _ _ (w4.alloc (.cells #[.int .i64 0, .int .i64 0] 37)) HT5.out.lines (Nat.le_refl _) (by omega) (fun L hL => by
    obtain ⟨⟨L', t⟩, hQ, rfl⟩ := List.mem_map.1 hL
    exact HT5.out.sizes L' t hQ)).mono ?_
  rintro e w6 ⟨A3, n3, c3, rfl, hN3, hb⟩
  rw [show List.map (·.1) (awLs (w.heap.size + 1)) = [aw0, aw1 (w.heap.size + 1)] from rfl, aw_names] at hN3 ⊢
  simp only at hN3 ⊢
  obtain rfl : n3 = 3 := hN3.len.symm
  have HN6 := Lib.hid (HN5.out.on hb); have HV6 := Lib.hid (ints_on HV5.out hb); have HT6 := Lib.hid (HT5.out.on hb)
  have HB6 := Lib.hid (HB5.out.trans (hb.mono HB5.out.size))
  have L6 := Lib.hid ((hb.block w4.heap.size (by simp)).trans L5.out)
  have HM6 := Lib.hid hN3
  have hz6 : w4.heap.size < w6.heap.size := by have := hb.size; simp at this; omega
  clear hN3 hb
  obtain ⟨wa, hwa⟩ : ∃ wa, wa = (w6.alloc (.cells #[.int .i64 0, .int .i64 0] 37)).alloc (.cells #[.string ⟨#[120]⟩, .int .i64 0, .int .i64 0, .int .i64 0, .int .i64 0, .int .i64 0, .int .i64 0, .int .i64 0, .int .i64 0, .int .i64 0, .bool false, .int .i64 0, .string ⟨#[]⟩, .bool false, .int .i64 0, .int .i64 0, .int .i64 0, .string ⟨#[]⟩, .slice none 0 0, .string ⟨#[120]⟩, .int .i64 0, .int .i64 0, .int .i64 0, .int .i64 0, .int .i64 0, .int .i64 0, .int .i64 0, .int .i64 0, .int .i64 0, .bool false, .int .i64 0, .string ⟨#[]⟩, .bool false, .int .i64 0, .int .i64 0, .int .i64 0, .string ⟨#[]⟩, .slice none 0 0] 56) := ⟨_, rfl⟩
  have hba : Below w6.heap.size w6 wa := by rw [hwa]; exact ((Below.refl _ _).alloc (Nat.le_refl _) _).alloc (by simp) _
  have hza : wa.heap.size = w6.heap.size + 2 := by rw [hwa]; simp
  have hla : wa.heap[w6.heap.size + 1]? = some (.cells #[.string ⟨#[120]⟩, .int .i64 0, .int .i64 0, .int .i64 0, .int .i64 0, .int .i64 0, .int .i64 0, .int .i64 0, .int .i64 0, .int .i64 0, .bool false, .int .i64 0, .string ⟨#[]⟩, .bool false, .int .i64 0, .int .i64 0, .int .i64 0, .string ⟨#[]⟩, .slice none 0 0, .string ⟨#[120]⟩, .int .i64 0, .int .i64 0, .int .i64 0, .int .i64 0, .int .i64 0, .int .i64 0, .int .i64 0, .int .i64 0, .int .i64 0, .bool false, .int .i64 0, .string ⟨#[]⟩, .bool false, .int .i64 0, .int .i64 0, .int .i64 0, .string ⟨#[]⟩, .slice none 0 0] 56) := by
    have := heap_alloc_new (w6.alloc (.cells #[.int .i64 0, .int .i64 0] 37)) (.cells #[.string ⟨#[120]⟩, .int .i64 0, .int .i64 0, .int .i64 0, .int .i64 0, .int .i64 0, .int .i64 0, .int .i64 0, .int .i64 0, .int .i64 0, .bool false, .int .i64 0, .string ⟨#[]⟩, .bool false, .int .i64 0, .int .i64 0, .int .i64 0, .string ⟨#[]⟩, .slice none 0 0, .string ⟨#[120]⟩, .int .i64 0, .int .i64 0, .int .i64 0, .int .i64 0, .int .i64 0, .int .i64 0, .int .i64 0, .int .i64 0, .int .i64 0, .bool false, .int .i64 0, .string ⟨#[]⟩, .bool false, .int .i64 0, .int .i64 0, .int .i64 0, .string ⟨#[]⟩, .slice none 0 0] 56)
    rw [hwa]; simpa using this
  have HLA := Lib.hid (two_lines (B := wa.heap.size) (L0 := aw2) (L1 := aw2) (by omega) aw2_ok aw2_ok hla)
  have HN7 := Lib.hid (HN6.out.on hba); have HV7 := Lib.hid (ints_on HV6.out hba); have HT7 := Lib.hid (HT6.out.on hba); have HM7 := Lib.hid (HM6.out.on hba)
  have L7 := Lib.hid ((hba.block w4.heap.size hz6).trans L6.out)
  have HB7 := Lib.hid (HB6.out.trans (hba.mono HB6.out.size))
  have hz7 : w4.heap.size < wa.heap.size := by omega
  clear hba hla hza hz6
  go_wp2_with fail
  rw [← hwa]
  clear hwa
  refine (sym_Names _ 2 2 _ _ wa HLA.out (Nat.le_refl _) (by omega) (fun L hL => by
    simp at hL
    subst hL
    exact ⟨by decide, by decide⟩)).mono ?_
  rintro e w7 ⟨A4, n4, c4, rfl, hN4, hb⟩
  rw [aw_twice] at hN4 ⊢
  simp only at hN4 ⊢
  have hb8 : Below w7.heap.size w7 (w7.alloc (.cells #[.int .i64 5, .int .i64 2] 37)) := (Below.refl _ _).alloc (Nat.le_refl _) _
  have L8 := Lib.hid ((hb8.block w4.heap.size (Nat.lt_of_lt_of_le hz7 hb.size)).trans ((hb.block w4.heap.size hz7).trans L7.out))
  have G8 := Lib.hid (heap_alloc_new w7 (.cells #[.int .i64 5, .int .i64 2] 37))
  have HN8 := Lib.hid ((HN7.out.on hb).on hb8); have HV8 := Lib.hid (ints_on (ints_on HV7.out hb) hb8); have HT8 := Lib.hid ((HT7.out.on hb).on hb8); have HM8 := Lib.hid ((HM7.out.on hb).on hb8)
  have HB8 := Lib.hid ((HB7.out.trans (hb.mono HB7.out.size)).trans (hb8.mono (HB7.out.trans (hb.mono HB7.out.size)).size))
  have hz8 : w4.heap.size < (w7.alloc (.cells #[.int .i64 5, .int .i64 2] 37)).heap.size := by have := hb.size; simp; omega
  have hg8 : w7.heap.size < (w7.alloc (.cells #[.int .i64 5, .int .i64 2] 37)).heap.size := by simp
  clear hN4 hb hb8 hz7
  go_upto_region 6 with (fail)
  generalize w7.alloc (.cells #[.int .i64 5, .int .i64 2] 37) = w8 at L8 G8 HN8 HV8 HT8 HM8 HB8 hz8 hg8 ⊢
  have f0 := cell_of_row _ _ 0 _ _ _ L8.out
  -- Texts(n, {a, b})
  have hb9 : Below w8.heap.size w8 (w8.alloc (.cells #[.string ⟨#[97]⟩, .string ⟨#[98]⟩] 9)) := (Below.refl _ _).alloc (Nat.le_refl _) _
  have HQ9 := Lib.hid (lit_nms (l := [la, lb]) (B := (w8.alloc (.cells #[.string ⟨#[97]⟩, .string ⟨#[98]⟩] 9)).heap.size) (by simp) (heap_alloc_new w8 (.cells #[.string ⟨#[97]⟩, .string ⟨#[98]⟩] 9)))
  have HC9 := Lib.hid (ref_Texts A (some ⟨w8.heap.size, 0, none⟩) 2 c 2 2 [la, lb] _ (HN8.out.on hb9) HQ9.out (by omega))
  go_wp2_with fail
  refine HC9.out.mono ?_
  rintro e w9 ⟨rfl, hb⟩
  have hbx := hb9.trans (hb.mono hb9.size)
  have HV9 := Lib.hid (ints_on HV8.out hbx); have HT9 := Lib.hid (HT8.out.on hbx); have HM9 := Lib.hid (HM8.out.on hbx)
  have G9 := Lib.hid ((hbx.block _ hg8).trans G8.out)
  have HB9 := Lib.hid (HB8.out.trans (hbx.mono HB8.out.size))
  have hg9 : w7.heap.size < w9.heap.size := Nat.lt_of_lt_of_le hg8 hbx.size
  clear hb hbx hb9 hg8 f0 hz8
  -- Ints(v, {1, 2})
  have hb10 : Below w9.heap.size w9 (w9.alloc (.cells #[.int .i64 1, .int .i64 2] 3)) := (Below.refl _ _).alloc (Nat.le_refl _) _
  have HQ10 := Lib.hid (lit_ints (l := [1, 2]) (B := (w9.alloc (.cells #[.int .i64 1, .int .i64 2] 3)).heap.size) (by simp) (heap_alloc_new w9 (.cells #[.int .i64 1, .int .i64 2] 3)))
  have HC10 := Lib.hid (ref_Ints A2 (some ⟨w9.heap.size, 0, none⟩) 2 2 c2 2 _ [1, 2] [1, 2] _ (ints_on HV9.out hb10) HQ10.out (by omega) (by omega))
  rw [show decide (([1, 2] : List Int) = [1, 2]) = true from rfl] at HC10
  go_wp2_with fail
  refine HC10.out.mono ?_
  rintro e w10 ⟨rfl, mq, rfl⟩
  have hbx : Below w9.heap.size w9 ((w9.alloc (.cells #[.int .i64 1, .int .i64 2] 3)).drewN mq) := below_drewN hb10 mq
  have HT10 := Lib.hid (HT9.out.on hbx); have HM10 := Lib.hid (HM9.out.on hbx)
  have G10 := Lib.hid ((hbx.block _ hg9).trans G9.out)
  have HB10 := Lib.hid (HB9.out.trans (hbx.mono HB9.out.size))
  have hg10 : w7.heap.size < ((w9.alloc (.cells #[.int .i64 1, .int .i64 2] 3)).drewN mq).heap.size := Nat.lt_of_lt_of_le hg9 hbx.size
  clear hbx hb10 hg9
  generalize (w9.alloc (.cells #[.int .i64 1, .int .i64 2] 3)).drewN mq = w10 at HT10 HM10 G10 HB10 hg10 ⊢
  -- Texts(m, {a, x, b})
  have hb11 : Below w10.heap.size w10 (w10.alloc (.cells #[.string ⟨#[97]⟩, .string ⟨#[120]⟩, .string ⟨#[98]⟩] 9)) := (Below.refl _ _).alloc (Nat.le_refl _) _
  have HQ11 := Lib.hid (lit_nms (l := [la, lx, lb]) (B := (w10.alloc (.cells #[.string ⟨#[97]⟩, .string ⟨#[120]⟩, .string ⟨#[98]⟩] 9)).heap.size) (by simp) (heap_alloc_new w10 (.cells #[.string ⟨#[97]⟩, .string ⟨#[120]⟩, .string ⟨#[98]⟩] 9)))
  have HC11 := Lib.hid (ref_Texts A3 (some ⟨w10.heap.size, 0, none⟩) 3 c3 3 3 [la, lx, lb] _ (HM10.out.on hb11) HQ11.out (by omega))
  go_wp2_with fail
  refine HC11.out.mono ?_
  rintro e w11 ⟨rfl, hb⟩
  have hbx := hb11.trans (hb.mono hb11.size)
  have HT11 := Lib.hid (HT10.out.on hbx)
  have G11 := Lib.hid ((hbx.block _ hg10).trans G10.out)
  have HB11 := Lib.hid (HB10.out.trans (hbx.mono HB10.out.size))
  have g0 := cell_of_row _ _ 0 _ _ _ G11.out
  have g1 := cell_of_row _ _ 1 _ _ _ G11.out
  clear hb hbx hb11 hg10
  have HC12 := Lib.hid (sym_Target _ 2 2 _ lx w11 HT11.out.lines (by omega))
  rw [show List.map (·.1) (awLs (w.heap.size + 1)) = [aw0, aw1 (w.heap.size + 1)] from rfl, aw_tx] at HC12
  go_wp2_with fail
  refine HC12.out.mono ?_
  rintro e w12 ⟨rfl, hb⟩
  have HT12 := Lib.hid (HT11.out.on hb)
  have HB12 := Lib.hid (HB11.out.trans (hb.mono HB11.out.size))
  clear hb g0 g1
  have HC13 := Lib.hid (sym_Target _ 2 2 _ la w12 HT12.out.lines (by omega))
  rw [show List.map (·.1) (awLs (w.heap.size + 1)) = [aw0, aw1 (w.heap.size + 1)] from rfl, aw_ta] at HC13
  go_wp2_with fail
  refine HC13.out.mono ?_
  rintro e w13 ⟨rfl, hb⟩
  have HB13 := Lib.hid (HB12.out.trans (hb.mono HB12.out.size))
  clear hb
  go_wp2
  go_ret
  exact ⟨rfl, HB13.out⟩
end Go.Proofs.Ytnngmpimobolpaa
