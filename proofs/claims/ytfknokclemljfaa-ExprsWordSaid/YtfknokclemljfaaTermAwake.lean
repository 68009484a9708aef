/- Layer 17's awake returns true. -/
import Derived.Test.YtfknokclemljfaaTermReads
import Derived.Test.YtfknokclemljfaaTermText
import Derived.Test.YtfknokclemljfaaTermSame
import Derived.Test.YtfknokclemljfaaLexRefLine
namespace Go.Proofs.Ytfknokclemljfaa
open Go.RowKit Mem
set_option linter.unusedVariables false
def exKs : List Lx.Tk := [⟨3, 0, ⟨#[40]⟩⟩, ⟨2, 1, ⟨#[]⟩⟩, ⟨3, 0, ⟨#[43]⟩⟩, ⟨2, 2, ⟨#[]⟩⟩, ⟨3, 0, ⟨#[41]⟩⟩, ⟨3, 0, ⟨#[42]⟩⟩, ⟨2, 3, ⟨#[]⟩⟩]
def exTm : Tm := .mk 7 0 e0 [.mk 5 0 e0 [.mk 1 1 e0 [], .mk 1 2 e0 []], .mk 1 3 e0 []]
def exNeg : Tm := .mk 3 0 e0 [.mk 1 1 e0 []]
def exRef : Tm := .mk 2 0 ⟨#[120]⟩ []
theorem ex_line : Lx.lexS ⟨#[40, 49, 32, 43, 32, 50, 41, 32, 42, 32, 51]⟩ = some exKs := by decide +kernel
theorem ex_rd : rd exKs 40 (.term 1) 0 = some (exTm, 7) := by kernel_rfl
theorem ex_deep : deepF 16 exTm = false := by kernel_rfl
theorem ex_formed : formedF 16 exTm = true := by kernel_rfl
theorem ex_text : textB 16 exTm = ⟨#[40, 49, 32, 43, 32, 50, 41, 32, 42, 32, 51]⟩ := by kernel_rfl
theorem ex_parts : partsF 16 exTm 1000 = 995 := by kernel_rfl
theorem ex_val : evalR 16 exTm [] [] = (9, 0) := by kernel_rfl
theorem neg_val : evalR 2 exNeg [] [] = (4294967295, 0) := by kernel_rfl
theorem ref_val : evalR 1 exRef [] [] = (0, 4) := by kernel_rfl
theorem neg_lies {w : World} {b B : Nat} (hb : b < B) (l : w.heap[b]? = some (.cells #[.int .i64 1, .int .i64 1, .string ⟨#[]⟩, .slice none 0 0] 24 (0, 0))) : Lies w B 2 exNeg (tmCells exNeg (some ⟨b, 0, none⟩) 1) := by
  have h1 : LiesF w (fun _ => True) B 1 (.mk 1 1 e0 []) (tmCells (.mk 1 1 e0 []) none 0) := LiesF.leaf ⟨by decide, by decide, by decide, by decide⟩
  exact (LiesF.one (op := 3) (n := 0) (nm := e0) (c' := 1) h1 ⟨by decide, by decide, by decide, by decide⟩ trivial hb (Nat.le_refl _) (cell_of_row _ _ 0 _ _ _ l) (cell_of_row _ _ 1 _ _ _ l) (cell_of_row _ _ 2 _ _ _ l) (cell_of_row _ _ 3 _ _ _ l)).lies
theorem ref_lies {w : World} {B : Nat} : Lies w B 1 exRef (tmCells exRef none 0) :=
  (LiesF.leaf (K := fun _ => True) ⟨by decide, by decide, by decide, by decide⟩).lies
set_option maxRecDepth 100000 in
set_option maxHeartbeats 4000000 in
theorem law17_awake (w : World) : Calls Try.prog 6 #[] w fun e w' => e = .returned (.bool true) ∧ Below w.heap.size w w' := by
  have HK := Lib.hid ex_line; have HRD := Lib.hid ex_rd; have HDP := Lib.hid ex_deep; have HFM := Lib.hid ex_formed; have HTX := Lib.hid ex_text; have HPT := Lib.hid ex_parts; have HV := Lib.hid ex_val; have HNV := Lib.hid neg_val; have HRV := Lib.hid ref_val
  go_enter Try.func6, Try.ntmps6
  go_wp2_with fail
  refine (ref_Line _ _ (by decide)).mono ?_
  rintro e w1 ⟨A, n, c, rfl, ht, hb⟩
  rw [HK.out] at ht ⊢
  obtain rfl : n = 7 := ht.len.symm
  have HT := Lib.hid ht; have HB := Lib.hid hb
  clear ht hb
  go_wp2_with fail
  refine (ex_Read A 7 c exKs 40 0 exTm 7 w1 HT.out (by omega) (by omega) HRD.out HDP.out).mono ?_
  rintro e w2 ⟨A1, c1, d, rfl, hl, hb⟩
  have HL := Lib.hid (hl.shallow HDP.out)
  have HB2 := Lib.hid (HB.out.trans (hb.mono HB.out.size))
  clear hl hb
  have hbx : Below w2.heap.size w2 (w2.alloc (.cells #[.int .i64 exTm.op, .int .i64 exTm.n, .string exTm.name, .slice A1 exTm.args.length c1] 24)) := (Below.refl _ _).alloc (Nat.le_refl _) _
  have LX := Lib.hid (heap_alloc_new w2 (.cells #[.int .i64 exTm.op, .int .i64 exTm.n, .string exTm.name, .slice A1 exTm.args.length c1] 24))
  have HLX := Lib.hid (HL.out.on hbx)
  have HBX := Lib.hid (HB2.out.trans (hbx.mono HB2.out.size))
  clear hbx
  unfold tmV
  go_wp2_with fail
  refine (ex_Eval 16 exTm [] [] A1 none none c1 0 0 0 0 _ HLX.out Nms.nil Ints.nil (by omega) (by omega)).mono ?_
  rintro e w3 ⟨rfl, hb⟩
  rw [HV.out]
  have L3 := Lib.hid ((hb.block w2.heap.size (by simp)).trans LX.out)
  have HL3 := Lib.hid (HLX.out.on hb)
  have HB3 := Lib.hid (HBX.out.trans (hb.mono HBX.out.size))
  have hz3 : w2.heap.size < w3.heap.size := by have := hb.size; simp at this; omega
  clear hb
  have hbn : Below w3.heap.size w3 (w3.alloc (.cells #[.int .i64 1, .int .i64 1, .string ⟨#[]⟩, .slice none 0 0] 24)) := (Below.refl _ _).alloc (Nat.le_refl _) _
  have HNL := Lib.hid (neg_lies (B := (w3.alloc (.cells #[.int .i64 1, .int .i64 1, .string ⟨#[]⟩, .slice none 0 0] 24)).heap.size) (by simp) (heap_alloc_new w3 (.cells #[.int .i64 1, .int .i64 1, .string ⟨#[]⟩, .slice none 0 0] 24)))
  have HBN := Lib.hid hbn
  clear hbn
  go_wp2_with fail
  refine (ex_Eval 2 exNeg [] [] (some ⟨w3.heap.size, 0, none⟩) none none 1 0 0 0 0 _ HNL.out Nms.nil Ints.nil (by omega) (by omega)).mono ?_
  rintro e w4 ⟨rfl, hb⟩
  rw [HNV.out]
  have hb34 : Below w3.heap.size w3 w4 := HBN.out.trans (hb.mono HBN.out.size)
  have L4 := Lib.hid ((hb34.block w2.heap.size hz3).trans L3.out)
  have HL4 := Lib.hid (HL3.out.on hb34)
  have HB4 := Lib.hid (HB3.out.trans (hb34.mono HB3.out.size))
  have hz4 : w2.heap.size < w4.heap.size := Nat.lt_of_lt_of_le hz3 hb34.size
  clear hb hb34
  go_wp2_with fail
  refine (ex_Eval 1 exRef [] [] none none none 0 0 0 0 0 _ ref_lies Nms.nil Ints.nil (by omega) (by omega)).mono ?_
  rintro e w5 ⟨rfl, hb⟩
  rw [HRV.out]
  have L5 := Lib.hid ((hb.block w2.heap.size hz4).trans L4.out)
  have HL5 := Lib.hid (HL4.out.on hb)
  have HB5 := Lib.hid (HB4.out.trans (hb.mono HB4.out.size))
  have hz5 : w2.heap.size < w5.heap.size := Nat.lt_of_lt_of_le hz4 hb.size
  clear hb
  obtain ⟨x0, x1, x2, x3, _⟩ := box_facts L5.out
  have HPR := Lib.hid (ex_Print 16 exTm A1 c1 w5 HFM.out (by rw [HTX.out]; decide) (by rw [HPT.out]; decide) HL5.out)
  rw [HTX.out] at HPR
  unfold tmV at HPR
  go_wp2_with fail
  refine HPR.out.mono ?_
  rintro e w6 ⟨rfl, hb⟩
  have HSM := Lib.hid (same_at 16 exTm A1 A1 c1 c1 w6 (HL5.out.on hb) (HL5.out.on hb))
  unfold tmV at HSM
  have HB6 := Lib.hid (HB5.out.trans (hb.mono HB5.out.size))
  obtain ⟨x0, x1, x2, x3, _⟩ := box_facts ((hb.block w2.heap.size hz5).trans L5.out)
  clear hb
  go_wp2_with fail
  refine HSM.out.mono ?_
  rintro e w7 ⟨rfl, hb⟩
  have HB7 := Lib.hid (HB6.out.trans (hb.mono HB6.out.size))
  clear hb
  go_wp2
  go_ret
  exact ⟨rfl, HB7.out⟩
end Go.Proofs.Ytfknokclemljfaa
