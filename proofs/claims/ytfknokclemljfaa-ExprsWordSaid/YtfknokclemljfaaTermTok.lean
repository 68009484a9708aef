/- Contracts of the reader's token, take, signs and op. -/
import Derived.Test.YtfknokclemljfaaTermRead
import Derived.Test.YtfknokclemljfaaNames
import Derived.Deep.QuietTactic
import Derived.BigQuiet
import Derived.StillTailTactics
namespace Go.Proofs.Ytfknokclemljfaa
open Go.RowKit Mem
set_option linter.unusedVariables false
def tkV (k : Lx.Tk) : Value := .agg #[.int .i64 k.kind, .int .i64 k.n, .string k.text]
def TokPost (k : Lx.Tk) (w : World) (e : Ending) (w' : World) : Prop := e = .returned (tkV k) ∧ Below w.heap.size w w'
theorem tk_in {ks : List Lx.Tk} {i : Nat} {k : Lx.Tk} (h : ks[i]? = some k) : tkAt ks i = k := by unfold tkAt; rw [List.getD_eq_getElem?_getD, h]; rfl
theorem tk_out {ks : List Lx.Tk} {i : Nat} (h : ks.length ≤ i) : tkAt ks i = ⟨0, 0, ⟨#[]⟩⟩ := by unfold tkAt; rw [List.getD_eq_getElem?_getD, List.getElem?_eq_none h]; rfl
set_option maxRecDepth 100000 in
set_option maxHeartbeats 1000000 in
theorem rd_token (g : Nat) (A : Option Addr) (n c : Nat) (ks : List Lx.Tk) (i : Nat) (w : World) (h : Rdr w g A n c ks i) (hi : i ≤ 9223372036854775807) (hn : n ≤ 9223372036854775807) :
    Calls Try.prog 47 #[.pointer (some ⟨g, 0, none⟩)] w (TokPost (tkAt ks i) w) := by
  have hlen := h.toks.len
  have hgl := h.lt
  have hc0 := h.c0
  have hc1 := h.c1
  have HT := Lib.hid h.toks
  clear h
  have hi0 : (0 : Int) ≤ (i : Int) := by omega
  have hd0 : decide ((i : Int) < 0) = false := by rw [decide_eq_false_iff_not]; omega
  by_cases hlt : i < n
  · obtain ⟨ad, p, k, rfl, hp, hpb, hk, t0, t1, t2⟩ := HT.out.get hlt
    rw [tk_in hk]
    have HPB : p.block < w.heap.size := by omega
    have HHL := Lib.hid hlen
    have hd1 : decide (n ≤ i) = false := by rw [decide_eq_false_iff_not]; omega
    clear hk hlen HT
    obtain ⟨kd, hkd⟩ : ∃ z, z = k.kind := ⟨_, rfl⟩
    obtain ⟨kn, hkn⟩ : ∃ z, z = k.n := ⟨_, rfl⟩
    obtain ⟨kt, hkt⟩ : ∃ z, z = k.text := ⟨_, rfl⟩
    rw [← hkd] at t0; rw [← hkn] at t1; rw [← hkt] at t2
    unfold TokPost tkV
    rw [← hkd, ← hkn, ← hkt]
    clear hkd hkn hkt
    go_enter Try.func47, Try.ntmps47
    go_wp2
    go_quiet (fail)
    go_wp2
    have hb0 : Below w.heap.size w ((w.alloc (.cells #[.int .i64 0, .int .i64 0, .string ⟨#[]⟩] 55)).drewN nq) := below_drewN ((Below.refl _ _).alloc (Nat.le_refl _) _) _
    have l0 : ((w.alloc (.cells #[.int .i64 0, .int .i64 0, .string ⟨#[]⟩] 55)).drewN nq).heap[w.heap.size]? = some (.cells #[.int .i64 0, .int .i64 0, .string ⟨#[]⟩] 55 (0, 0)) := heap_alloc_new w _
    generalize (w.alloc (.cells #[.int .i64 0, .int .i64 0, .string ⟨#[]⟩] 55)).drewN nq = w1 at hb0 l0 ⊢
    have t0 := (hb0.cell (p := p) HPB).trans t0
    have t1 := (hb0.cell (p := ⟨p.block, p.off + 1, none⟩) HPB).trans t1
    have t2 := (hb0.cell (p := ⟨p.block, p.off + 2, none⟩) HPB).trans t2
    have hc0 := (hb0.cell (p := ⟨g, 0, none⟩) hgl).trans hc0
    have hc1 := (hb0.cell (p := ⟨g, 1, none⟩) hgl).trans hc1
    go_still_tail 10, (by kernel_rfl)
    change wpList _ _ _ _ _ w1.drew
    have hb1 := hb0.drew
    have l1 : w1.drew.heap[w.heap.size]? = some (.cells #[.int .i64 0, .int .i64 0, .string ⟨#[]⟩] 55 (0, 0)) := l0
    clear t0 t1 t2 hc0 hc1 hb0 l0
    generalize w1.drew = w2 at hb1 l1 ⊢
    have x0 := cell_of_row _ _ 0 _ _ _ l1
    have x1 := cell_of_row _ _ 1 _ _ _ l1
    have x2 := cell_of_row _ _ 2 _ _ _ l1
    have y0 := frozen_of_row _ _ 0 _ _ l1
    have y1 := frozen_of_row _ _ 1 _ _ l1
    have y2 := frozen_of_row _ _ 2 _ _ l1
    go_wp2
    refine bodyPost_ret (v := .agg #[.int .i64 kd, .int .i64 kn, .string kt]) (by simp [results, Try.results47, go_sem, x0, x1, x2]) rfl ⟨rfl, ?_⟩
    exact ((hb1.setCell (by simp) _).setCell (by simp) _).setCell (by simp) _
  · have hd1 : decide (n ≤ i) = true := by rw [decide_eq_true_eq]; omega
    rw [tk_out (by omega)]
    clear HT
    unfold TokPost tkV
    go_enter Try.func47, Try.ntmps47
    go_wp2
    go_quiet (fail)
    go_wp2
    refine bodyPost_ret (v := .agg #[.int .i64 0, .int .i64 0, .string ⟨#[]⟩]) (by simp [results, Try.results47, go_sem]) rfl ⟨rfl, ?_⟩
    exact (((below_drewN ((Below.refl _ _).alloc (Nat.le_refl _) _) _).setCell (by simp) _).setCell (by simp) _).setCell (by simp) _
def MvPost (v : Value) (g : Nat) (A : Option Addr) (n c : Nat) (ks : List Lx.Tk) (j : Nat) (w : World) (e : Ending) (w' : World) : Prop := e = .returned v ∧ Mv g w w' ∧ Rdr w' g A n c ks j
set_option maxRecDepth 100000 in
set_option maxHeartbeats 1000000 in
theorem rd_take (g : Nat) (A : Option Addr) (n c : Nat) (ks : List Lx.Tk) (i : Nat) (s : ByteArray) (w : World) (h : Rdr w g A n c ks i) (hi : i ≤ n) (hn : n ≤ 9223372036854775807) :
    Calls Try.prog 46 #[.pointer (some ⟨g, 0, none⟩), .string s] w (MvPost (.bool (isSign ks i s)) g A n c ks (if isSign ks i s = true then i + 1 else i) w) := by
  have HC := Lib.hid (rd_token g A n c ks i w h (by omega) hn)
  have HR := Lib.hid h
  have HS := Lib.hid (show isSign ks i s = ((tkAt ks i).kind == 3 && (tkAt ks i).text == s) from rfl)
  have HLT := Lib.hid (show isSign ks i s = true → i < n from fun hx => by have := sign_lt hx; have := h.toks.len; omega)
  clear h
  obtain ⟨b, hb⟩ : ∃ b, b = isSign ks i s := ⟨_, rfl⟩
  rw [← hb] at HS HLT ⊢
  generalize tkAt ks i = k at HC HS
  have h1 : (k.kind == 3) = (k.kind == 3) := rfl
  clear hb
  obtain ⟨kd, kn, kt⟩ := k
  simp only at HS
  unfold TokPost tkV at HC
  simp only at HC
  have HB : Hid (b = (kd == 3 && (kt.toList == s.toList))) := by have := HS.out; rw [tl_beq]; exact Lib.hid this
  clear HS h1
  cases hk : (kd == 3) with
  | false =>
    have hk' : (kd != 3) = true := by simp at hk ⊢; exact hk
    have HBF := Lib.hid (show b = false by rw [HB.out, hk]; rfl)
    rw [HBF.out]
    go_enter Try.func46, Try.ntmps46
    go_wp2_with fail
    refine HC.out.mono ?_
    rintro e w1 ⟨rfl, hb⟩
    have HB1 := Lib.hid hb
    clear hb
    go_wp2
    go_ret
    have hb2 := HB1.out.alloc HB1.out.size (.cells #[.int .i64 kd, .int .i64 kn, .string kt] 55)
    exact ⟨rfl, Mv.of_below hb2 HR.out.lt, HR.out.on hb2⟩
  | true =>
    have hk' : (kd != 3) = false := by simp at hk ⊢; exact hk
    cases hs : (kt.toList == s.toList) with
    | false =>
      have hs' : (kt.toList != s.toList) = true := by simp at hs ⊢; exact hs
      have HBF := Lib.hid (show b = false by rw [HB.out, hk, hs]; rfl)
      rw [HBF.out]
      go_enter Try.func46, Try.ntmps46
      go_wp2_with fail
      refine HC.out.mono ?_
      rintro e w1 ⟨rfl, hb⟩
      have HB1 := Lib.hid hb
      clear hb
      go_wp2
      go_ret
      have hb2 := HB1.out.alloc HB1.out.size (.cells #[.int .i64 kd, .int .i64 kn, .string kt] 55)
      exact ⟨rfl, Mv.of_below hb2 HR.out.lt, HR.out.on hb2⟩
    | true =>
      have hs' : (kt.toList != s.toList) = false := by simp at hs ⊢; exact hs
      have HBF := Lib.hid (show b = true by rw [HB.out, hk, hs]; rfl)
      have hlt := HLT.out HBF.out
      rw [HBF.out]
      obtain ⟨z, hz⟩ : ∃ z : Int, z = (i : Int) := ⟨_, rfl⟩
      have hi0 : 0 ≤ z := by omega
      have hi1 : z ≤ 9223372036854775806 := by omega
      have HZ := Lib.hid hz
      clear hz hlt hi hn
      go_enter Try.func46, Try.ntmps46
      go_wp2_with fail
      refine HC.out.mono ?_
      rintro e w1 ⟨rfl, hb⟩
      have HB1 := Lib.hid hb
      have hr1 := HR.out.on hb
      have hgl := hr1.lt
      have c1 := hr1.c1
      rw [← HZ.out] at c1
      have fz := hr1.fz
      clear hb hr1
      go_wp2
      go_ret
      have hm := (Mv.of_below HB1.out HR.out.lt).trans (Mv.set (.int .i64 ((i + 1 : Nat) : Int)))
      have hr := (HR.out.on HB1.out).set (i + 1)
      rw [show ((i + 1 : Nat) : Int) = z + 1 by rw [HZ.out]; rfl] at hm hr
      have hb3 : Below (w1.setCell ⟨g, 1, none⟩ (.int .i64 (z + 1))).heap.size (w1.setCell ⟨g, 1, none⟩ (.int .i64 (z + 1))) ((w1.setCell ⟨g, 1, none⟩ (.int .i64 (z + 1))).alloc (.cells #[.int .i64 kd, .int .i64 kn, .string kt] 55)) := (Below.refl _ _).alloc (Nat.le_refl _) _
      exact ⟨rfl, hm.trans (Mv.of_below hb3 hr.lt), hr.on hb3⟩
end Go.Proofs.Ytfknokclemljfaa
