/- Contracts of the reader's signs and op. -/
import Derived.Test.YtfknokclemljfaaTermTok
namespace Go.Proofs.Ytfknokclemljfaa
open Go.RowKit Mem
set_option linter.unusedVariables false
def sgS (l : Nat) : List ByteArray := if l = 1 then [⟨#[124]⟩] else if l = 2 then [⟨#[38]⟩] else if l = 3 then [⟨#[60, 60]⟩, ⟨#[62, 62]⟩] else if l = 4 then [⟨#[43]⟩, ⟨#[45]⟩] else [⟨#[42]⟩]
def sgO (l : Nat) : List Int := if l = 1 then [9] else if l = 2 then [8] else if l = 3 then [10, 11] else if l = 4 then [5, 6] else [7]
def opPick (ks : List Lx.Tk) (i : Nat) : List ByteArray → List Int → Int
  | s :: S, o :: O => if isSign ks i s = true then o else opPick ks i S O
  | _, _ => 0
theorem lvl_cases {l : Nat} (h1 : 1 ≤ l) (h5 : l ≤ 5) : l = 1 ∨ l = 2 ∨ l = 3 ∨ l = 4 ∨ l = 5 := by omega
theorem op_pick (ks : List Lx.Tk) (l i : Nat) : opAt ks l i = opPick ks i (sgS l) (sgO l) := by
  unfold opAt sgS sgO
  by_cases h1 : l = 1
  · simp only [if_pos h1]; rfl
  · by_cases h2 : l = 2
    · simp only [if_neg h1, if_pos h2]; rfl
    · by_cases h3 : l = 3
      · simp only [if_neg h1, if_neg h2, if_pos h3]; rfl
      · by_cases h4 : l = 4
        · simp only [if_neg h1, if_neg h2, if_neg h3, if_pos h4]; rfl
        · simp only [if_neg h1, if_neg h2, if_neg h3, if_neg h4]; rfl
theorem sg_len (l : Nat) : (sgS l).length = (sgO l).length ∧ (sgO l).length ≤ 2 := by
  unfold sgS sgO
  repeat' split
  all_goals decide
theorem sg_pos (l : Nat) : ∀ o ∈ sgO l, o ≠ 0 := by
  unfold sgO
  repeat' split
  all_goals decide
/-- What signs gives: two slices in two new blocks. -/
def SgPost (l : Nat) (w : World) (e : Ending) (w' : World) : Prop :=
  e = .returned (.tuple #[.slice (some ⟨w.heap.size, 0, none⟩) (sgO l).length (sgO l).length, .slice (some ⟨w.heap.size + 1, 0, none⟩) (sgO l).length (sgO l).length]) ∧
  Below w.heap.size w w' ∧ w.heap.size + 1 < w'.heap.size ∧
  (∀ j s, (sgS l)[j]? = some s → w'.cell? ⟨w.heap.size, j, none⟩ = some (.string s)) ∧ (∀ j o, (sgO l)[j]? = some o → w'.cell? ⟨w.heap.size + 1, j, none⟩ = some (.int .i64 o))
theorem sg_cells1 {w : World} {S : List ByteArray} {t : TypeId} {o : Obj} : ∀ j s, S[j]? = some s → ((w.alloc (.cells (S.map Value.string).toArray t)).alloc o).cell? ⟨w.heap.size, j, none⟩ = some (.string s) := fun j s h => by
  rw [World.cell?_alloc_lt _ _ _ (by simp), new_cell]
  simp [h]
theorem sg_cells2 {w : World} {O : List Int} {t : TypeId} {o : Obj} : ∀ j z, O[j]? = some z → ((w.alloc o).alloc (.cells (O.map (Value.int .i64)).toArray t)).cell? ⟨w.heap.size + 1, j, none⟩ = some (.int .i64 z) := fun j s h => by
  have := new_cell (w.alloc o) (O.map (Value.int .i64)).toArray t j
  rw [show (w.alloc o).heap.size = w.heap.size + 1 by simp] at this
  rw [this]
  simp [h]
set_option maxRecDepth 100000 in
set_option maxHeartbeats 1000000 in
theorem rd_signs (l : Nat) (w : World) (h1 : 1 ≤ l) (h5 : l ≤ 5) : Calls Try.prog 48 #[.int .i64 l] w (SgPost l w) := by
  rcases lvl_cases h1 h5 with rfl | rfl | rfl | rfl | rfl
  all_goals
    clear h1 h5
    go_enter Try.func48, Try.ntmps48
    go_wp2
    go_ret2
    exact ⟨rfl, ((Below.refl _ _).alloc (Nat.le_refl _) _).alloc (by simp) _, by simp, sg_cells1, sg_cells2⟩
theorem pick_step {ks : List Lx.Tk} {i j : Nat} {S : List ByteArray} {O : List Int} {s : ByteArray} {o : Int} (hs : S[j]? = some s) (ho : O[j]? = some o) :
    opPick ks i (S.drop j) (O.drop j) = if isSign ks i s = true then o else opPick ks i (S.drop (j + 1)) (O.drop (j + 1)) := by
  have e1 : S.drop j = s :: S.drop (j + 1) := by
    obtain ⟨hl, e⟩ := List.getElem?_eq_some_iff.1 hs
    rw [← e]; exact List.drop_eq_getElem_cons hl
  have e2 : O.drop j = o :: O.drop (j + 1) := by
    obtain ⟨hl, e⟩ := List.getElem?_eq_some_iff.1 ho
    rw [← e]; exact List.drop_eq_getElem_cons hl
  rw [e1, e2]; rfl
theorem pick_end {ks : List Lx.Tk} {i j : Nat} {S : List ByteArray} {O : List Int} (h : O.length ≤ j) : opPick ks i (S.drop j) (O.drop j) = 0 := by
  rw [List.drop_eq_nil_of_le h]
  cases S.drop j <;> rfl
def OpAfter (ks : List Lx.Tk) (l i : Nat) : Nat := if opAt ks l i = 0 then i else i + 1
set_option maxRecDepth 100000 in
set_option maxHeartbeats 2000000 in
theorem rd_op (g : Nat) (A : Option Addr) (n c : Nat) (ks : List Lx.Tk) (i l : Nat) (w : World) (h : Rdr w g A n c ks i) (hi : i ≤ n) (hn : n ≤ 9223372036854775807) (h1 : 1 ≤ l) (h5 : l ≤ 5) :
    Calls Try.prog 39 #[.pointer (some ⟨g, 0, none⟩), .int .i64 l] w (MvPost (.int .i64 (opAt ks l i)) g A n c ks (OpAfter ks l i) w) := by
  have HSG := Lib.hid (rd_signs l w h1 h5)
  have HR := Lib.hid h
  have hk2 := (sg_len l).2
  have HL := Lib.hid (sg_len l).1
  have HP := Lib.hid (sg_pos l)
  have HE := Lib.hid (op_pick ks l i)
  have HTK := Lib.hid (fun s w1 (h : Rdr w1 g A n c ks i) => rd_take g A n c ks i s w1 h hi hn)
  unfold OpAfter
  obtain ⟨r, hr⟩ : ∃ r, r = opAt ks l i := ⟨_, rfl⟩
  rw [← hr] at HE ⊢
  obtain ⟨jj, hjj⟩ : ∃ jj, jj = if r = 0 then i else i + 1 := ⟨_, rfl⟩
  rw [← hjj]
  have HJ := Lib.hid hjj
  clear hjj
  unfold SgPost at HSG
  obtain ⟨S, hS⟩ : ∃ S, S = sgS l := ⟨_, rfl⟩
  obtain ⟨O, hO⟩ : ∃ O, O = sgO l := ⟨_, rfl⟩
  rw [← hS, ← hO] at HE
  rw [← hO, ← hS] at HSG HL
  rw [← hO] at HP hk2
  obtain ⟨K, hK⟩ : ∃ K, K = O.length := ⟨_, rfl⟩
  rw [← hK] at HSG hk2 HL
  have HKO := Lib.hid hK
  have hgl := h.lt
  obtain ⟨lv, hlv⟩ : ∃ lv : Int, lv = l := ⟨_, rfl⟩
  rw [← hlv] at HSG ⊢
  clear hr hS hO hK h h1 h5 hn hi hlv
  go_enter Try.func39, Try.ntmps39
  go_wp2_with fail
  refine HSG.out.mono ?_
  rintro e w1 ⟨rfl, hb, hz, hcs, hco⟩
  have HB := Lib.hid hb; have HCS := Lib.hid hcs; have HCO := Lib.hid hco
  have HR1 := Lib.hid (HR.out.on hb)
  have HM1 := Lib.hid (Mv.of_below hb hgl)
  clear hb hcs hco HSG
  go_wp2
  go_goals
  go_loopw [16] (fun iv wr => ∃ j : Nat, iv = .int .i64 j ∧ j ≤ K ∧ Mv g w1 wr ∧ Rdr wr g A n c ks i ∧ r = opPick ks i (S.drop j) (O.drop j)) (fun iv _ => K - (intOf iv).toNat)
  case atStart => exact ⟨0, rfl, by omega, Mv.refl, HR1.out, HE.out⟩
  case round =>
    obtain ⟨j, rfl, hj, hmv, hrd, hpick⟩ := hrel
    have HM := Lib.hid hmv; have HRD := Lib.hid hrd; have HPK := Lib.hid hpick
    clear hmv hrd hpick
    by_cases hlt : j < K
    · obtain ⟨s, hs⟩ : ∃ s, S[j]? = some s := ⟨_, List.getElem?_eq_getElem (show j < S.length by rw [HL.out]; exact hlt)⟩
      obtain ⟨o, ho⟩ : ∃ o, O[j]? = some o := ⟨_, List.getElem?_eq_getElem (show j < O.length by rw [← HKO.out]; exact hlt)⟩
      have hcs := (HM.out.cell ⟨w.heap.size, j, none⟩ (by simp; omega) (by simp; omega)).trans (HCS.out j s hs)
      have hco := (HM.out.cell ⟨w.heap.size + 1, j, none⟩ (by simp; omega) (by simp; omega)).trans (HCO.out j o ho)
      have HS := Lib.hid (pick_step (ks := ks) (i := i) hs ho)
      have HO0 := Lib.hid (HP.out o (List.mem_of_getElem? ho))
      have HT := Lib.hid (HTK.out s wr HRD.out)
      have HCO2 := Lib.hid hco
      have hjz : w.heap.size + 1 < wr.heap.size := Nat.lt_of_lt_of_le hz HM.out.size
      clear hs ho hco
      cases hsg : isSign ks i s with
      | true =>
        rw [hsg] at HT HS
        simp only [if_true] at HT HS
        have HRO := Lib.hid (show r = o by rw [HPK.out, HS.out])
        clear hsg HS
        rw [HRO.out]
        go_wp2_with fail
        refine HT.out.mono ?_
        rintro e w2 ⟨rfl, hm2, hr2⟩
        have HM2 := Lib.hid hm2; have HR2 := Lib.hid hr2
        have hco := (hm2.cell ⟨w.heap.size + 1, j, none⟩ hjz (by simp; omega)).trans HCO2.out
        clear hm2 hr2
        go_wp2
        go_ret
        rw [HJ.out, HRO.out, if_neg HO0.out]
        exact ⟨rfl, HM1.out.trans (HM.out.trans HM2.out), HR2.out⟩
      | false =>
        rw [hsg] at HT HS
        simp only [Bool.false_eq_true, if_false] at HT HS
        clear hsg
        go_wp2_with fail
        refine HT.out.mono ?_
        rintro e w2 ⟨rfl, hm2, hr2⟩
        have HM2 := Lib.hid hm2; have HR2 := Lib.hid hr2
        clear hm2 hr2
        go_wp2
        go_roundw
        case rel => exact ⟨j + 1, by go_num, by omega, HM.out.trans HM2.out, HR2.out, HPK.out.trans HS.out⟩
        case measure => simp [intOf]; omega
    · have HRZ := Lib.hid (show r = 0 by rw [HPK.out]; exact pick_end (by rw [← HKO.out]; omega))
      rw [HRZ.out]
      go_wp2
      go_ret
      rw [HJ.out, HRZ.out, if_pos rfl]
      exact ⟨rfl, HM1.out.trans HM.out, HRD.out⟩
end Go.Proofs.Ytfknokclemljfaa
