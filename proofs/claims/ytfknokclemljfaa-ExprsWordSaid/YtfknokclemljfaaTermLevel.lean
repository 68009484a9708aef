/- Contract of level: an op's level and its sign. -/
import Derived.Test.YtfknokclemljfaaTermOp
import Derived.Test.YtfknokclemljfaaShelf
namespace Go.Proofs.Ytfknokclemljfaa
open Go.RowKit Mem
set_option linter.unusedVariables false
def lvlOf (op : Int) : Nat := if op = 9 then 1 else if op = 8 then 2 else if op = 10 ∨ op = 11 then 3 else if op = 5 ∨ op = 6 then 4 else if op = 7 then 5 else 6
def sgOf (op : Int) : ByteArray := if op = 9 then ⟨#[124]⟩ else if op = 8 then ⟨#[38]⟩ else if op = 10 then ⟨#[60, 60]⟩ else if op = 11 then ⟨#[62, 62]⟩ else if op = 5 then ⟨#[43]⟩ else if op = 6 then ⟨#[45]⟩ else if op = 7 then ⟨#[42]⟩ else ⟨#[]⟩
theorem lvl_bd (op : Int) : 1 ≤ lvlOf op ∧ lvlOf op ≤ 6 := by
  unfold lvlOf
  repeat' split
  all_goals decide
def hitAt (k : Nat) (op i : Int) : Prop := if lvlOf op = k then 0 ≤ i ∧ i < (sgO k).length ∧ (sgS k)[i.toNat]? = some (sgOf op) else i = -1
theorem lvl_hit (k : Nat) (op : Int) (h1 : 1 ≤ k) (h5 : k ≤ 5) : hitAt k op (Lib.idxOf (sgO k) op) := by
  unfold hitAt
  have : op = 9 ∨ op = 8 ∨ op = 10 ∨ op = 11 ∨ op = 5 ∨ op = 6 ∨ op = 7 ∨ (op ≠ 9 ∧ op ≠ 8 ∧ op ≠ 10 ∧ op ≠ 11 ∧ op ≠ 5 ∧ op ≠ 6 ∧ op ≠ 7) := by omega
  rcases lvl_cases h1 h5 with rfl | rfl | rfl | rfl | rfl
  all_goals
    rcases this with rfl | rfl | rfl | rfl | rfl | rfl | rfl | ⟨a1, a2, a3, a4, a5, a6, a7⟩
    · decide
    · decide
    · decide
    · decide
    · decide
    · decide
    · decide
    · have e : lvlOf op = 6 := by unfold lvlOf; simp [a1, a2, a3, a4, a5, a6, a7]
      rw [e]
      simp [sgO, Lib.idxOf, Lib.idxFrom]
      omega
theorem sg_six {op : Int} (h : lvlOf op = 6) : sgOf op = ⟨#[]⟩ := by
  unfold lvlOf at h
  unfold sgOf
  repeat' split at h
  all_goals try omega
  simp_all
def LvlPost (op : Int) (w : World) (e : Ending) (w' : World) : Prop := e = .returned (.tuple #[.int .i64 (lvlOf op : Nat), .string (sgOf op)]) ∧ Below w.heap.size w w'
set_option maxRecDepth 100000 in
set_option maxHeartbeats 2000000 in
theorem ex_level (op : Int) (w : World) : Calls Try.prog 41 #[.int .i64 op] w (LvlPost op w) := by
  have HLV := Lib.hid (fun k h1 h5 => lvl_hit k op h1 h5)
  have HSG := Lib.hid (fun k w1 h1 h5 => rd_signs k w1 h1 h5)
  go_enter Try.func41, Try.ntmps41
  go_wp2
  go_loopw [4] (fun kv wr => ∃ k : Nat, kv = .int .i64 k ∧ 1 ≤ k ∧ k ≤ lvlOf op ∧ Below w.heap.size w wr) (fun kv _ => 6 - (intOf kv).toNat)
  case atStart => exact ⟨1, rfl, by omega, (lvl_bd op).1, Below.refl _ _⟩
  case round =>
    obtain ⟨k, rfl, hk1, hk2, hbel⟩ := hrel
    have HW := Lib.hid hbel
    have HK2 := Lib.hid hk2
    clear hbel hk2
    by_cases hk6 : k < 6
    · have HS := Lib.hid (HSG.out k wr hk1 (by omega))
      have HH := Lib.hid (HLV.out k hk1 (by omega))
      unfold SgPost at HS
      obtain ⟨K, hK⟩ : ∃ K, K = (sgO k).length := ⟨_, rfl⟩
      rw [← hK] at HS
      have HKK := Lib.hid hK
      have hKb : K ≤ 2 := by rw [hK]; exact (sg_len k).2
      obtain ⟨kz, hkz⟩ : ∃ kz : Int, kz = k := ⟨_, rfl⟩
      rw [← hkz] at HS ⊢
      have HKZ := Lib.hid hkz
      have hz1 : 1 ≤ kz := by omega
      have hz6 : kz < 6 := by omega
      clear hK hkz hk1 hk6
      go_wp2_with fail
      refine HS.out.mono ?_
      rintro e w1 ⟨rfl, hb, hz, hcs, hco⟩
      have HB := Lib.hid (HW.out.trans (hb.mono HW.out.size)); have HCS := Lib.hid hcs
      have HIX := Lib.hid (Try.slices_Index_int (wr.heap.size + 1) 0 K K (sgO k) op w1 (by rw [HKK.out]; omega) (by omega) (fun j hj => by
        rw [Nat.zero_add]; exact hco j _ (by rw [List.getD_eq_getElem?_getD, List.getElem?_eq_getElem hj]; rfl)))
      rw [HKK.out, List.take_length] at HIX
      rw [← HKK.out] at HIX
      obtain ⟨ix, hix⟩ : ∃ ix, ix = Lib.idxOf (sgO k) op := ⟨_, rfl⟩
      rw [← hix] at HIX HH
      clear hb hcs hco HS hix
      go_wp2_with fail
      refine HIX.out.mono ?_
      rintro e w' ⟨rfl, rfl⟩
      unfold hitAt at HH
      by_cases he : lvlOf op = k
      · rw [if_pos he] at HH
        have h0 := HH.out.1
        have hlt : ix < K := by rw [HKK.out]; exact HH.out.2.1
        have hcell := HCS.out _ _ HH.out.2.2
        have HE := Lib.hid he
        obtain ⟨sg, hsg⟩ : ∃ sg, sg = sgOf op := ⟨_, rfl⟩
        rw [← hsg] at hcell
        have HSGG := Lib.hid hsg
        clear he hsg
        go_wp2
        go_quiet (fail)
        go_wp2
        go_ret2
        show Ending.returned (.tuple #[.int .i64 kz, .string sg]) = _ ∧ _
        exact ⟨by rw [HSGG.out, HKZ.out, HE.out], below_drewN HB.out _⟩
      · rw [if_neg he] at HH
        have HE := Lib.hid he
        have HIXM := Lib.hid HH.out
        obtain rfl := HIXM.out
        clear he
        go_wp2
        go_roundw
        case rel => exact ⟨k + 1, by rw [HKZ.out]; go_num, by omega, by have := HK2.out; have := HE.out; omega, HB.out⟩
        case measure => rw [HKZ.out]; simp [intOf]; have := HKZ.out; omega
    · obtain rfl : k = 6 := by have := (lvl_bd op).2; have := HK2.out; omega
      have HL6 := Lib.hid (show lvlOf op = 6 by have := (lvl_bd op).2; have := HK2.out; omega)
      go_wp2
      go_ret2
      refine ⟨?_, HW.out⟩
      show Ending.returned (.tuple #[.int .i64 6, .string ⟨#[]⟩]) = _
      rw [HL6.out, sg_six HL6.out]
      rfl
end Go.Proofs.Ytfknokclemljfaa
