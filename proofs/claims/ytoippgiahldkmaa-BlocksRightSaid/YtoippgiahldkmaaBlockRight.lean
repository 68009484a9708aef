/- The law BlocksRight. -/
import Derived.Test.YtoippgiahldkmaaBlockInside
namespace Go.Proofs.Ytoippgiahldkmaa
open Go.RowKit Mem
set_option linter.unusedVariables false
theorem insB_no {L : Ln} (h : insB L = false) : (L.kind != 1) = true ∧ (L.kind != 2) = true := by
  unfold insB at h; simp at h; simpa using h
set_option maxRecDepth 100000 in
set_option maxHeartbeats 4000000 in
theorem law_BlocksRight (A : Option Addr) (n c : Nat) (ls : List Ln) (w : World) (hx : Lines w w.heap.size A n ls) (hn : n ≤ 9223372036854775807) :
    Calls Try.prog 11 #[.slice A n c] w fun e w' => e = .returned (.bool true) ∧ Below w.heap.size w w' := by
  have HX := Lib.hid hx
  have HLL := Lib.hid hx.len
  clear hx
  by_cases hbig : 300 < n
  · go_enter Try.func11, Try.ntmps11
    go_wp2_with fail
    refine (law21_awake _).mono ?_
    rintro e w1 ⟨rfl, hb⟩
    have HB := Lib.hid hb
    clear hb
    go_wp2
    go_ret
    exact ⟨rfl, HB.out⟩
  rcases checkOf_cases ls with hck | ⟨x, hck⟩
  rotate_left
  · have HCK := Lib.hid hck
    clear hck
    go_enter Try.func11, Try.ntmps11
    go_wp2_with fail
    refine (blocks_Check _ _ _ _ ls _ HX.out (Nat.le_refl _) (by omega)).mono ?_
    rintro e w1 ⟨rfl, hb1⟩
    rw [HCK.out]
    have HB1 := Lib.hid hb1
    clear hb1
    go_wp2_with fail
    refine (law21_awake _).mono ?_
    rintro e w2 ⟨rfl, hb⟩
    have HB := Lib.hid (HB1.out.trans (hb.mono HB1.out.size))
    clear hb
    go_wp2
    go_ret
    exact ⟨rfl, HB.out⟩
  have HCK := Lib.hid hck
  clear hck
  obtain ⟨os, hos⟩ : ∃ os, os = (aSt ls).1 := ⟨_, rfl⟩
  have HOS := Lib.hid hos
  have HOL := Lib.hid (show os.length = n by rw [hos, aSt_len]; exact HLL.out)
  clear hos
  go_enter Try.func11, Try.ntmps11
  go_wp2_with fail
  refine (blocks_Check _ _ _ _ ls _ HX.out (Nat.le_refl _) (by omega)).mono ?_
  rintro e w1 ⟨rfl, hb1⟩
  rw [HCK.out]
  have HB1 := Lib.hid hb1
  clear hb1
  have hz1 := HB1.out.size
  go_wp2_with fail
  refine (blocks_Inside _ _ _ _ ls _ (HX.out.below HB1.out) (by omega) (by omega)).mono ?_
  rintro e w2 ⟨A2, c2, rfl, hin, hb2⟩
  have HIN := Lib.hid hin
  have HB2 := Lib.hid (HB1.out.trans (hb2.mono HB1.out.size))
  clear hin hb2
  have hz2 := HB2.out.size
  go_wp2_with fail
  go_loopw [4] (fun iv wr => ∃ k : Nat, k ≤ n ∧ iv = .int .i64 k ∧ Below w.heap.size w wr ∧ Below w2.heap.size w2 wr) (fun iv _ => n - (intOf iv).toNat)
  case atStart => exact ⟨0, by omega, rfl, HB2.out, Below.refl _ _⟩
  case round =>
    obtain ⟨k, hk, rfl, hba, hbb⟩ := hrel
    have HA := Lib.hid hba; have HB := Lib.hid hbb
    have hzw := hba.size
    clear hba hbb
    by_cases hlt : k < n
    · obtain ⟨ad, p, L, rfl, hp, hpb, hL, hok, hc⟩ := (HX.out.below HA.out).get hlt
      obtain ⟨ci, hci⟩ : ∃ ci, os[k]? = some ci := ⟨os[k]'(by rw [HOL.out]; exact hlt), List.getElem?_eq_getElem _⟩
      have HLK := Lib.hid hL; have HCI := Lib.hid hci
      obtain ⟨ad2, z, rfl, hb3, hz, hc3⟩ := (HIN.out.below HB.out).get hlt
      obtain rfl : z = (ci != -1) := by
        unfold insideOf at hz
        rw [← HOS.out, List.getElem?_map, HCI.out] at hz
        simpa using hz.symm
      have hkn : (k : Int) < (n : Int) := by omega
      have f1 := field hc (j := 0) (u := .int .i64 L.kind) rfl
      have f2 := field hc (j := 1) (u := .int .i64 L.op) rfl
      have f11 := field hc (j := 10) (u := .int .i64 L.c) rfl
      simp only [Nat.zero_add, Nat.reduceAdd] at f1 f2 f11
      clear hL hci hz hc
      cases hi1 : insB L with
      | false =>
        obtain ⟨k1, k2⟩ := insB_no hi1
        have hm : ci = -1 := by
          have := asked_out HLK.out hi1
          rw [← HOS.out, HCI.out] at this
          simpa using this
        subst hm
        have hdk : decide (n ≤ k) = false := by simp; omega
        simp only [bne_self_eq_false] at hc3
        go_wp2
        go_roundw
        case rel => exact ⟨k + 1, by omega, by go_num, HA.out, HB.out⟩
        case measure => simp [intOf]; omega
      | true =>
        cases hown : (L.kind == 1 && L.op == 35 && !(ci != -1)) with
        | true =>
          simp only [Bool.and_eq_true, Bool.not_eq_true'] at hown
          obtain ⟨⟨ho1, ho2⟩, ho3⟩ := hown
          have hk1 : (L.kind != 1) = false := by simp at ho1 ⊢; exact ho1
          rw [ho3] at hc3
          go_wp2
          go_quiet (fail)
          go_wp2
          go_roundw
          case rel => exact ⟨k + 1, by omega, by go_num, below_drewN HA.out _, below_drewN HB.out _⟩
          case measure => simp [intOf]; omega
        | false =>
          have HEQ := Lib.hid (right_at HCK.out HLK.out (show (aSt ls).1[k]? = some ci by rw [← HOS.out]; exact HCI.out) hi1 hown)
          cases ho1 : (L.kind == 1) with
          | true =>
            have hk1 : (L.kind != 1) = false := by simp at ho1 ⊢; exact ho1
            cases ho2 : (L.op == 35) with
            | true =>
              have ho3 : (ci != -1) = true := by simpa [ho1, ho2] using hown
              rw [ho3] at hc3
              go_wp2
              have hzd : w.heap.size ≤ wr.drew.heap.size := hzw
              have hk64 : -9223372036854775808 ≤ (k : Int) := by omega
              have hk65 : (k : Int) ≤ 9223372036854775807 := by omega
              have hn1000 : n ≤ 1000 := by omega
              go_region_held3 (fun w' => w'.cell? ⟨p.block, p.off + 11, none⟩ = some (.int .i64 L.c) ∧ Below w.heap.size w w' ∧ Below w2.heap.size w2 w') (first | exact ⟨f11, HA.out.drew, HB.out.drew⟩ | exact ⟨f4, HA4.out, HB4.out⟩) (first | (go_at_call 27; refine (blocks_Cond _ _ _ _ ls (k : Int) _ (HX.out.below HA.out.drew) hzd hn1000 hk64 hk65).mono ?_; rintro e w4 ⟨rfl, hb4⟩; rw [← HEQ.out]; have f4 := (hb4.cell (p := ⟨p.block, p.off + 11, none⟩) (Nat.lt_of_lt_of_le hpb hzd)).trans f11; have HA4 := Lib.hid (HA.out.drew.trans (hb4.mono HA.out.drew.size)); have HB4 := Lib.hid (HB.out.drew.trans (hb4.mono HB.out.drew.size)); clear hb4))
              go_wp2
              go_roundw
              case rel => exact ⟨k + 1, by omega, by go_num, HA4.out, HB4.out⟩
              case measure => simp [intOf]; omega
            | false =>
              go_wp2
              have hzd : w.heap.size ≤ wr.drew.heap.size := hzw
              have hk64 : -9223372036854775808 ≤ (k : Int) := by omega
              have hk65 : (k : Int) ≤ 9223372036854775807 := by omega
              have hn1000 : n ≤ 1000 := by omega
              go_region_held3 (fun w' => w'.cell? ⟨p.block, p.off + 11, none⟩ = some (.int .i64 L.c) ∧ Below w.heap.size w w' ∧ Below w2.heap.size w2 w') (first | exact ⟨f11, HA.out.drew, HB.out.drew⟩ | exact ⟨f4, HA4.out, HB4.out⟩) (first | (go_at_call 27; refine (blocks_Cond _ _ _ _ ls (k : Int) _ (HX.out.below HA.out.drew) hzd hn1000 hk64 hk65).mono ?_; rintro e w4 ⟨rfl, hb4⟩; rw [← HEQ.out]; have f4 := (hb4.cell (p := ⟨p.block, p.off + 11, none⟩) (Nat.lt_of_lt_of_le hpb hzd)).trans f11; have HA4 := Lib.hid (HA.out.drew.trans (hb4.mono HA.out.drew.size)); have HB4 := Lib.hid (HB.out.drew.trans (hb4.mono HB.out.drew.size)); clear hb4))
              go_wp2
              go_roundw
              case rel => exact ⟨k + 1, by omega, by go_num, HA4.out, HB4.out⟩
              case measure => simp [intOf]; omega
          | false =>
            have hk1 : (L.kind != 1) = true := by simp at ho1 ⊢; exact ho1
            have hk2 : (L.kind != 2) = false := by unfold insB at hi1; simp at hi1 ho1 ⊢; omega
            go_wp2
            have hzd : w.heap.size ≤ wr.drew.heap.size := hzw
            have hk64 : -9223372036854775808 ≤ (k : Int) := by omega
            have hk65 : (k : Int) ≤ 9223372036854775807 := by omega
            have hn1000 : n ≤ 1000 := by omega
            go_region_held3 (fun w' => w'.cell? ⟨p.block, p.off + 11, none⟩ = some (.int .i64 L.c) ∧ Below w.heap.size w w' ∧ Below w2.heap.size w2 w') (first | exact ⟨f11, HA.out.drew, HB.out.drew⟩ | exact ⟨f4, HA4.out, HB4.out⟩) (first | (go_at_call 27; refine (blocks_Cond _ _ _ _ ls (k : Int) _ (HX.out.below HA.out.drew) hzd hn1000 hk64 hk65).mono ?_; rintro e w4 ⟨rfl, hb4⟩; rw [← HEQ.out]; have f4 := (hb4.cell (p := ⟨p.block, p.off + 11, none⟩) (Nat.lt_of_lt_of_le hpb hzd)).trans f11; have HA4 := Lib.hid (HA.out.drew.trans (hb4.mono HA.out.drew.size)); have HB4 := Lib.hid (HB.out.drew.trans (hb4.mono HB.out.drew.size)); clear hb4))
            go_wp2
            go_roundw
            case rel => exact ⟨k + 1, by omega, by go_num, HA4.out, HB4.out⟩
            case measure => simp [intOf]; omega
    · obtain rfl : n = k := by omega
      go_wp2_with fail
      refine (law21_awake _).mono ?_
      rintro e w4 ⟨rfl, hb4⟩
      have HB4 := Lib.hid (HA.out.trans (hb4.mono HA.out.size))
      clear hb4
      go_wp2
      go_ret
      exact ⟨rfl, HB4.out⟩
end Go.Proofs.Ytoippgiahldkmaa
