/- Contract of the reference's Names . -/
import Derived.Test.YtnngmpimobolpaaSymRef
import Derived.Test.YtnngmpimobolpaaSymLines
import Derived.Deep.LoopGhost
import Derived.Deep.DeepCutAuto
namespace Go.Proofs.Ytnngmpimobolpaa
open Go.RowKit Mem
set_option linter.unusedVariables false
theorem Try.infoText : (Try.prog.info? 9).map (fun i => (i.zero, i.size, i.bytes)) = some (some (.string ⟨#[]⟩), 1, 16) := by kernel_rfl
def labS (out : List ByteArray) (L : Ln) : Option (List ByteArray) := if L.lab.size = 0 then some out else if hasB L.lab out = true then none else some (out ++ [L.lab])
def refS (o : List ByteArray) (L : Ln) : Option (List ByteArray) := if L.kind = 6 then (if hasB L.ref o = true then none else some (o ++ [L.ref])) else some o
theorem add_two (out : List ByteArray) (L : Ln) : addAll out (ownOf L) = (labS out L).bind fun o => refS o L := by
  unfold ownOf labS refS
  by_cases h1 : L.lab.size = 0
  · rw [if_pos h1, if_pos h1]
    by_cases h2 : L.kind = 6
    · simp only [if_pos h2, List.nil_append, addAll, Option.bind_some]
    · simp only [if_neg h2, List.nil_append, addAll, Option.bind_some]
  · rw [if_neg h1, if_neg h1]
    cases h3 : hasB L.lab out with
    | true =>
      by_cases h2 : L.kind = 6
      · simp [h2, addAll, h3]
      · simp [h2, addAll, h3]
    | false =>
      by_cases h2 : L.kind = 6
      · simp [h2, addAll, h3]
      · simp [h2, addAll, h3]
/-- What a row tells behind a line. -/
def afterS (k : Nat) (r : List Ln) (x : Option (List ByteArray)) : List ByteArray × Int × Int := match x with
  | none => ([], 5, (k : Int) + 1)
  | some o => namesF (k + 1) o r
theorem names_two {ls : List Ln} {k : Nat} {out : List ByteArray} {L : Ln} {r : List ByteArray × Int × Int} (hk : ls[k]? = some L) (h : r = namesF k out (ls.drop k)) :
    r = afterS k (ls.drop (k + 1)) ((labS out L).bind fun o => refS o L) := by
  rw [names_step hk h, add_two]; rfl
/-- What Names gives back: names as a slice, the error's number, its line. -/
def NamesPost (r : List ByteArray × Int × Int) (w : World) (e : Ending) (w' : World) : Prop :=
  ∃ (A : Option Addr) (n c : Nat), e = .returned (.tuple #[.slice A n c, .int .i64 r.2.1, .int .i64 r.2.2]) ∧ Nms w' w'.heap.size A n r.1 ∧ Below w.heap.size w w'
theorem ret_three {a a' : Value} {b b' c c' : Int} (h1 : a = a') (h2 : b = b') (h3 : c = c') : Ending.returned (.tuple #[a, .int .i64 b, .int .i64 c]) = .returned (.tuple #[a', .int .i64 b', .int .i64 c']) := by rw [h1, h2, h3]
set_option maxRecDepth 100000 in
set_option maxHeartbeats 8000000 in
theorem ref_Names (A : Option Addr) (n c B : Nat) (ls : List Ln) (w : World) (hx : Lines w B A n ls) (hB : B ≤ w.heap.size) (hn : n ≤ 1000) :
    Calls Try.prog 29 #[.slice A n c] w (NamesPost (namesOf ls) w) := by
  obtain ⟨i0, hi, hz0, hz1, hz2⟩ := info_parts Try.infoText
  have HX := Lib.hid hx
  have HLN := Lib.hid hx.len
  have HBB := Lib.hid hB
  clear hx hB
  obtain ⟨r, hr⟩ : ∃ r, r = namesOf ls := ⟨_, rfl⟩
  rw [← hr]
  have HR := Lib.hid hr
  clear hr
  go_enter Try.func29, Try.ntmps29
  go_wp2
  go_loopg [5, 6] n (fun gg ov iv wr => ∃ (k m : Nat) (out : List ByteArray), iv = .int .i64 k ∧ k ≤ n ∧ gg = n - k ∧ m ≤ 2 * k ∧ out.length = m ∧ wr.ownsRow w.heap.size 9 1 ov m (nmCells out) ∧ Below w.heap.size w wr ∧ r = namesF k out (ls.drop k))
  case atStart => exact ⟨0, 0, [], rfl, by omega, by omega, by omega, rfl, own_nil _ _ _, Below.refl _ _, HR.out⟩
  case round =>
    obtain ⟨k, m, out, rfl, hk, hgk, hm, hol, hown, hbel, hrr⟩ := hrel
    have HGK := Lib.hid hgk
    have HW := Lib.hid hbel; have HO := Lib.hid hown; have HRR := Lib.hid hrr; have HOL := Lib.hid hol
    obtain ⟨AO, cO, rfl, hcO, _⟩ := own_shape hown
    clear hbel hown hrr hol hgk
    by_cases hlt : k < n
    · obtain ⟨ad, p, L, rfl, hp, hpb, hL, hok, hc⟩ := (HX.out.below (HW.out.mono HBB.out)).get hlt
      have HS := Lib.hid (names_two hL HRR.out)
      have hpw : p.block < w.heap.size := Nat.lt_of_lt_of_le hpb HBB.out
      obtain ⟨c0, c1, _, _, _, _, _, _, _, _, _, _, c12, _⟩ := cells19 hc
      have HIN := Lib.hid (ref_in L.lab AO m cO out wr (Nms.of_own HO.out) (by omega))
      have C1 := Lib.hid c1; have C12 := Lib.hid c12
      clear hc hL hok HR HRR c1 c12
      have he := emp_iff L.lab
      obtain ⟨bE, hE⟩ : ∃ b, L.lab.toList.isEmpty = b := ⟨_, rfl⟩
      have HE := Lib.hid (show decide (L.lab.size = 0) = bE by rw [← he]; exact hE)
      clear he
      go_upto_if 18 with (fail)
      go_cut [5] (fun ov2 wx => ∃ (m2 : Nat) (out2 : List ByteArray), labS out L = some out2 ∧ out2.length = m2 ∧ m2 ≤ m + 1 ∧ wx.ownsRow w.heap.size 9 1 ov2 m2 (nmCells out2) ∧ Below w.heap.size w wx)
      case first =>
        cases bE with
        | true =>
          have HLS := Lib.hid (show labS out L = some out by unfold labS; rw [if_pos (by have := HE.out; simpa using this)])
          go_wp2
          go_meet
          exact ⟨m, out, HLS.out, HOL.out, by omega, HO.out, HW.out⟩
        | false =>
          have hE0 : ¬ L.lab.size = 0 := by have := HE.out; simpa using this
          have HE0 := Lib.hid hE0
          clear hE0
          cases hh : hasB L.lab out with
          | true =>
            rw [hh] at HIN
            have HFA := Lib.hid (show r = ([], 5, (k : Int) + 1) by rw [HS.out]; unfold labS; rw [if_neg HE0.out, if_pos hh]; rfl)
            go_wp2_with (go_at_call 41; refine HIN.out.mono ?_; rintro e w' ⟨rfl, rfl⟩)
            go_ret3
            exact ⟨_, _, _, ret_three rfl (by rw [HFA.out]) (by rw [HFA.out]), by rw [HFA.out]; exact Nms.nil, HW.out⟩
          | false =>
            rw [hh] at HIN
            have HLS := Lib.hid (show labS out L = some (out ++ [L.lab]) by unfold labS; rw [if_neg HE0.out, if_neg (by rw [hh]; decide)])
            go_wp2_with (first | (go_at_call 41; refine HIN.out.mono ?_; rintro e w' ⟨rfl, rfl⟩) | (at_builtin; refine wpList_append_lies _ rfl _ _ _ rfl w.heap.size 9 i0 _ 1 16 Try.underlying34 hi hz0 hz1 hz2 rfl (by omega) _ (m) (nmCells (out)) rfl (HO.out.alloc _) ⟨wr.heap.size, 0, none⟩ 1 1 [.string L.lab] rfl rfl (World.news_of_block (cs := #[.string L.lab]) (t := 9) (fr := (0, 0)) (heap_alloc_new wr _)) (by simp [Value.oneCell']) (by omega) (by unfold maxLen; omega) (by omega) (by have := HW.out.size; simp; omega) (wr.heap.size + 1) (by simp) ?_; intro g cap wx hown1 hgrow1 hat1 hlt1))
            go_meet
            exact ⟨m + 1, out ++ [L.lab], HLS.out, by simp [HOL.out], by omega, by rw [nmCells_append]; exact hown1, (HW.out.alloc HW.out.size (.cells #[.string L.lab] 9)).grown hgrow1 (by have := HW.out.size; simp; omega) (fun g hg => (own_block HO.out g hg).1)⟩
      case rest =>
        obtain ⟨m2, out2, hls, hol2, hm2, hown2, hbel2⟩ := hcut
        have HLS := Lib.hid hls; have HOL2 := Lib.hid hol2; have HO2 := Lib.hid hown2; have HW2 := Lib.hid hbel2
        obtain ⟨A2, cO2, rfl, hcO2, _⟩ := own_shape hown2
        clear hls hol2 hown2 hbel2 c0
        have x1 := (HW2.out.cell (p := ⟨p.block, p.off + 1, none⟩) hpw).trans ((HW.out.cell (p := ⟨p.block, p.off + 1, none⟩) hpw).symm.trans C1.out)
        have x12 := (HW2.out.cell (p := ⟨p.block, p.off + 12, none⟩) hpw).trans ((HW.out.cell (p := ⟨p.block, p.off + 12, none⟩) hpw).symm.trans C12.out)
        have HIN2 := Lib.hid (ref_in L.ref A2 m2 cO2 out2 wc (Nms.of_own HO2.out) (by omega))
        by_cases h6 : L.kind = 6
        · have h6' : (L.kind == 6) = true := by simpa using h6
          cases hh2 : hasB L.ref out2 with
          | true =>
            rw [hh2] at HIN2
            have HFA := Lib.hid (show r = ([], 5, (k : Int) + 1) by rw [HS.out, HLS.out, Option.bind_some]; unfold refS; rw [if_pos h6, if_pos hh2]; rfl)
            clear h6
            go_wp2_with (go_at_call 41; refine HIN2.out.mono ?_; rintro e w' ⟨rfl, rfl⟩)
            go_ret3
            exact ⟨_, _, _, ret_three rfl (by rw [HFA.out]) (by rw [HFA.out]), by rw [HFA.out]; exact Nms.nil, HW2.out⟩
          | false =>
            rw [hh2] at HIN2
            have HRS := Lib.hid (show r = namesF (k + 1) (out2 ++ [L.ref]) (ls.drop (k + 1)) by rw [HS.out, HLS.out, Option.bind_some]; unfold refS; rw [if_pos h6, if_neg (by rw [hh2]; decide)]; rfl)
            clear h6
            go_wp2_with (first | (go_at_call 41; refine HIN2.out.mono ?_; rintro e w' ⟨rfl, rfl⟩) | (at_builtin; refine wpList_append_lies _ rfl _ _ _ rfl w.heap.size 9 i0 _ 1 16 Try.underlying34 hi hz0 hz1 hz2 rfl (by omega) _ (m2) (nmCells (out2)) rfl (HO2.out.alloc _) ⟨wc.heap.size, 0, none⟩ 1 1 [.string L.ref] rfl rfl (World.news_of_block (cs := #[.string L.ref]) (t := 9) (fr := (0, 0)) (heap_alloc_new wc _)) (by simp [Value.oneCell']) (by omega) (by unfold maxLen; omega) (by omega) (by have := HW2.out.size; simp; omega) (wc.heap.size + 1) (by simp) ?_; intro g cap wx hown3 hgrow3 hat3 hlt3))
            go_roundg (n - (k + 1))
            case measure => have := HGK.out; omega
            case rel => exact ⟨k + 1, m2 + 1, out2 ++ [L.ref], by go_num, by omega, rfl, by omega, by simp [HOL2.out], by rw [nmCells_append]; exact hown3, (HW2.out.alloc HW2.out.size (.cells #[.string L.ref] 9)).grown hgrow3 (by have := HW2.out.size; simp; omega) (fun g hg => (own_block HO2.out g hg).1), HRS.out⟩
        · have h6' : (L.kind == 6) = false := by simpa using h6
          have HRS := Lib.hid (show r = namesF (k + 1) out2 (ls.drop (k + 1)) by rw [HS.out, HLS.out, Option.bind_some]; unfold refS; rw [if_neg h6]; rfl)
          clear h6
          go_wp2
          go_roundg (n - (k + 1))
          case measure => have := HGK.out; omega
          case rel => exact ⟨k + 1, m2, out2, by go_num, by omega, rfl, by omega, HOL2.out, HO2.out, HW2.out, HRS.out⟩
    · have HE := Lib.hid (names_end (by rw [HLN.out]; omega) HRR.out)
      go_wp2
      go_ret3
      exact ⟨_, _, _, ret_three rfl (by rw [HE.out]) (by rw [HE.out]), by rw [HE.out]; exact Nms.of_own HO.out, HW.out⟩
end Go.Proofs.Ytnngmpimobolpaa
