/- The laws BlocksInside and BlocksRight. -/
import Derived.Test.YtoippgiahldkmaaBlockAwake
namespace Go.Proofs.Ytoippgiahldkmaa
open Go.RowKit Mem
set_option linter.unusedVariables false
set_option maxRecDepth 100000 in
set_option maxHeartbeats 4000000 in
theorem law_BlocksInside (A : Option Addr) (n c : Nat) (ls : List Ln) (i : Int) (w : World) (hx : Lines w w.heap.size A n ls) (hn : n ≤ 9223372036854775807) (h0 : -9223372036854775808 ≤ i) (h1 : i ≤ 9223372036854775807) :
    Calls Try.prog 10 #[.slice A n c, .int .i64 i] w fun e w' => e = .returned (.bool true) ∧ Below w.heap.size w w' := by
  have HX := Lib.hid hx
  clear hx
  by_cases hbig : 1000 < n
  · go_enter Try.func10, Try.ntmps10
    go_wp2_with fail
    refine (law21_awake _).mono ?_
    rintro e w1 ⟨rfl, hb⟩
    have HB := Lib.hid hb
    clear hb
    go_wp2
    go_ret
    exact ⟨rfl, HB.out⟩
  · go_enter Try.func10, Try.ntmps10
    go_wp2_with fail
    refine (blocks_Inside _ _ _ _ ls _ HX.out (Nat.le_refl _) (by omega)).mono ?_
    rintro e w1 ⟨A1, c1, rfl, hb1, hbel1⟩
    have HB1 := Lib.hid hb1; have HE1 := Lib.hid hbel1
    clear hb1 hbel1
    have hz1 := HE1.out.size
    go_wp2_with fail
    refine (ref21_Inside _ _ _ _ ls _ (HX.out.below HE1.out) (by omega) (by omega)).mono ?_
    rintro e w2 ⟨A2, c2, rfl, hb2, hbel2⟩
    have HB2 := Lib.hid hb2; have HB12 := Lib.hid (HB1.out.below hbel2)
    have HE2 := Lib.hid (HE1.out.trans (hbel2.mono HE1.out.size))
    have hz2 := hbel2.size
    clear hb2 hbel2
    go_wp2_with fail
    refine (law_bools _ _ _ _ _ _ w2.heap.size _ _ _ (Sl.more HB12.out hz2) HB2.out (by omega) (by omega)).mono ?_
    rintro e w3 ⟨rfl, m3, rfl⟩
    rw [decide_eq_true (show insideOf ls = insideOf ls from rfl)]
    have HE3 := Lib.hid (below_drewN HE2.out m3)
    have hz3 : (w2.drewN m3).heap.size = w2.heap.size := rfl
    generalize w2.drewN m3 = w3 at HE3 hz3 ⊢
    go_wp2_with fail
    refine (blocks_Cond _ _ _ _ ls i _ (HX.out.below HE3.out) (by omega) (by omega) h0 h1).mono ?_
    rintro e w4 ⟨rfl, hbel4⟩
    have HE4 := Lib.hid (HE3.out.trans (hbel4.mono HE3.out.size))
    clear hbel4
    go_wp2_with fail
    refine (ref21_Cond _ _ _ _ ls i _ (HX.out.below HE4.out) HE4.out.size (by omega) h0 h1).mono ?_
    rintro e w5 ⟨rfl, hbel5⟩
    have HE5 := Lib.hid (HE4.out.trans (hbel5.mono HE4.out.size))
    clear hbel5
    go_wp2_with fail
    refine (law21_awake _).mono ?_
    rintro e w6 ⟨rfl, hbel6⟩
    have HE6 := Lib.hid (HE5.out.trans (hbel6.mono HE5.out.size))
    clear hbel6
    go_wp2
    go_ret
    exact ⟨rfl, HE6.out⟩
/-- What the check tells. -/
theorem checkOf_cases (ls : List Ln) : checkOf ls = (0, 0) ∨ ∃ x, checkOf ls = (7, x) := by
  unfold checkOf
  split
  · exact .inr ⟨_, rfl⟩
  · split
    · exact .inr ⟨_, rfl⟩
    · exact .inl rfl
theorem checkGo_all : ∀ (ls : List Ln) (cs : List Int) (i : Nat) (left : Int), checkGo ls cs i left = none → ∀ (k : Nat) (L : Ln) (ci : Int), ls[k]? = some L → cs[k]? = some ci → ∃ lf, (okStep lf L ci).1 = true
  | [], _, _, _, _, k, L, ci, h, _ => by cases h
  | _ :: _, [], _, _, _, k, L, ci, _, h => by cases h
  | M :: ls, d :: cs, i, left, h, k, L, ci, hL, hc => by
    unfold checkGo at h
    cases ho : (okStep left M d).1 with
    | false => rw [ho] at h; cases h
    | true =>
      rw [ho] at h
      cases k with
      | zero =>
        simp only [List.getElem?_cons_zero, Option.some.injEq] at hL hc
        subst hL hc
        exact ⟨left, ho⟩
      | succ k => exact checkGo_all ls cs (i + 1) _ h k L ci (by simpa using hL) (by simpa using hc)
theorem check_none {ls : List Ln} (h : checkOf ls = (0, 0)) : checkGo ls (aSt ls).1 0 0 = none := by
  unfold checkOf at h
  cases hc : checkGo ls (aSt ls).1 0 0 with
  | none => rfl
  | some i => rw [hc] at h; cases h
theorem ask_out : ∀ (ls : List Ln) (s : List Int × List Int) (k : Nat) (L : Ln), ls[k]? = some L → insB L = false → (ls.foldl aStep s).1[s.1.length + k]? = some (-1)
  | [], _, _, _, h, _ => by cases h
  | M :: ls, s, k, L, h, hi => by
    cases k with
    | zero =>
      simp only [List.getElem?_cons_zero, Option.some.injEq] at h
      subst h
      show (ls.foldl aStep (aStep s M)).1[s.1.length]? = _
      have hp : ∀ (ls : List Ln) (s : List Int × List Int) (j : Nat) (x : Int), s.1[j]? = some x → (ls.foldl aStep s).1[j]? = some x := by
        intro ls
        induction ls with
        | nil => intro s j x h; exact h
        | cons K ls ih =>
          intro s j x hj
          refine ih _ _ _ ?_
          have hlt : j < s.1.length := (List.getElem?_eq_some_iff.1 hj).1
          have : ∃ t, (aStep s K).1 = s.1 ++ [t] := by
            unfold aStep
            split
            · split <;> exact ⟨_, rfl⟩
            · exact ⟨_, rfl⟩
          obtain ⟨t, ht⟩ := this
          rw [ht, List.getElem?_append_left hlt]; exact hj
      refine hp ls _ _ _ ?_
      rw [aStep_out hi]
      simp
    | succ k =>
      have := ask_out ls (aStep s M) k L (by simpa using h) hi
      rw [aStep_len] at this
      rw [show s.1.length + (k + 1) = s.1.length + 1 + k by omega]
      exact this
theorem asked_out {ls : List Ln} {k : Nat} {L : Ln} (h : ls[k]? = some L) (hi : insB L = false) : (aSt ls).1[k]? = some (-1) := by
  have := ask_out ls ([], []) k L h hi
  unfold aSt
  simpa using this
/-- Where blocks may be an instruction has the condition that is asked. -/
theorem right_at {ls : List Ln} (h : checkOf ls = (0, 0)) {k : Nat} {L : Ln} {ci : Int} (hL : ls[k]? = some L) (hc : (aSt ls).1[k]? = some ci) (hi : insB L = true) (hown : (L.kind == 1 && L.op == 35 && !(ci != -1)) = false) : L.c = condOf ls (k : Int) := by
  obtain ⟨lf, ho⟩ := checkGo_all _ _ _ _ (check_none h) k L ci hL hc
  rw [condOf_at hc]
  unfold okStep at ho
  rw [hi] at ho
  by_cases hci : ci = -1
  · subst hci
    rw [if_pos rfl]
    simp only [bne_self_eq_false, Bool.and_false, Bool.false_eq_true, if_false] at ho
    simp only [bne_self_eq_false, Bool.not_false, Bool.and_true] at hown
    split at ho
    · exfalso
      unfold insB at hi
      simp at hi ho
      omega
    · simp only [if_true, hown, Bool.or_false] at ho
      simpa using ho
  · rw [if_neg hci]
    have : (ci != -1) = true := by simpa using hci
    rw [this] at ho
    simp only [Bool.and_true, if_true, Bool.and_eq_true] at ho
    simpa using ho.2.1
end Go.Proofs.Ytoippgiahldkmaa
