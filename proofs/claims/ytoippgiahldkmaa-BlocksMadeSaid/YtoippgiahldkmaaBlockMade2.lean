/- The law BlocksMade: the walk. -/
import Derived.Test.YtoippgiahldkmaaBlockMade
import Derived.IntWalk
namespace Go.Proofs.Ytoippgiahldkmaa
open Go.RowKit Mem
set_option linter.unusedVariables false
theorem own_grown {w w' : World} {base B n : Nat} {e : TypeId} {size : Nat} {v : Value} {xs : List Value} {a : World} (h : Below B a w) (ho : w.ownsRow base e size v n xs) (hB : B ≤ base) (hBw : B ≤ w.heap.size) (hg : w.grownBy w' v.ownBlock) : Below B a w' :=
  h.grown hg hBw (fun q hq => Nat.le_trans hB ((own_block ho) q hq).1)
theorem own_keep {w w' : World} {base n : Nat} {e : TypeId} {size : Nat} {v : Value} {xs : List Value} (h : w.ownsRow base e size v n xs) (hb : Below w.heap.size w w') : w'.ownsRow base e size v n xs := by
  obtain ⟨hl, hv | ⟨g, cap, cur, hv, hbb, hg, h1⟩⟩ := h
  · exact ⟨hl, .inl hv⟩
  · exact ⟨hl, .inr ⟨g, cap, cur, hv, hbb, (hb.block g (Array.getElem?_eq_some_iff.1 hg).1).trans hg, h1⟩⟩
theorem news_line (w : World) (L : Ln) (j : Nat) (u : Value) (h : L.cells[j]? = some u) : (w.alloc (.cells L.cells.toArray 56)).cell? ((⟨w.heap.size, 0, none⟩ : Addr).add j) = some u := by
  rw [Addr.add_mid, Nat.zero_add]; exact new_line w _ _ j u (by rw [List.getElem?_toArray]; exact h)
theorem one_line {L : Ln} (h : L.ok) : ∀ u ∈ L.cells, u.oneCell' = true := by
  have := Ln.arr_one L h
  simpa using this
theorem rem_wrap (k : Int) {n : Nat} (hn : 0 < n) (h4 : n ≤ 4) : ∃ j : Nat, j < n ∧ (IntKind.u64.wrap k).tmod (n : Int) = (j : Int) := by
  have h0 : 0 ≤ IntKind.u64.wrap k := by
    have : IntKind.u64.wrap k = k % 18446744073709551616 := by simp [IntKind.wrap, IntKind.bits, IntKind.signed]
    rw [this]; omega
  rw [Int.tmod_eq_emod_of_nonneg h0]
  refine ⟨(IntKind.u64.wrap k % (n : Int)).toNat, ?_, ?_⟩
  · have := Int.emod_lt_of_pos (IntKind.u64.wrap k) (show (0 : Int) < n by omega)
    have := Int.emod_nonneg (IntKind.u64.wrap k) (show (n : Int) ≠ 0 by omega)
    omega
  · have := Int.emod_nonneg (IntKind.u64.wrap k) (show (n : Int) ≠ 0 by omega)
    omega
theorem wrap_five (j : Nat) (h : j ≤ 4) : wrap64 (j : Int) = (j : Int) := by
  have : j = 0 ∨ j = 1 ∨ j = 2 ∨ j = 3 ∨ j = 4 := by omega
  rcases this with rfl | rfl | rfl | rfl | rfl <;> decide +kernel
theorem rem_all (k : Int) {n : Nat} (hn : 0 < n) (h4 : n ≤ 4) : ∃ j jj : Nat, j < n ∧ jj = j + 1 ∧ (IntKind.u64.wrap k).tmod (n : Int) = (j : Int) ∧ wrap64 (j : Int) = (j : Int) ∧ wrap64 (1 + (j : Int)) = (jj : Int) ∧ wrap64 ((jj : Int) + 1) = (jj : Int) + 1 ∧ (jj : Int) < (n : Int) + 1 := by
  obtain ⟨j, h1, h2⟩ := rem_wrap k hn h4
  refine ⟨j, j + 1, h1, rfl, h2, wrap_five j (by omega), ?_, ?_, by omega⟩
  · rw [show 1 + (j : Int) = ((j + 1 : Nat) : Int) by omega]; exact wrap_five (j + 1) (by omega)
  · have : j = 0 ∨ j = 1 ∨ j = 2 ∨ j = 3 := by omega
    rcases this with rfl | rfl | rfl | rfl <;> decide +kernel
theorem rem_len (k : Int) {n : Nat} (hn : 0 < n) (h4 : n ≤ 4) : ∃ j : Nat, j < n ∧ k % 18446744073709551616 % (n : Int) = (j : Int) := by
  refine ⟨(k % 18446744073709551616 % (n : Int)).toNat, ?_, ?_⟩
  · have := Int.emod_lt_of_pos (k % 18446744073709551616) (show (0 : Int) < n by omega)
    have := Int.emod_nonneg (k % 18446744073709551616) (show (n : Int) ≠ 0 by omega)
    omega
  · have := Int.emod_nonneg (k % 18446744073709551616) (show (n : Int) ≠ 0 by omega)
    omega
theorem bad_at {c m : Int} {j jj n : Nat} {x : Int} (h0 : 0 ≤ c) (h1 : c ≤ 13) (h2 : 1 ≤ m) (h3 : m ≤ 15) (hj : (condsL c m)[j]? = some x) (hn : n = (condsL c m).length) (hjj : jj = j + 1) : checkOf ((madeL c m n).set jj (movL (other x))) = (7, (jj : Int) + 1) := by
  have := made_bad h0 h1 h2 h3 hj
  rw [← hn] at this
  rw [hjj, this, Prod.mk.injEq]
  exact ⟨rfl, by omega⟩
theorem set_at {c m : Int} {w : World} {base g cap n jj : Nat} {x y : Int} (hc : i64B c) (hm : i64B m) (hy : i64B y) (h : w.ownsRow base 56 19 (.slice (some ⟨g, 0, none⟩) (n + 1) cap) (n + 1) ((madeL c m n).flatMap Ln.cells)) (hx : (madeL c m n)[jj]? = some (movL x)) :
    Lines (w.setCell ⟨g, jj * 19 + 11, none⟩ (.int .i64 y)) (w.setCell ⟨g, jj * 19 + 11, none⟩ (.int .i64 y)).heap.size (some ⟨g, 0, none⟩) (n + 1) ((madeL c m n).set jj (movL y)) := by
  have h2 := own_set (o := jj * 19 + 11) h (.int .i64 y)
  rw [flat_set _ jj (movL x) y hx] at h2
  refine Lines.of_own (ls := (madeL c m n).set jj (movL y)) h2 ?_
  intro L hL
  rcases List.mem_or_eq_of_mem_set hL with hL | rfl
  · exact made_lns hc hm _ L hL
  · exact movL_ok hy
theorem other_i64 {x : Int} (h0 : 0 ≤ x) (h1 : x ≤ 14) : i64B (other x) := by
  unfold other i64B
  split
  · omega
  · split <;> omega
set_option maxRecDepth 100000 in
set_option maxHeartbeats 4000000 in
theorem law_BlocksMade (c m k : Int) (w : World) (hc : i64B c) (hm : i64B m) (hk : i64B k) :
    Calls Try.prog 12 #[.int .i64 c, .int .i64 m, .int .i64 k] w fun e w' => e = .returned (.bool true) ∧ Below w.heap.size w w' := by
  by_cases h0 : condsL c m = []
  · have H0 := Lib.hid h0
    clear h0
    go_enter Try.func12, Try.ntmps12
    go_wp2_with fail
    refine (ref_Conds c m _ hc.1 hc.2 hm.1 hm.2).mono ?_
    rintro e w1 ⟨v, rfl, hown, hb1⟩
    rw [H0.out] at hown
    obtain ⟨A1, c1, rfl, hc1, _⟩ := own_shape hown
    have HB1 := Lib.hid hb1
    clear hown hb1
    simp only [List.length_nil]
    go_wp2_with fail
    refine (law21_awake _).mono ?_
    rintro e w2 ⟨rfl, hb⟩
    have HB := Lib.hid (HB1.out.trans (hb.mono HB1.out.size))
    clear hb
    go_wp2
    go_ret
    exact ⟨rfl, HB.out⟩
  obtain ⟨q0, q1, q2, q3⟩ := conds_in h0
  have hl4 := condsL_len c m
  obtain ⟨n, hn⟩ : ∃ n, n = (condsL c m).length := ⟨_, rfl⟩
  have hn0 : 0 < n := by rw [hn]; exact List.length_pos_iff.2 h0
  rw [← hn] at hl4
  have HN := Lib.hid hn
  clear hn h0
  by_cases h14 : c = 14
  · subst h14
    go_enter Try.func12, Try.ntmps12
    go_wp2_with fail
    refine (ref_Conds 14 m _ hc.1 hc.2 hm.1 hm.2).mono ?_
    rintro e w1 ⟨v, rfl, hown, hb1⟩
    rw [← HN.out] at hown
    obtain ⟨A1, c1, rfl, hc1, _⟩ := own_shape hown
    have HB1 := Lib.hid hb1
    clear hown hb1
    go_wp2_with fail
    refine (law21_awake _).mono ?_
    rintro e w2 ⟨rfl, hb⟩
    have HB := Lib.hid (HB1.out.trans (hb.mono HB1.out.size))
    clear hb
    go_wp2
    go_ret
    exact ⟨rfl, HB.out⟩
  obtain ⟨i0, z0, hi, hz0, hz1, hzs, hz2⟩ := infoLine
  have hc13 : c ≤ 13 := by omega
  have hn0' : ((n : Int) == 0) = false := by simp; omega
  have hc14' : (c == 14) = false := by simpa using h14
  go_enter Try.func12, Try.ntmps12
  go_wp2_with fail
  refine (ref_Conds c m _ hc.1 hc.2 hm.1 hm.2).mono ?_
  rintro e w1 ⟨v, rfl, hown, hb1⟩
  rw [← HN.out] at hown
  obtain ⟨A1, c1, rfl, hc1, _⟩ := own_shape hown
  have HI := Lib.hid (Ints.of_own hown)
  have HB1 := Lib.hid hb1
  clear hown hb1
  go_wp2_with fail
  refine (law_it c hc _).mono ?_
  rintro e w2 ⟨rfl, hb2⟩
  have HB2 := Lib.hid hb2
  clear hb2
  obtain ⟨X, hX⟩ : ∃ X, X = (itL c 8).cells.toArray := ⟨_, rfl⟩
  have h1 := Ln.arr_one _ (itL_ok (m := 8) hc (by constructor <;> decide))
  rw [← hX] at h1 ⊢
  have HX := Lib.hid hX
  obtain ⟨Y, hY⟩ : ∃ Y, Y = (itL c m).cells.toArray := ⟨_, rfl⟩
  have hcell7 : (w2.alloc (.cells X 56)).cell? ⟨w2.heap.size, 7, none⟩ = some (.int .i64 8) := new_line w2 X _ 7 _ (by rw [hX]; rfl)
  have hfr7 : (w2.alloc (.cells X 56)).frozen? ⟨w2.heap.size, 7, none⟩ = false := by simp [go_sem]
  have hset := cells_it c m w2
  rw [← hX, ← hY] at hset
  have hldY : (Instr.loadAt 56 (.pointer (some ⟨w2.heap.size, 0, none⟩))).run Try.prog (w2.alloc (.cells Y 56)) = .ok (.agg Y) (w2.alloc (.cells Y 56)) := run_load_new _ _ _ _ Y _ rfl Try.underlying56 rfl (by rw [hY]; kernel_rfl)
  have hbY := run_build1 (itL c m) (w2.alloc (.cells Y 56))
  have hoY := own_build1 (itL c m) (w2.alloc (.cells Y 56)) (base := w1.heap.size) (by rw [World.size_alloc']; have := HB2.out.size; omega)
  rw [← hY] at hbY hoY
  have HOY := Lib.hid hoY; have HY := Lib.hid hY
  clear hX hY hoY
  have hldY' : (Instr.loadAt 56 (.pointer (some ⟨w2.heap.size, 0, none⟩))).run Try.prog ((w2.alloc (.cells X 56)).setCell ⟨w2.heap.size, 7, none⟩ (.int .i64 m)) = .ok (.agg Y) ((w2.alloc (.cells X 56)).setCell ⟨w2.heap.size, 7, none⟩ (.int .i64 m)) := by rw [hset]; exact hldY
  go_wp2_with (first | (refine wpList_store_any rfl 56 _ _ rfl ⟨w2.heap.size, 0, none⟩ rfl X rfl (run_store_new w2 56 56 _ _ (by rw [HX.out]; rfl) (by rw [HX.out]; kernel_rfl) h1) ?_) | (refine wpList_load_any rfl 56 _ rfl ⟨w2.heap.size, 0, none⟩ rfl Y hldY ?_) | (refine wpList_load_any rfl 56 _ rfl ⟨w2.heap.size, 0, none⟩ rfl Y hldY' ?_; rw [hset]) | (refine wpList_build_any rfl 40 1 _ rfl #[(0, .agg Y)] (by simp [go_sem]) _ hbY ?_))
  clear hldY hldY' hset hcell7 hfr7 hbY h1 HX
  have hoY := HOY.out
  have hbl := Lib.hid (show Below w1.heap.size w1 ((w2.alloc (.cells Y 56)).alloc (.cells Y 56)) from (HB2.out.alloc HB2.out.size _).alloc (by rw [World.size_alloc']; have := HB2.out.size; omega) _)
  rw [World.size_alloc'] at hoY
  try rw [World.size_alloc']
  clear HOY
  have HOY := Lib.hid hoY
  clear hoY
  generalize (w2.alloc (.cells Y 56)).alloc (.cells Y 56) = w3 at hbl HOY ⊢
  go_loopw [9, 10] (fun v iv wr => ∃ k' : Nat, k' ≤ n ∧ iv = .int .i64 k' ∧ wr.ownsRow w1.heap.size 56 19 v (k' + 1) ((madeL c m k').flatMap Ln.cells) ∧ Below w1.heap.size w1 wr) (fun _ iv _ => n - (intOf iv).toNat)
  case atStart => exact ⟨0, by omega, rfl, by have := HOY.out; unfold madeL; simpa using this, hbl.out⟩
  case round =>
    obtain ⟨k', hk', rfl, ho, hbr⟩ := hrel
    have HO := Lib.hid ho; have HBR := Lib.hid hbr
    clear ho hbr
    by_cases hlt : k' < n
    · obtain ⟨ad, x, rfl, hb, hx, hcx⟩ := (HI.out.below HBR.out).get hlt
      have hxb := condsL_bd (List.mem_of_getElem? hx)
      have hx64 : i64B x := ⟨by omega, by omega⟩
      have HST := Lib.hid (made_step hx)
      obtain ⟨g0, cap0, rfl, hg0b, hg0lt⟩ := HO.out.form (by omega)
      clear hx
      go_wp2_with fail
      refine (law_mov x hx64 _).mono ?_
      rintro e w4 ⟨rfl, hb4⟩
      have HO4 := Lib.hid (own_keep HO.out hb4)
      have HBR4 := Lib.hid (HBR.out.trans (hb4.mono HBR.out.size))
      have hz4 := HBR4.out.size
      clear hb4
      obtain ⟨Z, hZ⟩ : ∃ Z, Z = (movL x).cells.toArray := ⟨_, rfl⟩
      have hbZ := run_build1 (movL x) w4
      have hnews := news_line w4 (movL x)
      have h1c := one_line (movL_ok hx64)
      rw [← hZ] at hbZ hnews ⊢
      have HBZ := Lib.hid hbZ; have HNW := Lib.hid hnews; have H1C := Lib.hid h1c
      have HO5 := Lib.hid (own_keep HO4.out ((Below.refl _ _).alloc (Nat.le_refl _) (.cells Z 56)))
      have HBR5 := Lib.hid (HBR4.out.alloc HBR4.out.size (.cells Z 56))
      have hby : (k' + 1 + 1) * i0.bytes ≤ 140737488355328 := Nat.le_trans (Nat.mul_le_mul (show k' + 1 + 1 ≤ 6 by omega) hz2) (by omega)
      have hbase : w1.heap.size ≤ (w4.alloc (.cells Z 56)).heap.size := by rw [World.size_alloc']; omega
      clear hZ hbZ hnews h1c
      go_wp2_with (first | (refine wpList_build_any rfl 40 1 _ rfl #[(0, .agg Z)] (by simp [go_sem]) _ HBZ.out ?_) | (at_builtin; refine wpList_append_lies _ rfl _ _ _ rfl w1.heap.size 56 i0 z0 19 i0.bytes Try.underlying40 hi hz0 hz1 rfl hzs (by omega) _ (k' + 1) _ rfl HO5.out ⟨w4.heap.size, 0, none⟩ 1 1 (movL x).cells rfl rfl HNW.out H1C.out (by omega) (by unfold maxLen; omega) hby hbase (w4.heap.size + 1) (by simp) ?_; intro g cap wx hown1 hgrow hat hlt1))
      have HBx := Lib.hid (own_grown HBR5.out HO5.out (Nat.le_refl _) hbase hgrow)
      have HOx := Lib.hid (show wx.ownsRow w1.heap.size 56 19 (.slice (some ⟨g, 0, none⟩) (k' + 1 + 1) cap) (k' + 1 + 1) ((madeL c m (k' + 1)).flatMap Ln.cells) by rw [HST.out]; exact hown1)
      clear hown1 hgrow hat
      go_wp2
      go_roundw
      case rel => exact ⟨k' + 1, by omega, by go_num, HOx.out, HBx.out⟩
      case measure => simp [intOf]; omega
    · obtain rfl : n = k' := by omega
      obtain ⟨g, cap, rfl, hgb, hglt⟩ := HO.out.form (by omega)
      have hck := made_ok q0 hc13 q2 q3
      rw [← HN.out] at hck
      have HLN := Lib.hid (Lines.of_own HO.out (made_lns hc hm _))
      go_wp2_with fail
      refine (blocks_Check _ _ _ _ (madeL c m n) _ HLN.out (Nat.le_refl _) (by omega)).mono ?_
      rintro e w4 ⟨rfl, hb4⟩
      rw [hck]
      have HO4 := Lib.hid (own_keep HO.out hb4)
      have HBR4 := Lib.hid (HBR.out.trans (hb4.mono HBR.out.size))
      clear hb4 HLN
      obtain ⟨j, jj, hjn, hjj, hq1, hq2, hq3, hq4, hjl⟩ := rem_all k hn0 hl4
      obtain ⟨x, hx⟩ : ∃ x, (condsL c m)[j]? = some x := ⟨_, List.getElem?_eq_getElem (by rw [← HN.out]; exact hjn)⟩
      have hxb := condsL_bd (List.mem_of_getElem? hx)
      have hxm : (madeL c m n)[jj]? = some (movL x) := by
        rw [hjj]; unfold madeL
        rw [List.getElem?_cons_succ, List.getElem?_map, List.getElem?_take_of_lt hjn, hx]; rfl
      have HBAD := Lib.hid (bad_at q0 hc13 q2 q3 hx HN.out hjj)
      have hcl : w4.cell? ⟨g, jj * 19 + 11, none⟩ = some (.int .i64 x) := by
        have := HO4.out.cells (g := g) rfl (jj * 19 + 11) (.int .i64 x) (flat_get _ jj (movL x) 11 _ hxm rfl)
        rwa [Addr.add_mid, Nat.zero_add] at this
      have hfl : w4.frozen? ⟨g, jj * 19 + 11, none⟩ = false := own_frozen HO4.out
      have hxm0 := hxm
      clear hx hxm hjj
      have hx64 : i64B x := ⟨by omega, by omega⟩
      have HSET := Lib.hid (set_at hc hm (other_i64 hxb.1 hxb.2) HO4.out hxm0)
      have HBS := Lib.hid (below_set HBR4.out (O := g) (k := jj * 19 + 11) hgb (.int .i64 (other x)))
      go_wp2_with fail
      refine (ref_Turn x _ hx64.1 hx64.2).mono ?_
      rintro e w5 ⟨rfl, rfl⟩
      go_wp2_with fail
      generalize w4.setCell ⟨g, jj * 19 + 11, none⟩ (.int .i64 (other x)) = w6 at HSET HBS ⊢
      refine (blocks_Check _ _ _ _ ((madeL c m n).set jj (movL (other x))) _ HSET.out (Nat.le_refl _) (by omega)).mono ?_
      rintro e w7 ⟨rfl, hb7⟩
      rw [HBAD.out]
      have HB7 := Lib.hid (HBS.out.trans (hb7.mono HBS.out.size))
      clear hb7
      go_wp2_with fail
      refine (law21_awake _).mono ?_
      rintro e w8 ⟨rfl, hb8⟩
      have HB8 := Lib.hid (HB1.out.trans ((HB7.out.trans (hb8.mono HB7.out.size)).mono HB1.out.size))
      clear hb8
      go_wp2
      go_ret
      exact ⟨rfl, HB8.out⟩
end Go.Proofs.Ytoippgiahldkmaa
