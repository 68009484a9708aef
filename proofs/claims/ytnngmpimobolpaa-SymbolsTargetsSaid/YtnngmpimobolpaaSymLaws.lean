/- The laws of layer 20: walks. -/
import Derived.Test.YtnngmpimobolpaaSymAwake
import Derived.Deep.LoopGhost
namespace Go.Proofs.Ytnngmpimobolpaa
open Go.RowKit Mem
set_option linter.unusedVariables false
def TrueB (w : World) (e : Ending) (w' : World) : Prop := e = .returned (.bool true) ∧ Below w.heap.size w w'
theorem flat_len (ls : List Ln) : (ls.flatMap ownOf).length ≤ 2 * ls.length := by
  induction ls with
  | nil => simp
  | cons L r ih =>
    rw [List.flatMap_cons, List.length_append, List.length_cons]
    have := own_len L
    omega
theorem names_len {ls : List Ln} {qn : List ByteArray} {qe qa : Int} (h : namesOf ls = (qn, qe, qa)) : qn.length ≤ 2 * ls.length := by
  by_cases he : qe = 0
  · subst he
    rw [(names_nodup h List.nodup_nil).2.1, List.nil_append]
    exact flat_len ls
  · rw [(names_fault h he).1]; simp
theorem valsF_len {d : Nat} : ∀ (ls : List (Ln × Tm)) (i : Nat) (ns : List ByteArray) (vs : List Int), (valsF d i ns vs ls).1.length ≤ ns.length + ls.length ∧ (valsF d i ns vs ls).2.1.length ≤ vs.length + ls.length
  | [], i, ns, vs => ⟨by simp [valsF], by simp [valsF]⟩
  | (L, t) :: r, i, ns, vs => by
    have h1 := valsF_len (d := d) r (i + 1) (ns ++ [L.ref]) (vs ++ [(evalR d t ns vs).1])
    have h2 := valsF_len (d := d) r (i + 1) ns vs
    simp only [List.length_append, List.length_cons, List.length_nil] at h1
    unfold valsF
    split
    · split
      · simp only [List.length_cons]; omega
      · simp
    · simp only [List.length_cons]; omega
theorem vals_len {d : Nat} {ls : List (Ln × Tm)} {qn : List ByteArray} {qv : List Int} {qe qa : Int} (h : valsOf d ls = (qn, qv, qe, qa)) : qn.length ≤ ls.length ∧ qv.length ≤ ls.length := by
  unfold valsOf at h
  split at h
  · have := valsF_len (d := d) ls 0 [] []
    rw [h] at this
    simpa using this
  · cases h; simp
theorem tl_sizes {w : World} {B : Nat} {A : Option Addr} {n d : Nat} {ls : List (Ln × Tm)} (h : TLines w B A n d ls) : ∀ L ∈ ls.map (·.1), L.lab.size ≤ maxLen ∧ L.ref.size ≤ maxLen := fun L hL => by
  obtain ⟨⟨L', t⟩, hQ, rfl⟩ := List.mem_map.1 hL
  exact h.sizes L' t hQ
set_option maxRecDepth 100000 in
set_option maxHeartbeats 4000000 in
theorem law_SymbolsNames (A : Option Addr) (n c d : Nat) (ls : List (Ln × Tm)) (w : World) (hx : TLines w w.heap.size A n d ls) (hn : n ≤ 9223372036854775807) :
    Calls Try.prog 8 #[.slice A n c] w (TrueB w) := by
  have HX := Lib.hid hx
  have HF := Lib.hid (law19_Few A n c d ls w hx hn)
  clear hx
  obtain ⟨q, hq⟩ : ∃ q, q = namesOf (ls.map (·.1)) := ⟨_, rfl⟩
  have HQ := Lib.hid hq
  clear hq
  obtain ⟨qn, qe, qa⟩ := q
  unfold FewPost at HF
  go_enter Try.func8, Try.ntmps8
  go_wp2_with fail
  refine HF.out.mono ?_
  rintro e w1 ⟨z, rfl, hz, hb⟩
  have HZ := Lib.hid hz; have HB1 := Lib.hid hb; have HX1 := Lib.hid (HX.out.on hb)
  clear hz hb
  by_cases h0 : z = 0
  · subst h0
    go_wp2_with fail
    refine (law20_awake w1).mono ?_
    rintro e w2 ⟨rfl, hb⟩
    go_wp2
    go_ret
    exact ⟨rfl, HB1.out.trans (hb.mono HB1.out.size)⟩
  · have hz0 : (z == 0) = false := by simpa using h0
    have hn3 := HZ.out h0
    clear h0
    go_wp2_with fail
    refine (sym_Names A n c _ _ w1 HX1.out.lines (Nat.le_refl _) (by omega) (tl_sizes HX1.out)).mono ?_
    rintro e w2 ⟨A2, n2, c2, rfl, hN, hb⟩
    rw [← HQ.out] at hN ⊢
    simp only at hN ⊢
    have hb3 : Below w2.heap.size w2 (w2.alloc (.cells #[.int .i64 qe, .int .i64 qa] 37)) := (Below.refl _ _).alloc (Nat.le_refl _) _
    have L3 := Lib.hid (heap_alloc_new w2 (.cells #[.int .i64 qe, .int .i64 qa] 37))
    have HB3 := Lib.hid ((HB1.out.trans (hb.mono HB1.out.size)).trans (hb3.mono (HB1.out.trans (hb.mono HB1.out.size)).size))
    have HX3 := Lib.hid ((HX1.out.on hb).on hb3); have HN3 := Lib.hid (hN.on hb3)
    have hz3 : w2.heap.size < (w2.alloc (.cells #[.int .i64 qe, .int .i64 qa] 37)).heap.size := by simp
    have hn2 : n2 ≤ 9223372036854775807 → True := fun _ => trivial
    clear hN hb hb3 hn2
    go_upto_region 4 with (fail)
    generalize w2.alloc (.cells #[.int .i64 qe, .int .i64 qa] 37) = w3 at L3 HB3 HX3 HN3 hz3 ⊢
    go_wp2_with fail
    refine (ref_Names A n c _ _ w3 HX3.out.lines (Nat.le_refl _) (by omega)).mono ?_
    rintro e w4 ⟨A4, n4, c4, rfl, hN4, hb⟩
    rw [← HQ.out] at hN4 ⊢
    simp only at hN4 ⊢
    have HN4 := Lib.hid hN4; have HN5 := Lib.hid (HN3.out.on hb)
    have L4 := Lib.hid ((hb.block _ hz3).trans L3.out)
    have HB4 := Lib.hid (HB3.out.trans (hb.mono HB3.out.size))
    have hz4 : w2.heap.size < w4.heap.size := Nat.lt_of_lt_of_le hz3 hb.size
    clear hN4 hb
    have HNB := Lib.hid (show n2 ≤ 9223372036854775807 by
      have h1 := HN5.out.len
      have h2 : qn.length ≤ 2 * n := by
        have := names_len (ls := ls.map (·.1)) (by rw [← HQ.out] : namesOf (ls.map (·.1)) = (qn, qe, qa))
        rw [List.length_map, HX3.out.len] at this; exact this
      omega)
    go_wp2_with fail
    refine (ref_Texts A2 A4 n2 c2 n4 c4 qn w4 HN5.out HN4.out HNB.out).mono ?_
    rintro e w5 ⟨rfl, hb⟩
    have HB5 := Lib.hid (HB4.out.trans (hb.mono HB4.out.size))
    have f0 := cell_of_row _ _ 0 _ _ _ ((hb.block _ hz4).trans L4.out)
    have f1 := cell_of_row _ _ 1 _ _ _ ((hb.block _ hz4).trans L4.out)
    clear hb
    go_wp2_with fail
    refine (law20_awake w5).mono ?_
    rintro e w6 ⟨rfl, hb⟩
    have HB6 := Lib.hid (HB5.out.trans (hb.mono HB5.out.size))
    clear hb f0 f1
    go_wp2
    go_ret
    exact ⟨rfl, HB6.out⟩
set_option maxRecDepth 100000 in
set_option maxHeartbeats 4000000 in
theorem law_SymbolsValues (A : Option Addr) (n c d : Nat) (ls : List (Ln × Tm)) (w : World) (hx : TLines w w.heap.size A n d ls) (hn : n ≤ 9223372036854775807) :
    Calls Try.prog 9 #[.slice A n c] w (TrueB w) := by
  have HX := Lib.hid hx
  have HF := Lib.hid (law19_Few A n c d ls w hx hn)
  clear hx
  obtain ⟨q, hq⟩ : ∃ q, q = valsOf d ls := ⟨_, rfl⟩
  have HQ := Lib.hid hq
  clear hq
  obtain ⟨qn, qv, qe, qa⟩ := q
  unfold FewPost at HF
  go_enter Try.func9, Try.ntmps9
  go_wp2_with fail
  refine HF.out.mono ?_
  rintro e w1 ⟨z, rfl, hz, hb⟩
  have HZ := Lib.hid hz; have HB1 := Lib.hid hb; have HX1 := Lib.hid (HX.out.on hb)
  clear hz hb
  by_cases h0 : z = 0
  · subst h0
    go_wp2_with fail
    refine (law20_awake w1).mono ?_
    rintro e w2 ⟨rfl, hb⟩
    go_wp2
    go_ret
    exact ⟨rfl, HB1.out.trans (hb.mono HB1.out.size)⟩
  · have hz0 : (z == 0) = false := by simpa using h0
    have hn3 := HZ.out h0
    clear h0
    go_wp2_with fail
    refine (sym_Values A n c d ls w1 HX1.out (by omega)).mono ?_
    rintro e w2 ⟨A2, V2, n2, m2, c2, k2, rfl, hN, hV, hb⟩
    rw [← HQ.out] at hN hV ⊢
    simp only at hN hV ⊢
    have hb3 : Below w2.heap.size w2 (w2.alloc (.cells #[.int .i64 qe, .int .i64 qa] 37)) := (Below.refl _ _).alloc (Nat.le_refl _) _
    have L3 := Lib.hid (heap_alloc_new w2 (.cells #[.int .i64 qe, .int .i64 qa] 37))
    have HB3 := Lib.hid ((HB1.out.trans (hb.mono HB1.out.size)).trans (hb3.mono (HB1.out.trans (hb.mono HB1.out.size)).size))
    have HX3 := Lib.hid ((HX1.out.on hb).on hb3); have HN3 := Lib.hid (hN.on hb3); have HV3 := Lib.hid (ints_on hV hb3)
    have hz3 : w2.heap.size < (w2.alloc (.cells #[.int .i64 qe, .int .i64 qa] 37)).heap.size := by simp
    clear hN hV hb hb3
    go_upto_region 4 with (fail)
    generalize w2.alloc (.cells #[.int .i64 qe, .int .i64 qa] 37) = w3 at L3 HB3 HX3 HN3 HV3 hz3 ⊢
    go_wp2_with fail
    refine (ref_Values A n c d ls w3 HX3.out (by omega)).mono ?_
    rintro e w4 ⟨A4, V4, n4, m4, c4, k4, rfl, hN4, hV4, hb⟩
    rw [← HQ.out] at hN4 hV4 ⊢
    simp only at hN4 hV4 ⊢
    have HN4 := Lib.hid hN4; have HN5 := Lib.hid (HN3.out.on hb); have HV4 := Lib.hid hV4; have HV5 := Lib.hid (ints_on HV3.out hb)
    have L4 := Lib.hid ((hb.block _ hz3).trans L3.out)
    have HB4 := Lib.hid (HB3.out.trans (hb.mono HB3.out.size))
    have hz4 : w2.heap.size < w4.heap.size := Nat.lt_of_lt_of_le hz3 hb.size
    clear hN4 hV4 hb
    have HVL := Lib.hid (vals_len (d := d) (ls := ls) (by rw [← HQ.out] : valsOf d ls = (qn, qv, qe, qa)))
    have HNB := Lib.hid (show n2 ≤ 9223372036854775807 ∧ m2 ≤ 9223372036854775807 ∧ m4 ≤ 9223372036854775807 by
      have h1 := HN5.out.len; have h2 := HV5.out.len; have h3 := HV4.out.len; have h4 := HVL.out; have h5 := HX3.out.len
      omega)
    go_wp2_with fail
    refine (ref_Texts A2 A4 n2 c2 n4 c4 qn w4 HN5.out HN4.out HNB.out.1).mono ?_
    rintro e w5 ⟨rfl, hb⟩
    have HV6 := Lib.hid (ints_on HV5.out hb); have HV7 := Lib.hid (ints_on HV4.out hb)
    have HB5 := Lib.hid (HB4.out.trans (hb.mono HB4.out.size))
    have L5 := Lib.hid ((hb.block _ hz4).trans L4.out)
    have hz5 : w2.heap.size < w5.heap.size := Nat.lt_of_lt_of_le hz4 hb.size
    clear hb
    have HI := Lib.hid (ref_Ints V2 V4 m2 m4 k2 k4 _ qv qv w5 HV6.out HV7.out HNB.out.2.1 HNB.out.2.2)
    rw [show decide (qv = qv) = true by simp] at HI
    go_wp2_with fail
    refine HI.out.mono ?_
    rintro e w6 ⟨rfl, mq, rfl⟩
    have HB6 := Lib.hid (below_drewN HB5.out mq)
    have f0 := cell_of_row (w5.drewN mq) _ 0 _ _ _ L5.out
    have f1 := cell_of_row (w5.drewN mq) _ 1 _ _ _ L5.out
    go_wp2_with fail
    refine (law20_awake _).mono ?_
    rintro e w7 ⟨rfl, hb⟩
    have HB7 := Lib.hid (HB6.out.trans (hb.mono HB6.out.size))
    clear hb f0 f1
    go_wp2
    go_ret
    exact ⟨rfl, HB7.out⟩
set_option maxRecDepth 100000 in
set_option maxHeartbeats 4000000 in
theorem law_SymbolsTargets (A : Option Addr) (n c d : Nat) (ls : List (Ln × Tm)) (nm : ByteArray) (w : World) (hx : TLines w w.heap.size A n d ls) (hn : n ≤ 9223372036854775807) :
    Calls Try.prog 10 #[.slice A n c, .string nm] w (TrueB w) := by
  have HX := Lib.hid hx
  clear hx
  by_cases hbig : 1000 < n
  · go_enter Try.func10, Try.ntmps10
    go_wp2
    go_ret
    exact ⟨rfl, Below.refl _ _⟩
  · go_enter Try.func10, Try.ntmps10
    go_wp2_with fail
    refine (sym_Target A n c _ nm w HX.out.lines hn).mono ?_
    rintro e w1 ⟨rfl, hb⟩
    have HB1 := Lib.hid hb; have HX1 := Lib.hid (HX.out.on hb)
    clear hb
    have HR := Lib.hid (ref_Target A n c _ _ nm w1 HX1.out.lines hn)
    generalize targetOf (ls.map (·.1)) nm = tg at HR ⊢
    go_wp2_with fail
    refine HR.out.mono ?_
    rintro e w2 ⟨rfl, rfl⟩
    go_wp2_with fail
    refine (law20_awake _).mono ?_
    rintro e w3 ⟨rfl, hb⟩
    have HB3 := Lib.hid (HB1.out.trans (hb.mono HB1.out.size))
    clear hb
    go_wp2
    go_ret
    exact ⟨rfl, HB3.out⟩
theorem nodup_ne {l : List ByteArray} (h : l.Nodup) {i k : Nat} {x y : ByteArray} (hi : l[i]? = some x) (hk : l[k]? = some y) (hlt : k < i) : (x.toList == y.toList) = false := by
  rw [tl_beq]
  refine ba_ne (fun e => ?_)
  subst e
  obtain ⟨hil, ei⟩ := List.getElem?_eq_some_iff.1 hi
  obtain ⟨hkl, ek⟩ := List.getElem?_eq_some_iff.1 hk
  have := List.pairwise_iff_getElem.1 h k i hkl hil hlt
  rw [ei, ek] at this
  exact this rfl
set_option maxRecDepth 100000 in
set_option maxHeartbeats 8000000 in
theorem law_SymbolsOnce (A : Option Addr) (n c d : Nat) (ls : List (Ln × Tm)) (w : World) (hx : TLines w w.heap.size A n d ls) (hn : n ≤ 9223372036854775807) :
    Calls Try.prog 11 #[.slice A n c] w (TrueB w) := by
  have HX := Lib.hid hx
  have HF := Lib.hid (law19_Few A n c d ls w hx hn)
  clear hx
  obtain ⟨q, hq⟩ : ∃ q, q = namesOf (ls.map (·.1)) := ⟨_, rfl⟩
  have HQ := Lib.hid hq
  clear hq
  obtain ⟨qn, qe, qa⟩ := q
  unfold FewPost at HF
  go_enter Try.func11, Try.ntmps11
  go_wp2_with fail
  refine HF.out.mono ?_
  rintro e w1 ⟨z, rfl, hz, hb⟩
  have HZ := Lib.hid hz; have HB1 := Lib.hid hb; have HX1 := Lib.hid (HX.out.on hb)
  clear hz hb
  by_cases h0 : z = 0
  · subst h0
    go_wp2_with fail
    refine (law20_awake w1).mono ?_
    rintro e w2 ⟨rfl, hb⟩
    go_wp2
    go_ret
    exact ⟨rfl, HB1.out.trans (hb.mono HB1.out.size)⟩
  · have hz0 : (z == 0) = false := by simpa using h0
    have hn3 := HZ.out h0
    clear h0
    go_wp2_with fail
    refine (sym_Names A n c _ _ w1 HX1.out.lines (Nat.le_refl _) (by omega) (tl_sizes HX1.out)).mono ?_
    rintro e w2 ⟨A2, n2, c2, rfl, hN, hb⟩
    rw [← HQ.out] at hN ⊢
    simp only at hN ⊢
    have hb3 : Below w2.heap.size w2 (w2.alloc (.cells #[.int .i64 qe, .int .i64 qa] 37)) := (Below.refl _ _).alloc (Nat.le_refl _) _
    have L3 := Lib.hid (heap_alloc_new w2 (.cells #[.int .i64 qe, .int .i64 qa] 37))
    have HB3 := Lib.hid ((HB1.out.trans (hb.mono HB1.out.size)).trans (hb3.mono (HB1.out.trans (hb.mono HB1.out.size)).size))
    have HX3 := Lib.hid ((HX1.out.on hb).on hb3); have HN3 := Lib.hid (hN.on hb3)
    clear hN hb hb3
    go_upto_region 4 with (fail)
    generalize w2.alloc (.cells #[.int .i64 qe, .int .i64 qa] 37) = w3 at L3 HB3 HX3 HN3 ⊢
    have f0 := cell_of_row _ _ 0 _ _ _ L3.out
    have f1 := cell_of_row _ _ 1 _ _ _ L3.out
    by_cases he : qe = 0
    · subst he
      have HND := Lib.hid (names_nodup (HQ.out.symm : namesOf (ls.map (·.1)) = _) List.nodup_nil).1
      have HNB := Lib.hid (show n2 ≤ 2 * n by
        have h1 := HN3.out.len
        have h2 := names_len (HQ.out.symm : namesOf (ls.map (·.1)) = _)
        rw [List.length_map, HX3.out.len] at h2; omega)
      have hn22 : n2 ≤ 9223372036854775807 := by have := HNB.out; omega
      go_wp2
      clear f0 f1
      go_loopg [5] n2 (fun gg iv wr => ∃ i : Nat, iv = .int .i64 i ∧ i ≤ n2 ∧ gg = n2 - i ∧ Below w3.heap.size w3 wr)
      case atStart => exact ⟨0, rfl, by omega, by omega, Below.refl _ _⟩
      case round =>
        obtain ⟨wo, hwo⟩ : ∃ wo, wo = wr := ⟨_, rfl⟩
        subst hwo
        obtain ⟨i, rfl, hi, hgi, hbel⟩ := hrel
        have HGI := Lib.hid hgi; have HWO := Lib.hid hbel
        clear hgi hbel
        by_cases hlt : i < n2
        · go_wp2
          go_loopg [6] i (fun gg kv wr => ∃ k : Nat, kv = .int .i64 k ∧ k ≤ i ∧ gg = i - k ∧ Below w3.heap.size w3 wr)
          case atStart => exact ⟨0, rfl, by omega, by omega, HWO.out⟩
          case round =>
            obtain ⟨k, rfl, hk, hgk, hbel⟩ := hrel
            have HGK := Lib.hid hgk; have HWR := Lib.hid hbel
            clear hgk hbel
            by_cases hlk : k < i
            · obtain ⟨ad, x, rfl, hb1, hx1, hc1⟩ := (HN3.out.below HWR.out).get hlt
              obtain ⟨ad2, y, e2, hb2, hy1, hc2⟩ := (HN3.out.below HWR.out).get (show k < n2 by omega)
              cases e2
              have hne := nodup_ne HND.out hx1 hy1 hlk
              have hkn : (k : Int) < n2 := by omega
              have hin : (i : Int) < n2 := by omega
              clear hx1 hy1
              go_wp2
              go_quiet (fail)
              go_wp2
              go_roundg (i - (k + 1))
              case measure => have := HGK.out; omega
              case rel => exact ⟨k + 1, by go_num, by omega, rfl, below_drewN HWR.out _⟩
            · go_wp2
              go_roundg (n2 - (i + 1))
              case measure => have := HGI.out; omega
              case rel => exact ⟨i + 1, by go_num, by omega, rfl, HWR.out⟩
        · go_wp2
          go_loopg [7] n (fun gg iv wr => ∃ i : Nat, iv = .int .i64 i ∧ i ≤ n ∧ gg = n - i ∧ Below w3.heap.size w3 wr)
          case atStart => exact ⟨0, rfl, by omega, by omega, HWO.out⟩
          case round =>
            obtain ⟨k, rfl, hk, hgk, hbel⟩ := hrel
            have HGK := Lib.hid hgk; have HWR := Lib.hid hbel
            clear hgk hbel
            by_cases hlk : k < n
            · have HXR := Lib.hid ((HX3.out.below HWR.out).more HWR.out.size)
              obtain ⟨ad, p, L, t, A', c', rfl, hp, hpb, hL, hok, hc, _, _, _, _, _, _, _⟩ := HXR.out.get hlk
              have c0 := field0 hc
              have hL2 : (ls.map (·.1))[k]? = some L := by rw [List.getElem?_map, hL]; rfl
              have he := emp_iff L.lab
              cases hE : L.lab.toList.isEmpty with
              | true =>
                clear hc hL hok hL2 he
                go_wp2
                go_roundg (n - (k + 1))
                case measure => have := HGK.out; omega
                case rel => exact ⟨k + 1, by go_num, by omega, rfl, HWR.out⟩
              | false =>
                have HTG := Lib.hid (label_once (HQ.out.symm : namesOf (ls.map (·.1)) = _) hL2 (by rw [hE] at he; simpa using he.symm))
                have HTC := Lib.hid (sym_Target (some ad) n c _ L.lab wr HXR.out.lines hn)
                rw [HTG.out] at HTC
                clear hc hL hok hL2 he
                go_wp2_with fail
                refine HTC.out.mono ?_
                rintro e w5 ⟨rfl, hb⟩
                have HB5 := Lib.hid (HWR.out.trans (hb.mono HWR.out.size))
                clear hb
                go_wp2
                go_roundg (n - (k + 1))
                case measure => have := HGK.out; omega
                case rel => exact ⟨k + 1, by go_num, by omega, rfl, HB5.out⟩
            · have HBZ := Lib.hid (HB3.out.trans (HWR.out.mono HB3.out.size))
              go_wp2_with fail
              refine (law20_awake wr).mono ?_
              rintro e w5 ⟨rfl, hb⟩
              have HB5 := Lib.hid (HBZ.out.trans (hb.mono HBZ.out.size))
              clear hb
              go_wp2
              go_ret
              exact ⟨rfl, HB5.out⟩
    · have he' : (qe != 0) = true := by simpa using he
      obtain ⟨e1, e2, e3, e4⟩ := names_fault (HQ.out.symm : namesOf (ls.map (·.1)) = _) he
      have hl0 : n2 = 0 := by have := HN3.out.len; rw [e1] at this; simpa using this.symm
      rw [List.length_map, HX3.out.len] at e4
      have ha1 : 1 ≤ qa := by omega
      have ha2 : qa ≤ (n : Int) := by omega
      subst hl0
      clear e1 e2 e3 e4 he
      go_wp2_with fail
      refine (law20_awake w3).mono ?_
      rintro e w5 ⟨rfl, hb⟩
      have HB5 := Lib.hid (HB3.out.trans (hb.mono HB3.out.size))
      clear hb f0 f1
      go_wp2
      go_ret
      exact ⟨rfl, HB5.out⟩
end Go.Proofs.Ytnngmpimobolpaa
