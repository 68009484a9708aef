/- The contract of the reference's Plan: the pools' values, in new rows; the world keeps all that was there. -/
import Derived.Test.YtapenhbfpcmpnaaPoolPlan
namespace Go.Proofs.Ytapenhbfpcmpnaa
open Go.RowKit Mem
set_option linter.unusedVariables false
def Apart (a b : Value) : Prop := ∀ g, a.ownBlock = some g → b.ownBlock ≠ some g
theorem Apart.symm {a b : Value} (h : Apart a b) : Apart b a := fun g h1 h2 => h g h2 h1
theorem apart_nil (a : Value) : Apart a (.slice none 0 0) := fun g _ h => by cases h
/-- The pools that are done (gs, in vo), and the one at hand (cur, in vc). -/
structure RG (w : World) (base : Nat) (vo vc : Value) (gs : List (List Int)) (cur : List Int) : Prop where
  out : ∃ vs : List Value, w.ownsRow base 23 1 vo gs.length vs ∧ (∀ u ∈ vs, ∃ A n c, u = .slice A n c) ∧ ∀ (k : Nat) v g, vs[k]? = some v → gs[k]? = some g → w.ownsRow base 3 1 v g.length (ints g) ∧ Apart v vo ∧ Apart v vc
  cur_ : w.ownsRow base 3 1 vc cur.length (ints cur)
  apart : Apart vc vo
section
variable {w w' wx : World} {base : Nat} {vo vc : Value} {gs : List (List Int)} {cur : List Int}
theorem RG.start (w : World) (base : Nat) : RG w base (.slice none 0 0) (.slice none 0 0) [] [] :=
  ⟨⟨[], own_nil _ _ _, (fun u hu => by cases hu), fun k v g h => by cases h⟩, own_nil _ _ _, apart_nil _⟩
theorem own_grown {e : TypeId} {size n : Nat} {v r : Value} {xs : List Value} {o : Obj} (h : w.ownsRow base e size v n xs) (hg : (w.alloc o).grownBy wx r.ownBlock) (ha : Apart v r) : wx.ownsRow base e size v n xs :=
  own_heap h fun g hv => by
    have := (own_block h g hv).2
    rw [hg.block g (by simp; omega) (fun e => ha g hv e.symm), Below.heap_alloc w o g this]
theorem apart_new {e : TypeId} {size n : Nat} {v r r' : Value} {xs : List Value} {g : Nat} (h : w.ownsRow base e size v n xs) (ha : Apart v r) (hr : ∃ m c, r' = .slice (some ⟨g, 0, none⟩) m c) (hat : r.ownBlock = some g ∨ g = w.heap.size + 1) : Apart v r' := by
  intro q hq hr'
  obtain ⟨m, c, rfl⟩ := hr
  have : g = q := by simpa [Value.ownBlock] using hr'
  subst this
  rcases hat with e | e
  · exact ha g hq e
  · have := (own_block h g hq).2; omega
/-- A pool is done. -/
theorem RG.push (h : RG w base vo vc gs cur) {g cap : Nat} {vs : List Value} (o : Obj) (hvs : ∀ u ∈ vs, ∃ A n c, u = .slice A n c)
    (hrows : ∀ (k : Nat) v g, vs[k]? = some v → gs[k]? = some g → w.ownsRow base 3 1 v g.length (ints g) ∧ Apart v vo ∧ Apart v vc) (hlen : vs.length = gs.length)
    (hown : wx.ownsRow base 23 1 (.slice (some ⟨g, 0, none⟩) (gs.length + 1) cap) (gs.length + 1) (vs ++ [vc])) (hgrow : (w.alloc o).grownBy wx vo.ownBlock) (hat : vo.ownBlock = some g ∨ g = w.heap.size + 1) :
    RG wx base (.slice (some ⟨g, 0, none⟩) (gs.length + 1) cap) (.slice none 0 0) (gs ++ [cur]) [] := by
  refine ⟨⟨vs ++ [vc], by rw [List.length_append]; exact hown, fun u hu => ?_, fun k v q hv hq => ?_⟩, own_nil _ _ _, fun q hq => by cases hq⟩
  · rcases List.mem_append.1 hu with hu | hu
    · exact hvs u hu
    · rw [List.mem_singleton.1 hu]
      obtain ⟨A, c, e, _⟩ := own_shape h.cur_
      exact ⟨A, _, c, e⟩
  · rcases Nat.lt_trichotomy k gs.length with hk | hk | hk
    · rw [List.getElem?_append_left (by omega)] at hv hq
      obtain ⟨r1, r2, r3⟩ := hrows k v q hv hq
      exact ⟨own_grown r1 hgrow r2, apart_new r1 r2 ⟨_, _, rfl⟩ hat, apart_nil _⟩
    · rw [List.getElem?_append_right (by omega)] at hv hq
      rw [show k - vs.length = 0 by omega] at hv
      rw [show k - gs.length = 0 by omega] at hq
      cases hv; cases hq
      exact ⟨own_grown h.cur_ hgrow h.apart, apart_new h.cur_ h.apart ⟨_, _, rfl⟩ hat, apart_nil _⟩
    · rw [List.getElem?_eq_none (by simp; omega)] at hv; cases hv
/-- The pool at hand has grown. -/
theorem RG.add (h : RG w base vo vc gs cur) {g cap : Nat} {x : Int} (o : Obj)
    (hown : wx.ownsRow base 3 1 (.slice (some ⟨g, 0, none⟩) (cur.length + 1) cap) (cur.length + 1) (ints (cur ++ [x]))) (hgrow : (w.alloc o).grownBy wx vc.ownBlock) (hat : vc.ownBlock = some g ∨ g = w.heap.size + 1) :
    RG wx base vo (.slice (some ⟨g, 0, none⟩) (cur.length + 1) cap) gs (cur ++ [x]) := by
  obtain ⟨vs, h1, h2, h3⟩ := h.out
  refine ⟨⟨vs, own_grown h1 hgrow h.apart.symm, h2, fun k v q hv hq => ?_⟩, by rw [List.length_append]; exact hown, ?_⟩
  · obtain ⟨r1, r2, r3⟩ := h3 k v q hv hq
    exact ⟨own_grown r1 hgrow r3, r2, apart_new r1 r3 ⟨_, _, rfl⟩ hat⟩
  · exact (apart_new h1 h.apart.symm ⟨_, _, rfl⟩ hat).symm
theorem RG.grid (h : RG w base vo vc gs cur) : ∃ A n c, vo = .slice A n c ∧ Grid w w.heap.size A n gs := by
  obtain ⟨vs, h1, h2, h3⟩ := h.out
  obtain ⟨A, c, e, _, _⟩ := own_shape h1
  refine ⟨A, _, c, e, rfl, fun k hk => ?_⟩
  have hl : vs.length = gs.length := by have := h1.1; omega
  obtain ⟨g, cap, hv, _, hlt⟩ := h1.form (by omega)
  obtain ⟨r1, _, _⟩ := h3 k vs[k] gs[k] (List.getElem?_eq_getElem (by omega)) (List.getElem?_eq_getElem hk)
  obtain ⟨A2, c2, e2, _, hc2⟩ := own_shape r1
  have hcell := h1.cells (g := g) (by rw [hv]; rfl) k _ (List.getElem?_eq_getElem (by omega : k < vs.length))
  rw [e] at hv
  cases hv
  rw [e2] at hcell r1
  unfold maxLen at hc2
  exact ⟨⟨g, 0, none⟩, A2, _, c2, _, rfl, hlt, hcell, List.getElem?_eq_getElem hk, Ints.of_own r1, by omega⟩
end
set_option maxRecDepth 100000 in
set_option maxHeartbeats 4000000 in
theorem ref22_Plan (A A' : Option Addr) (n c n' c' B : Nat) (ls : List Ln) (vals : List Int) (w : World) (hx : Lines w B A n ls) (hv : Ints w B A' n' vals) (hB : B ≤ w.heap.size) (hn : n ≤ 1000) (hn' : n' ≤ 9223372036854775807) :
    Calls Try.prog 10 #[.slice A n c, .slice A' n' c'] w fun e w' => ∃ A1 n1 c1, e = .returned (.slice A1 n1 c1) ∧ Grid w' w'.heap.size A1 n1 (planOf (items ls vals)) ∧ Below w.heap.size w w' := by
  have HX := Lib.hid hx; have HV := Lib.hid hv; have HVL := Lib.hid hv.len
  clear hx hv
  obtain ⟨j0, hj, hjz0, hjz1, hjz2⟩ := info_parts Try.infoInts
  obtain ⟨k0, hk', hkz0, hkz1, hkz2⟩ := info_parts Try.infoInt
  go_enter Try.func10, Try.ntmps10
  go_wp2
  go_loopw [5, 6, 7] (fun vo vc iv wr => ∃ (k : Nat) (gs : List (List Int)) (cur : List Int), k ≤ n ∧ iv = .int .i64 k ∧ (gs, cur) = rSt ((items ls vals).take k) ∧ gs.length ≤ k ∧ cur.length ≤ k ∧ RG wr w.heap.size vo vc gs cur ∧ Below w.heap.size w wr) (fun _ _ iv _ => n - (intOf iv).toNat)
  case atStart => exact ⟨0, [], [], by omega, rfl, rfl, by simp, by simp, RG.start _ _, Below.refl _ _⟩
  case round =>
    obtain ⟨k, gs, cur, hk, rfl, hst, hgk, hck, hrg, hbel⟩ := hrel
    have HS := Lib.hid hst; have HB := Lib.hid hbel; have HG := Lib.hid hrg
    clear hst hbel hrg
    have hsz := HB.out.size
    obtain ⟨vs, ho1, ho2, ho3⟩ := HG.out.out
    have hvl : vs.length = gs.length := by have := ho1.1; omega
    have hc1 := HG.out.cur_
    have HO1 := Lib.hid ho1; have HO2 := Lib.hid ho2; have HO3 := Lib.hid ho3; have HC1 := Lib.hid hc1; have HVL2 := Lib.hid hvl
    obtain ⟨Ao, cpo, rfl, _, _⟩ := own_shape ho1
    obtain ⟨Ac, cpc, rfl, _, hcpc⟩ := own_shape hc1
    clear ho1 ho2 ho3 hc1 hvl
    unfold maxLen at hcpc
    by_cases hlt : k < n
    · obtain ⟨ad, p, L, rfl, hp, hpb, hL, hok, hc⟩ := (HX.out.below (HB.out.mono hB)).get hlt
      have hkc : wr.cell? ⟨p.block, p.off + 1, none⟩ = some (.int .i64 L.kind) := field hc (j := 0) rfl
      have HI := Lib.hid (items_get (vals := vals) hL)
      have HP := Lib.hid (rSt_snoc HI.out)
      clear hc hL
      cases h5 : (L.kind == 5) with
      | true =>
        have HN := Lib.hid (show (gs ++ [cur], []) = rSt ((items ls vals).take (k + 1)) by
          rw [HP.out, ← HS.out]; unfold rStep; rw [if_pos (by simpa using h5)])
        go_wp2_with (at_builtin; refine wpList_append_lies _ rfl _ _ _ rfl w.heap.size 23 j0 _ 1 24 Try.underlying26 hj hjz0 hjz1 hjz2 rfl (by omega) _ gs.length vs rfl (HO1.out.alloc _) ⟨wr.heap.size, 0, none⟩ 1 1 [.slice Ac cur.length cpc] rfl rfl (World.news_of_block (cs := #[.slice Ac cur.length cpc]) (t := 23) (fr := (0, 0)) (heap_alloc_new wr _)) (by simp [Value.oneCell']) (by omega) (by unfold maxLen; omega) (by omega) (by simp; omega) (wr.heap.size + 1) (by simp) ?_; intro g cap wx hown1 hgrow hat hlt1)
        have HR := Lib.hid (HG.out.push (.cells #[.slice Ac cur.length cpc] 23) HO2.out HO3.out HVL2.out hown1 hgrow hat)
        have HB1 := Lib.hid ((HB.out.alloc HB.out.size (.cells #[.slice Ac cur.length cpc] 23)).grown hgrow (by simp; omega) (fun q hq => ((own_block HO1.out) q hq).1))
        clear hown1 hgrow hat
        go_wp2
        go_roundw
        case rel => exact ⟨k + 1, _, [], by omega, by go_num, HN.out, by simp; omega, by simp, HR.out, HB1.out⟩
        case measure => simp [intOf]; omega
      | false =>
        cases h2 : (L.kind == 2) with
        | false =>
          have HN := Lib.hid (show (gs, cur) = rSt ((items ls vals).take (k + 1)) by
            rw [HP.out, ← HS.out]; unfold rStep; rw [if_neg (by simpa using h5), if_neg (by simpa using h2)])
          go_wp2
          go_roundw
          case rel => exact ⟨k + 1, gs, cur, by omega, by go_num, HN.out, by omega, by omega, HG.out, HB.out⟩
          case measure => simp [intOf]; omega
        | true =>
          have HFI := Lib.hid (Ints.of_own HC1.out)
          by_cases hkv : k < n'
          · obtain ⟨av, v, rfl, hvb, hvz, hvc⟩ := (HV.out.below (HB.out.mono hB)).get hkv
            have HVV := Lib.hid (show vals.getD k 0 = v by rw [List.getD_eq_getElem?_getD, hvz]; rfl)
            clear hvz
            by_cases hix : Lib.idxOf cur v < 0
            · have HN := Lib.hid (show (gs, cur ++ [v]) = rSt ((items ls vals).take (k + 1)) by
                rw [HP.out, ← HS.out, HVV.out]; unfold rStep; rw [if_neg (by simpa using h5), if_pos (by simpa using h2), if_pos hix])
              go_wp2_with (first | (go_at_call 14; refine (ref22_Find _ _ _ _ cur v _ HFI.out (by omega)).mono ?_; rintro e w' ⟨rfl, rfl⟩) | (at_builtin; refine wpList_append_lies _ rfl _ _ _ rfl w.heap.size 3 k0 _ 1 8 Try.underlying23 hk' hkz0 hkz1 hkz2 rfl (by omega) _ cur.length (ints cur) rfl (HC1.out.alloc _) ⟨wr.heap.size, 0, none⟩ 1 1 [.int .i64 v] rfl rfl (World.news_of_block (cs := #[.int .i64 v]) (t := 3) (fr := (0, 0)) (heap_alloc_new wr _)) (by simp [Value.oneCell']) (by omega) (by unfold maxLen; omega) (by omega) (by simp; omega) (wr.heap.size + 1) (by simp) ?_; intro g cap wx hown1 hgrow hat hlt1))
              have HR := Lib.hid (HG.out.add (x := v) (.cells #[.int .i64 v] 3) (by rw [ints_append]; exact hown1) hgrow hat)
              have HB1 := Lib.hid ((HB.out.alloc HB.out.size (.cells #[.int .i64 v] 3)).grown hgrow (by simp; omega) (fun q hq => ((own_block HC1.out) q hq).1))
              clear hown1 hgrow hat
              go_wp2
              go_roundw
              case rel => exact ⟨k + 1, gs, _, by omega, by go_num, HN.out, by omega, by simp; omega, HR.out, HB1.out⟩
              case measure => simp [intOf]; omega
            · have HN := Lib.hid (show (gs, cur) = rSt ((items ls vals).take (k + 1)) by
                rw [HP.out, ← HS.out, HVV.out]; unfold rStep; rw [if_neg (by simpa using h5), if_pos (by simpa using h2), if_neg hix])
              go_wp2_with (go_at_call 14; refine (ref22_Find _ _ _ _ cur v _ HFI.out (by omega)).mono ?_; rintro e w' ⟨rfl, rfl⟩)
              go_roundw
              case rel => exact ⟨k + 1, gs, cur, by omega, by go_num, HN.out, by omega, by omega, HG.out, HB.out⟩
              case measure => simp [intOf]; omega
          · obtain ⟨v, hv0, hvv⟩ : ∃ v : Int, v = 0 ∧ vals.getD k 0 = v := ⟨0, rfl, by rw [List.getD_eq_getElem?_getD, List.getElem?_eq_none (by rw [HVL.out]; omega)]; rfl⟩
            have HVV := Lib.hid hvv
            clear hvv
            subst hv0
            by_cases hix : Lib.idxOf cur 0 < 0
            · have HN := Lib.hid (show (gs, cur ++ [0]) = rSt ((items ls vals).take (k + 1)) by
                rw [HP.out, ← HS.out, HVV.out]; unfold rStep; rw [if_neg (by simpa using h5), if_pos (by simpa using h2), if_pos hix])
              go_wp2_with (first | (go_at_call 14; refine (ref22_Find _ _ _ _ cur 0 _ HFI.out (by omega)).mono ?_; rintro e w' ⟨rfl, rfl⟩) | (at_builtin; refine wpList_append_lies _ rfl _ _ _ rfl w.heap.size 3 k0 _ 1 8 Try.underlying23 hk' hkz0 hkz1 hkz2 rfl (by omega) _ cur.length (ints cur) rfl (HC1.out.alloc _) ⟨wr.heap.size, 0, none⟩ 1 1 [.int .i64 0] rfl rfl (World.news_of_block (cs := #[.int .i64 0]) (t := 3) (fr := (0, 0)) (heap_alloc_new wr _)) (by simp [Value.oneCell']) (by omega) (by unfold maxLen; omega) (by omega) (by simp; omega) (wr.heap.size + 1) (by simp) ?_; intro g cap wx hown1 hgrow hat hlt1))
              have HR := Lib.hid (HG.out.add (x := 0) (.cells #[.int .i64 0] 3) (by rw [ints_append]; exact hown1) hgrow hat)
              have HB1 := Lib.hid ((HB.out.alloc HB.out.size (.cells #[.int .i64 0] 3)).grown hgrow (by simp; omega) (fun q hq => ((own_block HC1.out) q hq).1))
              clear hown1 hgrow hat
              go_wp2
              go_roundw
              case rel => exact ⟨k + 1, gs, _, by omega, by go_num, HN.out, by omega, by simp; omega, HR.out, HB1.out⟩
              case measure => simp [intOf]; omega
            · have HN := Lib.hid (show (gs, cur) = rSt ((items ls vals).take (k + 1)) by
                rw [HP.out, ← HS.out, HVV.out]; unfold rStep; rw [if_neg (by simpa using h5), if_pos (by simpa using h2), if_neg hix])
              go_wp2_with (go_at_call 14; refine (ref22_Find _ _ _ _ cur 0 _ HFI.out (by omega)).mono ?_; rintro e w' ⟨rfl, rfl⟩)
              go_roundw
              case rel => exact ⟨k + 1, gs, cur, by omega, by go_num, HN.out, by omega, by omega, HG.out, HB.out⟩
              case measure => simp [intOf]; omega
    · obtain rfl : k = n := by omega
      have HST := Lib.hid (show planOf (items ls vals) = gs ++ [cur] by
        unfold planOf
        rw [List.take_of_length_le (by rw [items_len, HX.out.len]; exact Nat.le_refl _)] at HS
        rw [← HS.out])
      go_wp2_with (at_builtin; refine wpList_append_lies _ rfl _ _ _ rfl w.heap.size 23 j0 _ 1 24 Try.underlying26 hj hjz0 hjz1 hjz2 rfl (by omega) _ gs.length vs rfl (HO1.out.alloc _) ⟨wr.heap.size, 0, none⟩ 1 1 [.slice Ac cur.length cpc] rfl rfl (World.news_of_block (cs := #[.slice Ac cur.length cpc]) (t := 23) (fr := (0, 0)) (heap_alloc_new wr _)) (by simp [Value.oneCell']) (by omega) (by unfold maxLen; omega) (by omega) (by simp; omega) (wr.heap.size + 1) (by simp) ?_; intro g cap wx hown1 hgrow hat hlt1)
      have HR := Lib.hid (HG.out.push (.cells #[.slice Ac cur.length cpc] 23) HO2.out HO3.out HVL2.out hown1 hgrow hat)
      have HB1 := Lib.hid ((HB.out.alloc HB.out.size (.cells #[.slice Ac cur.length cpc] 23)).grown hgrow (by simp; omega) (fun q hq => ((own_block HO1.out) q hq).1))
      clear hown1 hgrow hat
      go_wp2
      go_ret
      obtain ⟨A1, n1, c1, e1, hgr⟩ := HR.out.grid
      cases e1
      exact ⟨_, _, _, rfl, by rw [HST.out]; exact hgr, HB1.out⟩
end Go.Proofs.Ytapenhbfpcmpnaa
