/- Contracts of the references' conds, Inside, Cond, and of the statements' bools. -/
import Derived.Test.YtoippgiahldkmaaBlockCond
import Derived.Deep.DrawnRows
import Derived.Deep.RegionWith
namespace Go.Proofs.Ytoippgiahldkmaa
open Go.RowKit Mem
set_option linter.unusedVariables false
/-- What is still to be asked, in memory apart from a row of the call's own. -/
def LeftR (w : World) (vo : Value) (A : Option Addr) (n : Nat) (l : List Int) : Prop := l.length = n ∧ ∀ (j : Nat) z, l[j]? = some z → ∃ b o, A = some ⟨b, o, none⟩ ∧ vo.ownBlock ≠ some b ∧ b < w.heap.size ∧ w.cell? ⟨b, o + j, none⟩ = some (.int .i64 z)
theorem LeftR.nil (w : World) (vo : Value) (A : Option Addr) : LeftR w vo A 0 [] := ⟨rfl, fun j z h => by cases h⟩
theorem LeftR.below {w w' : World} {vo : Value} {n : Nat} {A : Option Addr} {l : List Int} (h : LeftR w vo A n l) (hb : Below w.heap.size w w') : LeftR w' vo A n l :=
  ⟨h.1, fun j z hj => by
    obtain ⟨b, o, e, h1, h2, h3⟩ := h.2 j z hj
    exact ⟨b, o, e, h1, Nat.lt_of_lt_of_le h2 hb.size, (hb.cell (p := ⟨b, o + j, none⟩) h2).trans h3⟩⟩
theorem LeftR.drewN {w : World} {vo : Value} {n : Nat} {A : Option Addr} {l : List Int} (h : LeftR w vo A n l) (m : Nat) : LeftR (w.drewN m) vo A n l := h
theorem LeftR.tail {w : World} {vo : Value} {n b o : Nat} {c : Int} {l : List Int} (h : LeftR w vo (some ⟨b, o, none⟩) (n + 1) (c :: l)) : LeftR w vo (some ⟨b, o + 1, none⟩) n l :=
  ⟨by have := h.1; simp at this; exact this, fun j z hj => by
    obtain ⟨b', o', e, hb, hl, hc⟩ := h.2 (j + 1) z (by simpa using hj)
    cases e
    exact ⟨b, o + 1, rfl, hb, hl, by rw [show o + 1 + j = o + (j + 1) by omega]; exact hc⟩⟩
theorem LeftR.of_own {w : World} {base n c : Nat} {vo : Value} {A : Option Addr} {l : List Int} (h : w.ownsRow base 3 1 (.slice A n c) n (ints l)) (hO : ∀ g, vo.ownBlock = some g → g < base) : LeftR w vo A n l := by
  have hl : l.length = n := by have := h.1; rw [ints_len] at this; omega
  refine ⟨hl, fun j z hj => ?_⟩
  have hn : 0 < n := by
    rcases Nat.eq_zero_or_pos n with h0 | h0
    · rw [List.eq_nil_of_length_eq_zero (hl.trans h0)] at hj; cases hj
    · exact h0
  obtain ⟨g, cap, hv, hgb, hlt⟩ := h.form hn
  cases hv
  have hc := h.cells (g := g) rfl j (.int .i64 z) (by unfold ints; rw [List.getElem?_map, hj]; rfl)
  rw [Addr.add_mid] at hc
  exact ⟨g, 0, rfl, fun e => by have := hO g e; omega, hlt, hc⟩
theorem LeftR.grown {w wx : World} {vo : Value} {n g m cap : Nat} {A : Option Addr} {l : List Int} {o : Obj} (h : LeftR w vo A n l) (hg : (w.alloc o).grownBy wx vo.ownBlock) (hat : vo.ownBlock = some g ∨ g = w.heap.size + 1) : LeftR wx (.slice (some ⟨g, 0, none⟩) m cap) A n l :=
  ⟨h.1, fun j z hj => by
    obtain ⟨b, q, e, h1, h2, h3⟩ := h.2 j z hj
    refine ⟨b, q, e, fun e2 => ?_, ?_, ?_⟩
    · have : g = b := by simpa [Value.ownBlock] using e2
      subst this
      rcases hat with e3 | e3
      · exact h1 e3
      · omega
    · have := hg.size; simp at this; omega
    · rw [hg.cell_far ⟨b, q + j, none⟩ (by simp; omega) (fun e2 => h1 e2.symm), World.cell?_alloc_lt _ _ _ h2]; exact h3⟩
theorem own_below {w w' : World} {base : Nat} {e : TypeId} {size n : Nat} {v : Value} {xs : List Value} (h : w.ownsRow base e size v n xs) (hb : Below w.heap.size w w') : w'.ownsRow base e size v n xs := by
  obtain ⟨h1, h2⟩ := h
  refine ⟨h1, ?_⟩
  rcases h2 with h2 | ⟨g, cap, cur, a, b, c, d⟩
  · exact .inl h2
  · refine .inr ⟨g, cap, cur, a, b, ?_, d⟩
    rw [hb.block g ?_]
    · exact c
    · rcases Nat.lt_or_ge g w.heap.size with h | h
      · exact h
      · rw [Array.getElem?_eq_none h] at c; cases c
structure RefSt (w wr : World) (ls : List Ln) (k : Nat) (os lf : List Int) (vo : Value) (A : Option Addr) (m c : Nat) : Prop where
  st : (os, lf) = aSt (ls.take k)
  len : os.length = k
  out : wr.ownsRow w.heap.size 3 1 vo k (ints os)
  left : LeftR wr vo A m lf
  mc : m ≤ c
  m4 : m ≤ 4
  bel : Below w.heap.size w wr
theorem RefSt.next {w wr wx : World} {ls : List Ln} {k : Nat} {os lf' : List Int} {vo : Value} {A' : Option Addr} {m' c' : Nat} {x : Int} {g cap : Nat} (hout : wr.ownsRow w.heap.size 3 1 vo k (ints os)) (hlen : os.length = k)
    (hleft : LeftR wr vo A' m' lf') (hbel : Below w.heap.size w wr) (hst : (os ++ [x], lf') = aSt (ls.take (k + 1))) (hmc : m' ≤ c') (hm4 : m' ≤ 4) (o : Obj)
    (hown : wx.ownsRow w.heap.size 3 1 (.slice (some ⟨g, 0, none⟩) (k + 1) cap) (k + 1) (ints os ++ [.int .i64 x])) (hgrow : (wr.alloc o).grownBy wx vo.ownBlock) (hat : vo.ownBlock = some g ∨ g = wr.heap.size + 1) :
    RefSt w wx ls (k + 1) (os ++ [x]) lf' (.slice (some ⟨g, 0, none⟩) (k + 1) cap) A' m' c' :=
  ⟨hst, by simp [hlen], by rw [ints_append]; exact hown, hleft.grown hgrow hat, hmc, hm4, (hbel.alloc hbel.size o).grown hgrow (by have := hbel.size; simp; omega) (fun q hq => ((own_block hout) q hq).1)⟩
section
attribute [local go_sem ↓] Go.wp_at_zero Go.wp_at_succ
set_option maxRecDepth 100000 in
set_option maxHeartbeats 4000000 in
theorem ref21_conds (A : Option Addr) (n c B : Nat) (ls : List Ln) (w : World) (hx : Lines w B A n ls) (hB : B ≤ w.heap.size) (hn : n ≤ 1000) :
    Calls Try.prog 41 #[.slice A n c] w fun e w' => ∃ v, e = .returned v ∧ w'.ownsRow w.heap.size 3 1 v n (ints (aSt ls).1) ∧ Below w.heap.size w w' := by
  have HX := Lib.hid hx
  clear hx
  obtain ⟨i0, hi, hz0, hz1, hz2⟩ := info_parts Try.infoInt
  go_enter Try.func41, Try.ntmps41
  go_wp2
  go_loopw [3, 4, 5] (fun vo lv iv wr => ∃ (k m cc : Nat) (os lf : List Int) (AL : Option Addr), k ≤ n ∧ iv = .int .i64 k ∧ lv = .slice AL m cc ∧ RefSt w wr ls k os lf vo AL m cc) (fun _ _ iv _ => n - (intOf iv).toNat)
  case atStart => exact ⟨0, 0, 0, [], [], none, by omega, rfl, rfl, rfl, rfl, own_nil _ _ _, LeftR.nil _ _ _, by omega, by omega, Below.refl _ _⟩
  case round =>
    obtain ⟨k, m, cc, os, lf, AL, hk, rfl, rfl, hst⟩ := hrel
    have HS := Lib.hid hst
    have hm4 := hst.m4
    have hmc := hst.mc
    clear hst
    have hsz := HS.out.bel.size
    obtain ⟨Ao, co, rfl, hco, _⟩ := own_shape HS.out.out
    by_cases hlt : k < n
    · obtain ⟨ad, p, L, rfl, hp, hpb, hL, hok, hc⟩ := (HX.out.below (HS.out.bel.mono hB)).get hlt
      have HP := Lib.hid (aSt_snoc hL)
      obtain ⟨X, hX⟩ : ∃ X, X = L.cells.toArray := ⟨_, rfl⟩
      have hld : (Instr.loadAt 56 (.pointer (some p))).run Try.prog wr = .ok (.agg X) wr := by rw [hX]; exact run_loadAt_any wr p 56 L.cells _ hc Try.underlying56 rfl (by kernel_rfl)
      have HC := Lib.hid hc
      have HXX := Lib.hid hX
      have hpw : p.block < wr.heap.size := by omega
      clear hc hL hX
      go_wp2_with (refine wpList_load_any rfl 56 _ rfl p rfl X hld ?_)
      refine (ref21_ins L X HXX.out _).mono ?_
      rintro e w' ⟨rfl, rfl⟩
      have HB3 := Lib.hid ((Below.refl wr.heap.size wr).alloc (Nat.le_refl _) (.cells X 56))
      have HO3 := Lib.hid (HS.out.out.alloc (.cells X 56))
      have HL3 := Lib.hid (HS.out.left.below HB3.out)
      have HBW := Lib.hid (HS.out.bel.trans (HB3.out.mono hsz))
      have HC3 := Lib.hid (show ∀ j u, L.cells[j]? = some u → (wr.alloc (.cells X 56)).cell? (p.add j) = some u from fun j u hu => (HB3.out.cell (by rw [add_block]; exact hpw)).trans (HC.out j u hu))
      have hz3 : (wr.alloc (.cells X 56)).heap.size = wr.heap.size + 1 := World.size_alloc' _ _
      generalize wr.alloc (.cells X 56) = wz at HB3 HO3 HL3 HBW HC3 hz3 ⊢
      have hld2 : (Instr.loadAt 56 (.pointer (some p))).run Try.prog wz = .ok (.agg X) wz := by rw [HXX.out]; exact run_loadAt_any wz p 56 L.cells _ HC3.out Try.underlying56 rfl (by kernel_rfl)
      have hszz : w.heap.size ≤ wz.heap.size := HBW.out.size
      clear hz3 hld
      cases hi1 : insB L with
      | false =>
        have HN := Lib.hid (show (os ++ [-1], lf) = aSt (ls.take (k + 1)) by rw [HP.out, ← HS.out.st, aStep_out hi1])
        go_wp2_with (at_builtin; refine wpList_append_lies _ rfl _ _ _ rfl w.heap.size 3 i0 _ 1 8 Try.underlying58 hi hz0 hz1 hz2 rfl (by omega) _ k (ints os) rfl (HO3.out.alloc _) ⟨wz.heap.size, 0, none⟩ 1 1 [.int .i64 (-1)] rfl rfl (World.news_of_block (cs := #[.int .i64 (-1)]) (t := 3) (fr := (0, 0)) (heap_alloc_new wz _)) (by simp [Value.oneCell']) (by omega) (by unfold maxLen; omega) (by omega) (by simp; omega) (wz.heap.size + 1) (by simp) ?_; intro g cap wx hown1 hgrow hat hlt1)
        have HR := Lib.hid (RefSt.next HO3.out HS.out.len HL3.out HBW.out HN.out hmc hm4 (.cells #[.int .i64 (-1)] 3) hown1 hgrow hat)
        clear hown1 hgrow hat
        go_wp2
        go_roundw
        case rel => exact ⟨k + 1, m, cc, _, lf, AL, by omega, by go_num, rfl, HR.out⟩
        case measure => simp [intOf]; omega
      | true =>
        cases lf with
        | cons c0 lt =>
          obtain ⟨m, rfl⟩ : ∃ m', m = m' + 1 := ⟨lt.length, by have := HL3.out.1; simpa using this.symm⟩
          have HN := Lib.hid (show (os ++ [c0], lt) = aSt (ls.take (k + 1)) by rw [HP.out, ← HS.out.st, aStep_in hi1])
          obtain ⟨b, o, rfl, hbO, hbl, hcl⟩ := HL3.out.2 0 c0 rfl
          rw [Nat.add_zero] at hcl
          have HBO := Lib.hid hbO
          clear hbO
          by_cases hcc : cc = 1
          · subst hcc
            obtain rfl : m = 0 := by omega
            go_wp2_with (at_builtin; refine wpList_append_lies _ rfl _ _ _ rfl w.heap.size 3 i0 _ 1 8 Try.underlying58 hi hz0 hz1 hz2 rfl (by omega) _ k (ints os) rfl (HO3.out.alloc _) ⟨wz.heap.size, 0, none⟩ 1 1 [.int .i64 c0] rfl rfl (World.news_of_block (cs := #[.int .i64 c0]) (t := 3) (fr := (0, 0)) (heap_alloc_new wz _)) (by simp [Value.oneCell']) (by omega) (by unfold maxLen; omega) (by omega) (by simp; omega) (wz.heap.size + 1) (by simp) ?_; intro g cap wx hown1 hgrow hat hlt1)
            have HR := Lib.hid (fun (A' : Option Addr) (c' : Nat) => RefSt.next (A' := A') (m' := 0) (c' := c') HO3.out HS.out.len (by have h5 := HL3.out.tail.1; exact ⟨h5, fun j z hj => by rw [List.eq_nil_of_length_eq_zero h5] at hj; cases hj⟩) HBW.out HN.out (Nat.zero_le _) (Nat.zero_le _) (.cells #[.int .i64 c0] 3) hown1 hgrow hat)
            clear hown1 hgrow hat
            go_wp2
            go_roundw
            case rel => exact ⟨k + 1, 0, _, _, _, _, by omega, by go_num, rfl, HR.out _ _⟩
            case measure => simp [intOf]; omega
          · go_wp2_with (at_builtin; refine wpList_append_lies _ rfl _ _ _ rfl w.heap.size 3 i0 _ 1 8 Try.underlying58 hi hz0 hz1 hz2 rfl (by omega) _ k (ints os) rfl (HO3.out.alloc _) ⟨wz.heap.size, 0, none⟩ 1 1 [.int .i64 c0] rfl rfl (World.news_of_block (cs := #[.int .i64 c0]) (t := 3) (fr := (0, 0)) (heap_alloc_new wz _)) (by simp [Value.oneCell']) (by omega) (by unfold maxLen; omega) (by omega) (by simp; omega) (wz.heap.size + 1) (by simp) ?_; intro g cap wx hown1 hgrow hat hlt1)
            have HR := Lib.hid (RefSt.next HO3.out HS.out.len HL3.out.tail HBW.out HN.out (show m ≤ cc - 1 by omega) (by omega) (.cells #[.int .i64 c0] 3) hown1 hgrow hat)
            clear hown1 hgrow hat
            go_wp2
            go_roundw
            case rel => exact ⟨k + 1, m, _, _, _, _, by omega, by go_num, rfl, HR.out⟩
            case measure => simp [intOf]; omega
        | nil =>
          obtain rfl : m = 0 := by have := HL3.out.1; simpa using this.symm
          go_wp2_with (refine wpList_load_any rfl 56 _ rfl p rfl X hld2 ?_)
          refine (ref21_begins L X HXX.out _).mono ?_
          rintro e w' ⟨rfl, rfl⟩
          have HB4 := Lib.hid ((Below.refl wz.heap.size wz).alloc (Nat.le_refl _) (.cells X 56))
          have HO4 := Lib.hid (HO3.out.alloc (.cells X 56))
          have HBW4 := Lib.hid (HBW.out.trans (HB4.out.mono hszz))
          have HL4 := Lib.hid (HL3.out.below HB4.out)
          have hpz : p.block < wz.heap.size := Nat.lt_of_lt_of_le hpw HB3.out.size
          have hk3 : (wz.alloc (.cells X 56)).cell? ⟨p.block, p.off + 2 + 1, none⟩ = some (.int .i64 L.cond) := (World.cell?_alloc_lt _ _ ⟨p.block, p.off + 2 + 1, none⟩ hpz).trans (field HC3.out (j := 2) rfl)
          have hk7 : (wz.alloc (.cells X 56)).cell? ⟨p.block, p.off + 2 + 5, none⟩ = some (.int .i64 L.imm) := (World.cell?_alloc_lt _ _ ⟨p.block, p.off + 2 + 5, none⟩ hpz).trans (field HC3.out (j := 6) rfl)
          have hk3' : (wz.alloc (.cells X 56)).cell? ⟨p.block, p.off + 3, none⟩ = some (.int .i64 L.cond) := hk3
          have hk7' : (wz.alloc (.cells X 56)).cell? ⟨p.block, p.off + 7, none⟩ = some (.int .i64 L.imm) := hk7
          generalize wz.alloc (.cells X 56) = wy at HB4 HO4 HBW4 HL4 hk3 hk7 hk3' hk7' ⊢
          have hszy : w.heap.size ≤ wy.heap.size := HBW4.out.size
          clear hld2
          cases ht1 : itB L with
          | false =>
            have HN := Lib.hid (show (os ++ [-1], []) = aSt (ls.take (k + 1)) by rw [HP.out, ← HS.out.st, aStep_no hi1 ht1])
            clear hk3 hk7 hk3' hk7'
            go_wp2_with (at_builtin; refine wpList_append_lies _ rfl _ _ _ rfl w.heap.size 3 i0 _ 1 8 Try.underlying58 hi hz0 hz1 hz2 rfl (by omega) _ k (ints os) rfl (HO4.out.alloc _) ⟨wy.heap.size, 0, none⟩ 1 1 [.int .i64 (-1)] rfl rfl (World.news_of_block (cs := #[.int .i64 (-1)]) (t := 3) (fr := (0, 0)) (heap_alloc_new wy _)) (by simp [Value.oneCell']) (by omega) (by unfold maxLen; omega) (by omega) (by simp; omega) (wy.heap.size + 1) (by simp) ?_; intro g cap wx hown1 hgrow hat hlt1)
            have HR := Lib.hid (RefSt.next HO4.out HS.out.len HL4.out HBW4.out HN.out hmc hm4 (.cells #[.int .i64 (-1)] 3) hown1 hgrow hat)
            clear hown1 hgrow hat
            go_wp2
            go_roundw
            case rel => exact ⟨k + 1, 0, cc, _, [], AL, by omega, by go_num, rfl, HR.out⟩
            case measure => simp [intOf]; omega
          | true =>
            have HN := Lib.hid (show (os ++ [-1], condsL L.cond L.imm) = aSt (ls.take (k + 1)) by rw [HP.out, ← HS.out.st, aStep_it hi1 ht1])
            have hcl := condsL_len L.cond L.imm
            have hkn : (k : Int) < (n : Int) := by omega
            have hq1 := hok.cond.1; have hq2 := hok.cond.2; have hq3 := hok.imm.1; have hq4 := hok.imm.2
            go_wp2_with fail
            go_region_with (first | (go_at_call 30; refine (ref_Conds L.cond L.imm _ hq1 hq2 hq3 hq4).mono ?_; rintro e w4 ⟨v, rfl, hown, hb4⟩))
            all_goals
              obtain ⟨A4, c4, rfl, hmc4, _⟩ := own_shape hown
              have HL5 := Lib.hid (LeftR.of_own (vo := .slice Ao k co) hown (fun g hg => by have := (own_block HO4.out g hg).2; exact this))
              have HO5 := Lib.hid (own_below (w := wy) HO4.out ⟨hb4.os, hb4.tape, hb4.output, hb4.size, hb4.block⟩)
              have HB5 := Lib.hid (HBW4.out.trans (Below.mono (B := wy.heap.size) ⟨hb4.os, hb4.tape, hb4.output, hb4.size, hb4.block⟩ hszy))
              have hsz5 : w.heap.size ≤ w4.heap.size := HB5.out.size
              clear hown hb4 hk3 hk7 hk3' hk7'
              go_wp2_with (at_builtin; refine wpList_append_lies _ rfl _ _ _ rfl w.heap.size 3 i0 _ 1 8 Try.underlying58 hi hz0 hz1 hz2 rfl (by omega) _ k (ints os) rfl (HO5.out.alloc _) ⟨w4.heap.size, 0, none⟩ 1 1 [.int .i64 (-1)] rfl rfl (World.news_of_block (cs := #[.int .i64 (-1)]) (t := 3) (fr := (0, 0)) (heap_alloc_new w4 _)) (by simp [Value.oneCell']) (by omega) (by unfold maxLen; omega) (by omega) (by simp; omega) (w4.heap.size + 1) (by simp) ?_; intro g cap wx hown1 hgrow hat hlt1)
              have HR := Lib.hid (RefSt.next HO5.out HS.out.len HL5.out HB5.out HN.out hmc4 hcl (.cells #[.int .i64 (-1)] 3) hown1 hgrow hat)
              clear hown1 hgrow hat
              go_wp2
              go_roundw
              case rel => exact ⟨k + 1, _, c4, _, _, A4, by omega, by go_num, rfl, HR.out⟩
              case measure => simp [intOf]; omega
    · obtain rfl : n = k := by omega
      have hfull : ls.take n = ls := List.take_of_length_le (by rw [HX.out.len]; exact Nat.le_refl _)
      have HF := Lib.hid (show wr.ownsRow w.heap.size 3 1 (.slice Ao n co) n (ints (aSt ls).1) by
        have h := HS.out.out
        have h2 := HS.out.st
        rw [hfull] at h2
        rw [← h2]; exact h)
      go_wp2
      go_ret
      exact ⟨_, rfl, HF.out, HS.out.bel⟩
end
end Go.Proofs.Ytoippgiahldkmaa
