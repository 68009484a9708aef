/- The contract of blocks.asked: of each line the condition that its block asks; whether a block does not end. -/
import Derived.Test.YtoippgiahldkmaaBlockIns
namespace Go.Proofs.Ytoippgiahldkmaa
open Go.RowKit Mem
set_option linter.unusedVariables false
theorem below_set {B : Nat} {a w : World} (h : Below B a w) {O k : Nat} (hO : B ≤ O) (v : Value) : Below B a (w.setCell ⟨O, k, none⟩ v) := h.setCell (p := ⟨O, k, none⟩) hO v
theorem cell_set_other (w : World) (O k : Nat) (v : Value) (b o : Nat) (h : b ≠ O) : (w.setCell ⟨O, k, none⟩ v).cell? ⟨b, o, none⟩ = w.cell? ⟨b, o, none⟩ :=
  World.cell?_of_block (a := ⟨b, o, none⟩) (Below.heap_setCell w ⟨O, k, none⟩ v b h)
theorem size_set (w : World) (a : Addr) (v : Value) : (w.setCell a v).heap.size = w.heap.size := by unfold World.setCell; simp
theorem LeftAt.set {w : World} {O n : Nat} {A : Option Addr} {l : List Int} (h : LeftAt w O A n l) (k : Nat) (v : Value) : LeftAt (w.setCell ⟨O, k, none⟩ v) O A n l :=
  h.keep (by rw [size_set]; exact Nat.le_refl _) fun b o hb _ => cell_set_other w O k v b o hb
theorem LeftAt.below {w w' : World} {O n : Nat} {A : Option Addr} {l : List Int} (h : LeftAt w O A n l) (hb : Below w.heap.size w w') : LeftAt w' O A n l :=
  h.keep hb.size fun b o _ hl => hb.cell (p := ⟨b, o, none⟩) hl
theorem LeftAt.tail {w : World} {O n b o : Nat} {c : Int} {l : List Int} (h : LeftAt w O (some ⟨b, o, none⟩) (n + 1) (c :: l)) : LeftAt w O (some ⟨b, o + 1, none⟩) n l :=
  ⟨by have := h.1; simp at this; exact this, fun j z hj => by
    obtain ⟨b', o', e, hb, hl, hc⟩ := h.2 (j + 1) z (by simpa using hj)
    cases e
    exact ⟨b, o + 1, rfl, hb, hl, by rw [show o + 1 + j = o + (j + 1) by omega]; exact hc⟩⟩
theorem LeftAt.of_own {w : World} {base O n c : Nat} {A : Option Addr} {l : List Int} (h : w.ownsRow base 3 1 (.slice A n c) n (ints l)) (hO : O < base) : LeftAt w O A n l := by
  have hl : l.length = n := by have := h.1; rw [ints_len] at this; omega
  refine ⟨hl, fun j z hj => ?_⟩
  have hn : 0 < n := by
    rcases Nat.eq_zero_or_pos n with h0 | h0
    · rw [List.eq_nil_of_length_eq_zero (hl.trans h0)] at hj; cases hj
    · exact h0
  obtain ⟨g, cap, hv, hgb, hlt⟩ := h.form hn
  cases hv
  have hc := h.cells (g := g) rfl j (.int .i64 z) (by unfold ints; rw [List.getElem?_map, hj]; rfl)
  rw [Addr.add_mid] at hc
  exact ⟨g, 0, rfl, by omega, hlt, hc⟩
theorem World.size_alloc' (w : World) (o : Obj) : (w.alloc o).heap.size = w.heap.size + 1 := by simp
theorem box_cell (wr : World) (k O : Nat) (X : Array Value) (L : Ln) (hX : X = L.cells.toArray) (j : Nat) (v : Value) (hj : L.cells[j]? = some v) :
    (((wr.setCell ⟨O, k, none⟩ (.int .i64 (-1))).alloc (.cells X 56)).alloc (.cells X 56)).cell? ⟨wr.heap.size, j, none⟩ = some v := by
  rw [World.cell?_alloc_lt _ _ _ (by rw [World.size_alloc', size_set]; show wr.heap.size < _; omega)]
  have := new_line (wr.setCell ⟨O, k, none⟩ (.int .i64 (-1))) X 56 j v (by rw [hX, List.getElem?_toArray]; exact hj)
  rwa [size_set] at this
/-- Where asked stands. -/
structure AskSt (w wr : World) (ls : List Ln) (n k : Nat) (os lf : List Int) (A : Option Addr) (m c : Nat) : Prop where
  st : (os, lf) = aSt (ls.take k)
  len : os.length = k
  arr : Arr wr w.heap.size (os ++ List.replicate (n - k) 0)
  left : LeftAt wr w.heap.size A m lf
  mc : m ≤ c
  m4 : m ≤ 4
  bel : Below w.heap.size w wr
set_option maxRecDepth 100000 in
set_option maxHeartbeats 4000000 in
theorem blocks_asked (A : Option Addr) (n c B : Nat) (ls : List Ln) (w : World) (hx : Lines w B A n ls) (hB : B ≤ w.heap.size) (hn : n ≤ 1000) :
    Calls Try.prog 40 #[.slice A n c] w fun e w' => e = .returned (.tuple #[.slice (some ⟨w.heap.size, 0, none⟩) n n, .bool (decide (0 < (aSt ls).2.length))]) ∧ Arr w' w.heap.size (aSt ls).1 ∧ Below w.heap.size w w' := by
  have HX := Lib.hid hx
  clear hx
  obtain ⟨i0, hi, hz0, hz1, hz2⟩ := info_parts Try.infoInt
  have hmk : (Instr.makeSlice 58 (.int .i64 (n : Int)) (.int .i64 (n : Int))).run Try.prog w = .ok (.slice (some ⟨w.heap.size, 0, none⟩) n n) (w.alloc (.cells (madeCells #[.int .i64 0] n) 3)) := by
    have := run_make (P := Try.prog) w 58 3 i0 (.int .i64 0) Try.underlying58 hi hz0 .i64 .i64 (n : Int) (n : Int) (by omega) (by omega) (by rw [hz2]; omega) (by omega)
    rw [hz1, show ((n : Nat) : Int).toNat = n by omega, Nat.mul_one] at this
    exact this
  have hA0 : Arr (w.alloc (.cells (madeCells #[.int .i64 0] n) 3)) w.heap.size ([] ++ List.replicate (n - 0) 0) := by
    unfold Arr; rw [made_ints]; exact heap_alloc_new w _
  go_enter Try.func40, Try.ntmps40
  go_wp2
  generalize hw0 : w.alloc (.cells (madeCells #[.int .i64 0] n) 3) = w0 at hA0
  have HB0 := Lib.hid (show Below w.heap.size w w0 by rw [← hw0]; exact (Below.refl _ _).alloc (Nat.le_refl _) _)
  clear hw0 hmk
  go_loopw [5, 13] (fun lv iv wr => ∃ (k m cc : Nat) (os lf : List Int) (AL : Option Addr), k ≤ n ∧ iv = .int .i64 k ∧ lv = .slice AL m cc ∧ AskSt w wr ls n k os lf AL m cc) (fun _ iv _ => n - (intOf iv).toNat)
  case atStart => exact ⟨0, 0, 0, [], [], none, by omega, rfl, rfl, rfl, rfl, hA0, LeftAt.nil _ _ _, by omega, by omega, HB0.out⟩
  case round =>
    obtain ⟨k, m, cc, os, lf, AL, hk, rfl, rfl, hst⟩ := hrel
    have HS := Lib.hid hst
    have hm4 := hst.m4
    have hmc := hst.mc
    clear hst
    have hsz := HS.out.bel.size
    have hOlt := HS.out.arr.lt
    by_cases hlt : k < n
    · obtain ⟨ad, p, L, rfl, hp, hpb, hL, hok, hc⟩ := (HX.out.below (HS.out.bel.mono hB)).get hlt
      have HP := Lib.hid (aSt_snoc hL)
      obtain ⟨X, hX⟩ : ∃ X, X = L.cells.toArray := ⟨_, rfl⟩
      have hld : (Instr.loadAt 56 (.pointer (some p))).run Try.prog wr = .ok (.agg X) wr := by rw [hX]; exact run_loadAt_any wr p 56 L.cells _ hc Try.underlying56 rfl (by kernel_rfl)
      have hXs : X.size = 19 := by rw [hX]; rfl
      have hXi : (Try.prog.info? 56).map (·.size) = some X.size := by rw [hXs]; kernel_rfl
      have hX1 : X.all (·.oneCell') = true := by rw [hX]; exact Ln.arr_one L hok
      have HXX := Lib.hid hX
      have c0 : (wr.alloc (.cells X 56)).cell? ⟨w.heap.size, k, none⟩ = some (.int .i64 0) := (World.cell?_alloc_lt _ _ _ hOlt).trans (HS.out.arr.cell (fill_at HS.out.len hlt))
      have f0 : (wr.alloc (.cells X 56)).frozen? ⟨w.heap.size, k, none⟩ = false := by
        rw [World.frozen?_of_block (w := wr) (a := ⟨w.heap.size, k, none⟩) (Below.heap_alloc _ _ _ hOlt)]; exact HS.out.arr.frozen k
      have hld2 : (Instr.loadAt 56 (.pointer (some ⟨wr.heap.size, 0, none⟩))).run Try.prog ((wr.setCell ⟨w.heap.size, k, none⟩ (.int .i64 (-1))).alloc (.cells X 56)) = .ok (.agg X) ((wr.setCell ⟨w.heap.size, k, none⟩ (.int .i64 (-1))).alloc (.cells X 56)) := run_load_new _ _ _ _ X _ (size_set _ _ _).symm Try.underlying56 rfl hXi
      clear hc hL hX
      go_wp2_with (first | (refine wpList_load_any rfl 56 _ rfl p rfl X hld ?_) | (refine wpList_load_any rfl 56 _ rfl ⟨wr.heap.size, 0, none⟩ rfl X hld2 ?_) | (refine wpList_store_any rfl 56 _ _ rfl ⟨wr.heap.size, 0, none⟩ rfl X rfl (run_store_new wr 56 56 _ X (by rw [hXs]; rfl) hXi hX1) ?_))
      refine (blocks_ins L X HXX.out _).mono ?_
      rintro e w' ⟨rfl, rfl⟩
      have HA3 := Lib.hid (show Arr (((wr.setCell ⟨w.heap.size, k, none⟩ (.int .i64 (-1))).alloc (.cells X 56)).alloc (.cells X 56)) w.heap.size ((os ++ [-1]) ++ List.replicate (n - (k + 1)) 0) by
        rw [← fill_step HS.out.len hlt (-1)]
        exact ((HS.out.arr.set k (-1)).below ((Below.refl _ _).alloc (Nat.le_refl _) _)).below ((Below.refl _ _).alloc (Nat.le_refl _) _))
      have HL3 := Lib.hid (((HS.out.left.set k (.int .i64 (-1))).below ((Below.refl _ _).alloc (Nat.le_refl _) (.cells X 56))).below ((Below.refl _ _).alloc (Nat.le_refl _) (.cells X 56)))
      have HB3 := Lib.hid (((below_set HS.out.bel (O := w.heap.size) (k := k) (Nat.le_refl _) (.int .i64 (-1))).alloc (by rw [size_set]; exact hsz) (.cells X 56)).alloc (by simp only [World.size_alloc']; rw [size_set]; omega) (.cells X 56))
      have hb1 := box_cell wr k (w.heap.size) X L HXX.out 1 (.int .i64 L.kind) rfl
      have hb2 := box_cell wr k (w.heap.size) X L HXX.out 2 (.int .i64 L.op) rfl
      have hb3 := box_cell wr k (w.heap.size) X L HXX.out 3 (.int .i64 L.cond) rfl
      have hb7 := box_cell wr k (w.heap.size) X L HXX.out 7 (.int .i64 L.imm) rfl
      have hz3 : (((wr.setCell ⟨w.heap.size, k, none⟩ (.int .i64 (-1))).alloc (.cells X 56)).alloc (.cells X 56)).heap.size = wr.heap.size + 2 := by simp only [World.size_alloc', size_set]
      generalize ((wr.setCell ⟨w.heap.size, k, none⟩ (.int .i64 (-1))).alloc (.cells X 56)).alloc (.cells X 56) = wz at HA3 HL3 HB3 hb1 hb2 hb3 hb7 hz3 ⊢
      have HZ3 := Lib.hid hz3
      clear hz3 hld2 c0 f0 hld
      cases hi1 : insB L with
      | false =>
        have HN := Lib.hid (show (os ++ [-1], lf) = aSt (ls.take (k + 1)) by rw [HP.out, ← HS.out.st, aStep_out hi1])
        go_wp2
        go_roundw
        case rel => exact ⟨k + 1, m, cc, _, lf, AL, by omega, by go_num, rfl, HN.out, by simp [HS.out.len], HA3.out, HL3.out, hmc, hm4, HB3.out⟩
        case measure => simp [intOf]; omega
      | true =>
        cases lf with
        | nil =>
          obtain rfl : m = 0 := by have := HL3.out.1; simpa using this.symm
          cases hk1 : (L.kind == 1) with
          | false =>
            have HN := Lib.hid (show (os ++ [-1], []) = aSt (ls.take (k + 1)) by rw [HP.out, ← HS.out.st, aStep_no hi1 (by unfold itB; rw [hk1]; rfl)])
            go_wp2
            go_roundw
            case rel => exact ⟨k + 1, 0, cc, _, [], AL, by omega, by go_num, rfl, HN.out, by simp [HS.out.len], HA3.out, HL3.out, hmc, hm4, HB3.out⟩
            case measure => simp [intOf]; omega
          | true =>
            cases ho1 : (L.op == 42) with
            | false =>
              have HN := Lib.hid (show (os ++ [-1], []) = aSt (ls.take (k + 1)) by rw [HP.out, ← HS.out.st, aStep_no hi1 (by unfold itB; rw [hk1, ho1]; rfl)])
              go_wp2
              go_roundw
              case rel => exact ⟨k + 1, 0, cc, _, [], AL, by omega, by go_num, rfl, HN.out, by simp [HS.out.len], HA3.out, HL3.out, hmc, hm4, HB3.out⟩
              case measure => simp [intOf]; omega
            | true =>
              have HN := Lib.hid (show (os ++ [-1], condsL L.cond L.imm) = aSt (ls.take (k + 1)) by rw [HP.out, ← HS.out.st, aStep_it hi1 (by unfold itB; rw [hk1, ho1]; rfl)])
              have hcl := condsL_len L.cond L.imm
              go_wp2_with fail
              refine (conds_Conds _ _ _ hok.cond.1 hok.cond.2 hok.imm.1 hok.imm.2).mono ?_
              rintro e w4 ⟨v, rfl, hown, hb4⟩
              obtain ⟨A4, c4, rfl, hmc4, _⟩ := own_shape hown
              have HL4 := Lib.hid (LeftAt.of_own (O := w.heap.size) hown (by have := HA3.out.lt; exact this))
              have HA4 := Lib.hid (HA3.out.below hb4)
              have HB4 := Lib.hid (HB3.out.trans (hb4.mono HB3.out.size))
              clear hown hb4
              go_wp2
              go_roundw
              case rel => exact ⟨k + 1, _, c4, _, _, A4, by omega, by go_num, rfl, HN.out, by simp [HS.out.len], HA4.out, HL4.out, hmc4, hcl, HB4.out⟩
              case measure => simp [intOf]; omega
        | cons c0 lt =>
          obtain ⟨m, rfl⟩ : ∃ m', m = m' + 1 := ⟨lt.length, by have := HL3.out.1; simpa using this.symm⟩
          have HN := Lib.hid (show (os ++ [c0], lt) = aSt (ls.take (k + 1)) by rw [HP.out, ← HS.out.st, aStep_in hi1])
          obtain ⟨b, o, rfl, hbO, hbl, hcl⟩ := HL3.out.2 0 c0 rfl
          rw [Nat.add_zero] at hcl
          have hcO : wz.cell? ⟨w.heap.size, k, none⟩ = some (.int .i64 (-1)) := HA3.out.cell (by
            rw [List.getElem?_append_left (by simp [HS.out.len]), List.getElem?_append_right (by rw [HS.out.len]; exact Nat.le_refl _), HS.out.len, Nat.sub_self]; rfl)
          have hfO := HA3.out.frozen k
          have hkn : (k : Int) < (n : Int) := by omega
          have HA5 := Lib.hid (show Arr (wz.setCell ⟨w.heap.size, k, none⟩ (.int .i64 c0)) w.heap.size ((os ++ [c0]) ++ List.replicate (n - (k + 1)) 0) by
            have e : ((os ++ [-1]) ++ List.replicate (n - (k + 1)) (0 : Int)).set k c0 = (os ++ [c0]) ++ List.replicate (n - (k + 1)) 0 := by
              rw [List.append_assoc, List.set_append, if_neg (by rw [HS.out.len]; omega), HS.out.len, Nat.sub_self]; simp
            rw [← e]
            exact HA3.out.set k c0)
          have HL5 := Lib.hid (HL3.out.tail.set k (.int .i64 c0))
          have HB5 := Lib.hid (below_set HB3.out (O := w.heap.size) (k := k) (Nat.le_refl _) (.int .i64 c0))
          by_cases hcc : cc = 1
          · subst hcc
            obtain rfl : m = 0 := by omega
            go_wp2
            go_region
            all_goals
              go_wp2
              go_roundw
              case rel => exact ⟨k + 1, 0, _, _, _, _, by omega, by go_num, rfl, HN.out, by simp [HS.out.len], HA5.out, by have h5 := HL5.out.1; exact ⟨h5, fun j z hj => by rw [List.eq_nil_of_length_eq_zero h5] at hj; cases hj⟩, by omega, by omega, HB5.out.drew⟩
              case measure => simp [intOf]; omega
          · go_wp2
            go_region
            all_goals
              go_wp2
              go_roundw
              case rel => exact ⟨k + 1, m, _, _, _, _, by omega, by go_num, rfl, HN.out, by simp [HS.out.len], HA5.out, HL5.out, by omega, by omega, HB5.out.drew⟩
              case measure => simp [intOf]; omega
    · obtain rfl : n = k := by omega
      have hfull : ls.take n = ls := List.take_of_length_le (by rw [HX.out.len]; exact Nat.le_refl _)
      have HF := Lib.hid (show (os, lf) = aSt ls by rw [HS.out.st, hfull])
      have HM := Lib.hid (show decide (0 < m) = decide (0 < (aSt ls).2.length) by
        rw [← HF.out]; simp only; rw [HS.out.left.1])
      have HAr := Lib.hid (show Arr wr w.heap.size (aSt ls).1 by
        rw [← HF.out]
        have := HS.out.arr
        rw [Nat.sub_self] at this
        simpa using this)
      go_wp2
      go_ret2
      exact ⟨by rw [← HM.out]; rfl, HAr.out, HS.out.bel⟩
end Go.Proofs.Ytoippgiahldkmaa
