/- The example of chapter 22 (awake), and the walks of layer 22's statements PoolsPlans and PoolsFinds: each returns true, and the world keeps all that was there. -/
import Derived.Test.YtapenhbfpcmpnaaPoolRef
import Derived.Test.YtapenhbfpcmpnaaPoolFacts
import Derived.Deep.DrawnRows
namespace Go.Proofs.Ytapenhbfpcmpnaa
open Go.RowKit Mem
set_option linter.unusedVariables false
theorem flat_get : ∀ (ls : List Ln) (i : Nat) (L : Ln) (j : Nat) (u : Value), ls[i]? = some L → L.cells[j]? = some u → (ls.flatMap Ln.cells)[i * 19 + j]? = some u
  | [], i, L, j, u, h, _ => by cases h
  | M :: ls, 0, L, j, u, h, hj => by
    cases h
    show (M.cells ++ _)[0 * 19 + j]? = _
    have hl : j < M.cells.length := by
      rcases Nat.lt_or_ge j M.cells.length with hh | hh
      · exact hh
      · rw [List.getElem?_eq_none hh] at hj; cases hj
    rw [Nat.zero_mul, Nat.zero_add, List.getElem?_append_left hl]; exact hj
  | M :: ls, i + 1, L, j, u, h, hj => by
    show (M.cells ++ ls.flatMap Ln.cells)[(i + 1) * 19 + j]? = _
    have hl : M.cells.length = 19 := rfl
    rw [List.getElem?_append_right (by rw [hl]; omega), hl, show (i + 1) * 19 + j - 19 = i * 19 + j by omega]
    exact flat_get ls i L j u (by simpa using h) hj
theorem lit_lines (w : World) (ls : List Ln) (t : TypeId) (hok : ∀ L ∈ ls, L.ok) : Lines (w.alloc (.cells (ls.flatMap Ln.cells).toArray t)) (w.heap.size + 1) (some ⟨w.heap.size, 0, none⟩) ls.length ls := by
  refine ⟨rfl, hok, fun _ => ⟨_, rfl, by simp, fun i L hL j u hu => ?_⟩⟩
  rw [Addr.add_mid, Nat.zero_add, Mem.new_cell, List.getElem?_toArray]
  exact flat_get ls i L j u hL hu
/-- A line of a kind, nothing else. -/
def bare (k : Int) : Ln := ⟨⟨#[]⟩, k, 0, 0, 0, 0, 0, 0, 0, 0, false, 0, ⟨#[]⟩, false, 0, 0, 0, ⟨#[]⟩, .slice none 0 0⟩
theorem bare_ok {k : Int} (h : i64B k) : (bare k).ok := by
  have h0 : i64B 0 := ⟨by omega, by omega⟩
  exact ⟨h, h0, h0, h0, h0, h0, h0, h0, _, _, _, rfl⟩
def exLines : List Ln := [bare 2, bare 2, bare 5, bare 2]
theorem ex_ok : ∀ L ∈ exLines, L.ok := by
  intro L hL
  simp only [exLines, List.mem_cons, List.not_mem_nil, or_false] at hL
  rcases hL with rfl | rfl | rfl | rfl <;> exact bare_ok ⟨by omega, by omega⟩
theorem lit_ints (w : World) (l : List Int) : Ints (w.alloc (.cells (ints l).toArray 3)) (w.heap.size + 1) (some ⟨w.heap.size, 0, none⟩) l.length l := by
  refine ⟨by rw [ints_len]; omega, fun _ => ⟨_, rfl, by simp, fun j u hu => ?_⟩⟩
  rw [Addr.add_mid, Nat.zero_add, Mem.new_cell, List.getElem?_toArray]
  exact hu
theorem ex_plan : planOf (items exLines [5, 5, 0, 5]) = [[5], [5]] := by decide +kernel
theorem ex_of1 : poolsOf (exLines.take 1) = 0 := by decide
theorem ex_of3 : poolsOf (exLines.take 3) = 1 := by decide
theorem ex_f1 : Lib.idxOf [7, 5] 5 = 1 := by decide
theorem ex_f2 : Lib.idxOf [] 5 = -1 := by decide
theorem lit_grid (w : World) : Grid (((w.alloc (.cells #[.int .i64 5] 3)).alloc (.cells #[.int .i64 5] 3)).alloc (.cells #[.slice (some ⟨w.heap.size, 0, none⟩) 1 1, .slice (some ⟨w.heap.size + 1, 0, none⟩) 1 1] 23)) (w.heap.size + 3) (some ⟨w.heap.size + 2, 0, none⟩) 2 [[5], [5]] := by
  have i1 : Ints (((w.alloc (.cells #[.int .i64 5] 3)).alloc (.cells #[.int .i64 5] 3)).alloc (.cells #[.slice (some ⟨w.heap.size, 0, none⟩) 1 1, .slice (some ⟨w.heap.size + 1, 0, none⟩) 1 1] 23)) (w.heap.size + 3) (some ⟨w.heap.size, 0, none⟩) 1 [5] :=
    ((((lit_ints w [5]).alloc (by simp) _).alloc (by simp) _).more (by omega))
  have i2 : Ints (((w.alloc (.cells #[.int .i64 5] 3)).alloc (.cells #[.int .i64 5] 3)).alloc (.cells #[.slice (some ⟨w.heap.size, 0, none⟩) 1 1, .slice (some ⟨w.heap.size + 1, 0, none⟩) 1 1] 23)) (w.heap.size + 3) (some ⟨w.heap.size + 1, 0, none⟩) 1 [5] := by
    have := ((lit_ints (w.alloc (.cells #[.int .i64 5] 3)) [5]).alloc (by simp) (.cells #[.slice (some ⟨w.heap.size, 0, none⟩) 1 1, .slice (some ⟨w.heap.size + 1, 0, none⟩) 1 1] 23)).more (B' := w.heap.size + 3) (by simp)
    rw [show (w.alloc (.cells #[.int .i64 5] 3)).heap.size = w.heap.size + 1 by simp] at this
    exact this
  refine ⟨rfl, fun k hk => ?_⟩
  match k, hk with
  | 0, _ => exact ⟨_, some ⟨w.heap.size, 0, none⟩, 1, 1, [5], rfl, by simp, by rw [Mem.add_zero]; simp [go_sem], rfl, i1, by omega⟩
  | 1, _ => exact ⟨_, some ⟨w.heap.size + 1, 0, none⟩, 1, 1, [5], rfl, by simp, by simp [go_sem, Addr.add], rfl, i2, by omega⟩
theorem lines_alloc {w : World} {B n : Nat} {A : Option Addr} {ls : List Ln} (h : Lines w B A n ls) (hB : B ≤ w.heap.size) (o : Obj) : Lines (w.alloc o) B A n ls := h.keep fun p hp => World.cell?_alloc_lt w o p (by omega)
theorem ex_lines (w : World) : Lines ((w.alloc (.cells (exLines.flatMap Ln.cells).toArray 39)).alloc (.cells (ints [5, 5, 0, 5]).toArray 3)) (w.heap.size + 2) (some ⟨w.heap.size, 0, none⟩) 4 exLines :=
  (lines_alloc (lit_lines w exLines 39 ex_ok) (by simp) _).more (by omega)
theorem ex_ints (w : World) : Ints ((w.alloc (.cells (exLines.flatMap Ln.cells).toArray 39)).alloc (.cells (ints [5, 5, 0, 5]).toArray 3)) (w.heap.size + 2) (some ⟨w.heap.size + 1, 0, none⟩) 4 [5, 5, 0, 5] := by
  have := (lit_ints (w.alloc (.cells (exLines.flatMap Ln.cells).toArray 39)) [5, 5, 0, 5]).more (B' := w.heap.size + 2) (by simp)
  simpa using this
theorem ex_call (w : World) : Calls Try.prog 9 #[.slice (some ⟨w.heap.size, 0, none⟩) 4 4, .slice (some ⟨w.heap.size + 1, 0, none⟩) 4 4] ((w.alloc (.cells (exLines.flatMap Ln.cells).toArray 39)).alloc (.cells (ints [5, 5, 0, 5]).toArray 3))
    fun e w' => ∃ A1 c1, e = .returned (.slice A1 2 c1) ∧ Grid w' w'.heap.size A1 2 [[5], [5]] ∧ Lines w' w'.heap.size (some ⟨w.heap.size, 0, none⟩) 4 exLines ∧ Below w.heap.size w w' := by
  have hsz : ((w.alloc (.cells (exLines.flatMap Ln.cells).toArray 39)).alloc (.cells (ints [5, 5, 0, 5]).toArray 3)).heap.size = w.heap.size + 2 := by simp
  refine (pools_Plan _ _ 4 4 4 4 (w.heap.size + 2) exLines [5, 5, 0, 5] _ (ex_lines w) (ex_ints w) (by rw [hsz]; exact Nat.le_refl _) (by omega) (by omega)).mono ?_
  rintro e w1 ⟨A1, n1, c1, rfl, hg, hn1, hb⟩
  rw [ex_plan] at hg
  have : n1 = 2 := hg.len.symm
  subst this
  rw [hsz] at hb
  refine ⟨A1, c1, rfl, hg, ((ex_lines w).below hb).more (by have := hb.size; rw [hsz] at this; exact this), ?_⟩
  exact (((Below.refl w.heap.size w).alloc (Nat.le_refl _) _).alloc (by simp) _).trans (hb.mono (by omega))
set_option maxRecDepth 100000 in
set_option maxHeartbeats 4000000 in
theorem awake22 (w : World) :
    Calls Try.prog 7 #[] w fun e w' => e = .returned (.bool true) ∧ Below w.heap.size w w' := by
  go_enter Try.func7, Try.ntmps7
  go_wp2_with fail
  refine (ex_call w).mono ?_
  rintro e w1 ⟨A1, c1, rfl, hg, hl, hb1⟩
  have HG := Lib.hid hg; have HL := Lib.hid hl; have HB1 := Lib.hid hb1
  clear hg hl hb1
  go_wp2_with fail
  have h3 : Below w1.heap.size w1 (((w1.alloc (.cells #[.int .i64 5] 3)).alloc (.cells #[.int .i64 5] 3)).alloc (.cells #[.slice (some ⟨w1.heap.size, 0, none⟩) 1 1, .slice (some ⟨w1.heap.size + 1, 0, none⟩) 1 1] 23)) := (((Below.refl _ _).alloc (Nat.le_refl _) _).alloc (by simp) _).alloc (by simp; omega) _
  have H3 := Lib.hid h3
  clear h3
  refine (ref22_Same _ _ 2 2 _ _ (w1.heap.size + 3) [[5], [5]] [[5], [5]] _ ((HG.out.keep H3.out).more (by omega)) (lit_grid w1) (by omega) (by omega)).mono ?_
  rintro e w2 ⟨rfl, mm, rfl⟩
  obtain ⟨w2, hw2⟩ : ∃ w2, w2 = (((w1.alloc (.cells #[.int .i64 5] 3)).alloc (.cells #[.int .i64 5] 3)).alloc (.cells #[.slice (some ⟨w1.heap.size, 0, none⟩) 1 1, .slice (some ⟨w1.heap.size + 1, 0, none⟩) 1 1] 23)).drewN mm := ⟨_, rfl⟩
  rw [← hw2]
  have HB2 := Lib.hid (show Below w1.heap.size w1 w2 by rw [hw2]; exact below_drewN H3.out _)
  have HL2 := Lib.hid (HL.out.below HB2.out)
  clear hw2 H3
  go_wp2_with fail
  refine (pools_Of _ 4 4 _ exLines 1 _ HL2.out (by omega) (by omega) (by omega)).mono ?_
  rintro e w' ⟨rfl, rfl⟩
  rw [show (1 : Int).toNat = 1 from rfl, ex_of1]
  go_wp2_with fail
  refine (pools_Of _ 4 4 _ exLines 3 _ HL2.out (by omega) (by omega) (by omega)).mono ?_
  rintro e w' ⟨rfl, rfl⟩
  rw [show (3 : Int).toNat = 3 from rfl, ex_of3]
  go_wp2_with fail
  refine (pools_Find _ 2 2 _ [7, 5] 5 _ (lit_ints w2 [7, 5]) (by omega)).mono ?_
  rintro e w' ⟨rfl, rfl⟩
  rw [ex_f1]
  go_wp2_with fail
  refine (pools_Find _ 0 0 0 [] 5 _ Ints.nil (by omega)).mono ?_
  rintro e w' ⟨rfl, rfl⟩
  rw [ex_f2]
  have HB3 := Lib.hid ((HB1.out.trans (HB2.out.mono HB1.out.size)).alloc (Nat.le_trans HB1.out.size HB2.out.size) (.cells #[.int .i64 7, .int .i64 5] 3))
  go_wp2
  go_ret
  exact ⟨rfl, HB3.out⟩
set_option maxRecDepth 100000 in
set_option maxHeartbeats 2000000 in
theorem law_PoolsPlans (A A' : Option Addr) (n c n' c' : Nat) (ls : List Ln) (vals : List Int) (w : World) (hx : Lines w w.heap.size A n ls) (hv : Ints w w.heap.size A' n' vals) (hn : n ≤ 9223372036854775807) (hn' : n' ≤ 9223372036854775807) :
    Calls Try.prog 3 #[.slice A n c, .slice A' n' c'] w fun e w' => e = .returned (.bool true) ∧ Below w.heap.size w w' := by
  have HX := Lib.hid hx; have HV := Lib.hid hv
  clear hx hv
  by_cases h1 : 1000 < n
  · go_enter Try.func3, Try.ntmps3
    go_wp2_with (go_at_call 7; refine (awake22 _).mono ?_; rintro e w1 ⟨rfl, hb⟩)
    go_ret
    exact ⟨rfl, hb⟩
  go_enter Try.func3, Try.ntmps3
  go_wp2_with fail
  refine (pools_Plan _ _ _ _ _ _ _ _ _ _ HX.out HV.out (Nat.le_refl _) (by omega) hn').mono ?_
  rintro e w1 ⟨A1, n1, c1, rfl, hg, hn1, hb1⟩
  have HG := Lib.hid hg; have HB1 := Lib.hid hb1
  have HX1 := Lib.hid ((HX.out.below hb1).more hb1.size); have HV1 := Lib.hid ((HV.out.below hb1).more hb1.size)
  clear hg hb1
  go_wp2_with fail
  refine (ref22_Plan _ _ _ _ _ _ _ _ _ _ HX1.out HV1.out (Nat.le_refl _) (by omega) hn').mono ?_
  rintro e w2 ⟨A2, n2, c2, rfl, hg2, hb2⟩
  have hn2 : n2 ≤ 1001 := by have h1 := hg2.len; have h2 := HG.out.len; omega
  have HG2 := Lib.hid hg2; have HG1 := Lib.hid ((HG.out.keep hb2).more hb2.size)
  have HB2 := Lib.hid (HB1.out.trans (hb2.mono HB1.out.size))
  clear hg2 hb2
  go_wp2_with fail
  refine (ref22_Same _ _ _ _ _ _ _ _ _ _ HG1.out HG2.out (by omega) (by omega)).mono ?_
  rintro e w3 ⟨rfl, mm, rfl⟩
  obtain ⟨w3, hw3⟩ : ∃ w3, w3 = w2.drewN mm := ⟨_, rfl⟩
  rw [← hw3]
  have HB3 := Lib.hid (show Below w.heap.size w w3 by rw [hw3]; exact below_drewN HB2.out _)
  clear hw3
  go_wp2_with fail
  refine (awake22 _).mono ?_
  rintro e w4 ⟨rfl, hb4⟩
  have HB4 := Lib.hid (HB3.out.trans (hb4.mono HB3.out.size))
  clear hb4
  go_wp2
  go_ret
  exact ⟨rfl, HB4.out⟩
/-- What a region with calls keeps. -/
structure KL (w w' : World) (A : Option Addr) (n : Nat) (ls : List Ln) (A' : Option Addr) (n' : Nat) (pool : List Int) : Prop where
  lt : w.heap.size < w'.heap.size
  lines : Lines w' w.heap.size A n ls
  ints_ : Ints w' w.heap.size A' n' pool
  bel : Below w.heap.size w w'
section
variable {w w' w1 : World} {A A' : Option Addr} {n n' : Nat} {ls : List Ln} {pool : List Int} {x y : Int}
theorem kl_next (h : (w'.cell? ⟨w.heap.size, 0, none⟩ = some (.int .i64 x) ∧ w'.cell? ⟨w.heap.size, 1, none⟩ = some (.int .i64 y)) ∧ KL w w' A n ls A' n' pool) (hb : Below w'.heap.size w' w1) :
    (w1.cell? ⟨w.heap.size, 0, none⟩ = some (.int .i64 x) ∧ w1.cell? ⟨w.heap.size, 1, none⟩ = some (.int .i64 y)) ∧ KL w w1 A n ls A' n' pool := by
  obtain ⟨⟨a, b⟩, k⟩ := h
  have hb' := hb.mono (Nat.le_of_lt k.lt)
  exact ⟨⟨(hb.cell (p := ⟨w.heap.size, 0, none⟩) k.lt).trans a, (hb.cell (p := ⟨w.heap.size, 1, none⟩) k.lt).trans b⟩, Nat.lt_of_lt_of_le k.lt hb.size, k.lines.below hb', k.ints_.below hb', k.bel.trans hb'⟩
theorem kl_lines (h : (w'.cell? ⟨w.heap.size, 0, none⟩ = some (.int .i64 x) ∧ w'.cell? ⟨w.heap.size, 1, none⟩ = some (.int .i64 y)) ∧ KL w w' A n ls A' n' pool) : Lines w' w.heap.size A n ls := h.2.lines
theorem kl_ints (h : (w'.cell? ⟨w.heap.size, 0, none⟩ = some (.int .i64 x) ∧ w'.cell? ⟨w.heap.size, 1, none⟩ = some (.int .i64 y)) ∧ KL w w' A n ls A' n' pool) : Ints w' w.heap.size A' n' pool := h.2.ints_
theorem kl_bel (h : (w'.cell? ⟨w.heap.size, 0, none⟩ = some (.int .i64 x) ∧ w'.cell? ⟨w.heap.size, 1, none⟩ = some (.int .i64 y)) ∧ KL w w' A n ls A' n' pool) : Below w.heap.size w w' := h.2.bel
end
section
attribute [local go_sem ↓] Go.wp_at_zero Go.wp_at_succ
set_option maxRecDepth 100000 in
set_option maxHeartbeats 4000000 in
theorem law_PoolsFinds (A A' : Option Addr) (n c n' c' : Nat) (ls : List Ln) (pool : List Int) (x y : Int) (w : World) (hx : Lines w w.heap.size A n ls) (hv : Ints w w.heap.size A' n' pool) (hn : n ≤ 9223372036854775807) (hn' : n' ≤ 9223372036854775807)
    (ha : -9223372036854775808 ≤ x) (ha' : x ≤ 9223372036854775807) :
    Calls Try.prog 4 #[.slice A n c, .slice A' n' c', .agg #[.int .i64 x, .int .i64 y]] w fun e w' => e = .returned (.bool true) ∧ Below w.heap.size w w' := by
  have HX := Lib.hid hx; have HV := Lib.hid hv
  clear hx hv
  have HB0 := Lib.hid ((Below.refl w.heap.size w).alloc (Nat.le_refl _) (.cells #[.int .i64 x, .int .i64 y] 29))
  by_cases h1 : 1000 < n
  · go_enter Try.func4, Try.ntmps4
    go_wp2_with (go_at_call 7; refine (awake22 _).mono ?_; rintro e w1 ⟨rfl, hb⟩)
    go_ret
    exact ⟨rfl, HB0.out.trans (hb.mono HB0.out.size)⟩
  by_cases h2 : 1000 < n'
  · go_enter Try.func4, Try.ntmps4
    go_wp2_with (go_at_call 7; refine (awake22 _).mono ?_; rintro e w1 ⟨rfl, hb⟩)
    go_ret
    exact ⟨rfl, HB0.out.trans (hb.mono HB0.out.size)⟩
  obtain ⟨q, hq⟩ : ∃ q : Int, q = (poolsOf (ls.take x.toNat) : Int) := ⟨_, rfl⟩
  obtain ⟨d, hd⟩ : ∃ d : Int, d = Lib.idxOf pool y := ⟨_, rfl⟩
  have HQ := Lib.hid hq; have HD := Lib.hid hd
  clear hq hd
  have t1 : (q == q) = true := by simp
  have t2 : (d == d) = true := by simp
  have hKL : KL w (w.alloc (.cells #[.int .i64 x, .int .i64 y] 29)).drew A n ls A' n' pool := ⟨by simp, HX.out.below (HB0.out.drew), HV.out.below (HB0.out.drew), HB0.out.drew⟩
  go_enter Try.func4, Try.ntmps4
  go_wp2
  go_region_held3 (fun w' => (w'.cell? ⟨w.heap.size, 0, none⟩ = some (.int .i64 x) ∧ w'.cell? ⟨w.heap.size, 1, none⟩ = some (.int .i64 y)) ∧ KL w w' A n ls A' n' pool) (first | go_keep | (exact kl_next (by assumption) hbw)) (first | (go_at_call 11; refine (pools_Of _ _ _ _ _ _ _ (kl_lines (x := x) (y := y) (by assumption)) hn ha ha').mono ?_; rintro e w1 ⟨rfl, rfl⟩; rw [← HQ.out]) | (go_at_call 12; refine (ref22_Of _ _ _ _ _ _ _ (kl_lines (x := x) (y := y) (by assumption)) hn ha ha').mono ?_; rintro e w1 ⟨rfl, rfl⟩; rw [← HQ.out]) | (go_at_call 13; refine (pools_Find _ _ _ _ _ _ _ (kl_ints (x := x) (y := y) (by assumption)) hn').mono ?_; rintro e w1 ⟨rfl, rfl⟩; rw [← HD.out]) | (go_at_call 14; refine (ref22_Find _ _ _ _ _ _ _ (kl_ints (x := x) (y := y) (by assumption)) hn').mono ?_; rintro e w1 ⟨rfl, rfl⟩; rw [← HD.out]) | (go_at_call 7; refine (awake22 _).mono ?_; rintro e w1 ⟨rfl, hbw⟩))
  all_goals
    go_wp2
    go_ret
    exact ⟨rfl, kl_bel (x := x) (y := y) (by assumption)⟩
end
end Go.Proofs.Ytapenhbfpcmpnaa
