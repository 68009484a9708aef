/- The law BlocksMade: plain facts, rows of lines that grow. -/
import Derived.Test.YtoippgiahldkmaaBlockAwake
import Derived.Deep.AppendLies
namespace Go.Proofs.Ytoippgiahldkmaa
open Go.RowKit Mem
set_option linter.unusedVariables false
/-- A block of moves under the conditions of a mask. -/
def madeL (c m : Int) (k : Nat) : List Ln := itL c m :: ((condsL c m).take k).map movL
theorem made_all (c m : Int) : madeL c m (condsL c m).length = itL c m :: (condsL c m).map movL := by unfold madeL; rw [List.take_of_length_le (Nat.le_refl _)]
theorem conds_in {c m : Int} (h : condsL c m ≠ []) : 0 ≤ c ∧ c ≤ 14 ∧ 1 ≤ m ∧ m ≤ 15 := by
  by_cases hr : c < 0 ∨ 14 < c ∨ m < 1 ∨ 15 < m
  · exact absurd (condsL_no hr) h
  · omega
theorem made_ok {c m : Int} (h0 : 0 ≤ c) (h1 : c ≤ 13) (h2 : 1 ≤ m) (h3 : m ≤ 15) : checkOf (madeL c m (condsL c m).length) = (0, 0) := by
  have := (by decide +kernel : ∀ c : Fin 14, ∀ m : Fin 15, checkOf (madeL (c.val : Int) ((m.val : Int) + 1) (condsL (c.val : Int) ((m.val : Int) + 1)).length) = (0, 0)) ⟨c.toNat, by omega⟩ ⟨(m - 1).toNat, by omega⟩
  simp only at this
  rwa [show ((c.toNat : Nat) : Int) = c by omega, show (((m - 1).toNat : Nat) : Int) + 1 = m by omega] at this
theorem made_bad {c m : Int} (h0 : 0 ≤ c) (h1 : c ≤ 13) (h2 : 1 ≤ m) (h3 : m ≤ 15) {j : Nat} {x : Int} (hj : (condsL c m)[j]? = some x) : checkOf ((madeL c m (condsL c m).length).set (j + 1) (movL (other x))) = (7, (j : Int) + 2) := by
  have hl := condsL_len c m
  have hjl : j < (condsL c m).length := (List.getElem?_eq_some_iff.1 hj).1
  have := (by decide +kernel : ∀ c : Fin 14, ∀ m : Fin 15, ∀ j : Fin 4, ((condsL (c.val : Int) ((m.val : Int) + 1))[j.val]?).all (fun x => decide (checkOf ((madeL (c.val : Int) ((m.val : Int) + 1) (condsL (c.val : Int) ((m.val : Int) + 1)).length).set (j.val + 1) (movL (other x))) = (7, (j.val : Int) + 2))) = true) ⟨c.toNat, by omega⟩ ⟨(m - 1).toNat, by omega⟩ ⟨j, by omega⟩
  simp only at this
  rw [show ((c.toNat : Nat) : Int) = c by omega, show (((m - 1).toNat : Nat) : Int) + 1 = m by omega, hj] at this
  simpa using this
theorem flat_get : ∀ (ls : List Ln) (i : Nat) (L : Ln) (j : Nat) (u : Value), ls[i]? = some L → L.cells[j]? = some u → (ls.flatMap Ln.cells)[i * 19 + j]? = some u
  | [], i, L, j, u, h, _ => by cases h
  | M :: ls, 0, L, j, u, h, hj => by
    cases h
    show (M.cells ++ _)[0 * 19 + j]? = _
    have hl : j < M.cells.length := (List.getElem?_eq_some_iff.1 hj).1
    rw [Nat.zero_mul, Nat.zero_add, List.getElem?_append_left hl]; exact hj
  | M :: ls, i + 1, L, j, u, h, hj => by
    show (M.cells ++ ls.flatMap Ln.cells)[(i + 1) * 19 + j]? = _
    have hl : M.cells.length = 19 := rfl
    rw [List.getElem?_append_right (by rw [hl]; omega), hl, show (i + 1) * 19 + j - 19 = i * 19 + j by omega]
    exact flat_get ls i L j u (by simpa using h) hj
theorem flat_set : ∀ (ls : List Ln) (i : Nat) (L : Ln) (y : Int), ls[i]? = some L → (ls.flatMap Ln.cells).set (i * 19 + 11) (.int .i64 y) = (ls.set i { L with c := y }).flatMap Ln.cells
  | [], i, L, y, h => by cases h
  | M :: ls, 0, L, y, h => by cases h; rfl
  | M :: ls, i + 1, L, y, h => by
    show (M.cells ++ ls.flatMap Ln.cells).set ((i + 1) * 19 + 11) _ = M.cells ++ (ls.set i { L with c := y }).flatMap Ln.cells
    have hl : M.cells.length = 19 := rfl
    rw [List.set_append, if_neg (by rw [hl]; omega), hl, show (i + 1) * 19 + 11 - 19 = i * 19 + 11 by omega, flat_set ls i L y (by simpa using h)]
theorem flat_len : ∀ (ls : List Ln), (ls.flatMap Ln.cells).length = ls.length * 19
  | [] => rfl
  | M :: ls => by
    show (M.cells ++ ls.flatMap Ln.cells).length = _
    rw [List.length_append, flat_len ls, show M.cells.length = 19 from rfl, List.length_cons]; omega
theorem Lines.of_own {w : World} {base n c : Nat} {A : Option Addr} {ls : List Ln} (h : w.ownsRow base 56 19 (.slice A n c) n (ls.flatMap Ln.cells)) (hok : ∀ L ∈ ls, L.ok) : Lines w w.heap.size A n ls := by
  have hl : ls.length = n := by have := h.1; rw [flat_len] at this; omega
  have hs := Sl.of_own h
  refine ⟨hl, hok, fun hn => ?_⟩
  obtain ⟨ad, e, hb, hc⟩ := hs.2 hn
  exact ⟨ad, e, hb, fun i L hL j u hu => hc _ _ (flat_get ls i L j u hL hu)⟩
theorem own_set {w : World} {base g n cap size o : Nat} {e : TypeId} {xs : List Value} (h : w.ownsRow base e size (.slice (some ⟨g, 0, none⟩) n cap) n xs) (v : Value) :
    (w.setCell ⟨g, o, none⟩ v).ownsRow base e size (.slice (some ⟨g, 0, none⟩) n cap) n (xs.set o v) := by
  obtain ⟨hl, ⟨hv, _⟩ | ⟨g', cap', cur, hv, hb, hg, h1, h2, h3, h4⟩⟩ := h
  · cases hv
  · cases hv
    refine ⟨by simpa using hl, .inr ⟨g, cap, cur.setIfInBounds o v, rfl, hb, ?_, h1, h2, by simpa using h3, ?_⟩⟩
    · unfold World.setCell
      simp only [Option.isSome_none, Bool.false_eq_true, if_false]
      rw [Array.getElem?_modify, if_pos rfl, hg]
      simp
    · rw [Array.toList_setIfInBounds, List.take_set, h4]
theorem own_frozen {w : World} {base g n cap size o : Nat} {e : TypeId} {xs : List Value} (h : w.ownsRow base e size (.slice (some ⟨g, 0, none⟩) n cap) n xs) : w.frozen? ⟨g, o, none⟩ = false := by
  obtain ⟨hl, ⟨hv, _⟩ | ⟨g', cap', cur, hv, hb, hg, h1, h2, h3, h4⟩⟩ := h
  · cases hv
  · cases hv
    simp [World.frozen?, hg]
theorem infoLine : ∃ i z, Try.prog.info? 56 = some i ∧ i.zero = some z ∧ i.size = 19 ∧ z.cells.size = 19 ∧ i.bytes ≤ 1000 := by
  have h : (Try.prog.info? 56).map (fun i => (i.size, decide (i.bytes ≤ 1000), i.zero.map (·.cells.size))) = some (19, true, some 19) := by kernel_rfl
  cases hi : Try.prog.info? 56 with
  | none => rw [hi] at h; cases h
  | some i =>
    rw [hi] at h
    simp only [Option.map_some, Option.some.injEq, Prod.mk.injEq, decide_eq_true_eq] at h
    obtain ⟨h1, h2, h3⟩ := h
    cases hz : i.zero with
    | none => rw [hz] at h3; cases h3
    | some z => rw [hz] at h3; exact ⟨i, z, rfl, hz, h1, by simpa using h3, h2⟩
theorem run_build1 (L : Ln) (w : World) : (Instr.buildSlice 40 1 #[(0, .agg L.cells.toArray)]).run Try.prog w = .ok (.slice (some ⟨w.heap.size, 0, none⟩) 1 1) (w.alloc (.cells L.cells.toArray 56)) := by
  obtain ⟨ie, z, hie, hzz, hsz, hzs, hby⟩ := infoLine
  obtain ⟨r, hr, hs, hk⟩ := Great.fill_dense (s := 19) (by omega) (aggs [L]) 0 ((Array.range (1 * 19)).map (z.cells[· % z.cells.size]!)) (fun v hv => by
      obtain ⟨L, _, rfl⟩ := List.mem_map.1 hv; rfl) (by simp [aggs])
  have e : r = L.cells.toArray := by
    apply Array.ext_getElem?
    intro j
    by_cases hj : j < 19
    · rw [hk, if_pos ⟨by omega, by simp only [aggs, List.length_map, List.length_cons, List.length_nil]; omega⟩, show j / 19 - 0 = 0 by omega, show j % 19 = j by omega]
      rfl
    · rw [Array.getElem?_eq_none (by rw [hs]; simp; omega), Array.getElem?_eq_none (by show 19 ≤ j; omega)]
  subst e
  exact run_buildSlice w 40 56 _ _ L.cells.toArray ie z Try.underlying40 hie hzz (by rw [hsz]; omega) (by rw [hsz]; omega) (by rw [hsz]; exact hr)
theorem own_build1 (L : Ln) (w : World) {base : Nat} (hb : base ≤ w.heap.size) : (w.alloc (.cells L.cells.toArray 56)).ownsRow base 56 19 (.slice (some ⟨w.heap.size, 0, none⟩) 1 1) 1 L.cells :=
  ⟨rfl, .inr ⟨w.heap.size, 1, L.cells.toArray, rfl, hb, heap_alloc_new w _, Nat.le_refl _, by unfold maxLen; omega, rfl, rfl⟩⟩
theorem cells_it (c m : Int) (w : World) : (w.alloc (.cells (itL c 8).cells.toArray 56)).setCell ⟨w.heap.size, 7, none⟩ (.int .i64 m) = w.alloc (.cells (itL c m).cells.toArray 56) := by
  rw [setCell_new]; rfl
theorem made_step {c m x : Int} {k : Nat} (h : (condsL c m)[k]? = some x) : (madeL c m (k + 1)).flatMap Ln.cells = (madeL c m k).flatMap Ln.cells ++ (movL x).cells := by
  have e : madeL c m (k + 1) = madeL c m k ++ [movL x] := by
    unfold madeL
    rw [List.take_add_one, h]
    simp
  rw [e]; simp
theorem made_lns {c m : Int} (hc : i64B c) (hm : i64B m) (k : Nat) : ∀ L ∈ madeL c m k, L.ok := by
  intro L hL
  unfold madeL at hL
  rcases List.mem_cons.1 hL with rfl | hL
  · exact itL_ok hc hm
  · obtain ⟨x, hx, rfl⟩ := List.mem_map.1 hL
    have := condsL_bd (List.mem_of_mem_take hx)
    exact movL_ok ⟨by omega, by omega⟩
end Go.Proofs.Ytoippgiahldkmaa
