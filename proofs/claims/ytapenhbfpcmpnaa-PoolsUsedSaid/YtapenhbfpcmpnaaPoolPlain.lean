/- Layer 22 (pools), plain: what the pools' functions compute. No program in sight. -/
import Derived.Test.YtapenhbfpcmpnaaPoolEnts
namespace Go.Proofs.Ytapenhbfpcmpnaa
open Go.RowKit Mem
set_option linter.unusedVariables false
theorem eqE_iff {a b c d : Int} : eqE a b c d = true ↔ (a, b) = (c, d) := by unfold eqE; simp
theorem inE_iff {es : List (Int × Int)} {c d : Int} : inE es c d = true ↔ (c, d) ∈ es := by
  unfold inE entIdx
  cases h : es.findIdx? (fun e => eqE e.1 e.2 c d) with
  | none =>
    rw [List.findIdx?_eq_none_iff] at h
    simp only [decide_eq_true_eq]
    constructor
    · intro hh; omega
    · intro hm
      have := h _ hm
      simp [eqE] at this
  | some k =>
    rw [List.findIdx?_eq_some_iff_getElem] at h
    obtain ⟨hk, he, _⟩ := h
    simp only [decide_eq_true_eq]
    constructor
    · intro _
      have := eqE_iff.1 he
      rw [← this]
      exact List.getElem_mem hk
    · intro _; omega
/-- The lines' kinds, with the values. -/
def items (ls : List Ln) (vals : List Int) : List (Int × Int) := ls.mapIdx fun i L => (L.kind, vals.getD i 0)
theorem items_get {ls : List Ln} {vals : List Int} {k : Nat} {L : Ln} (h : ls[k]? = some L) : (items ls vals)[k]? = some (L.kind, vals.getD k 0) := by
  unfold items; rw [List.getElem?_mapIdx, h]; rfl
theorem items_len (ls : List Ln) (vals : List Int) : (items ls vals).length = ls.length := by simp [items]
def pStep (s : Nat × List (Int × Int)) (x : Int × Int) : Nat × List (Int × Int) :=
  if x.1 = 5 then (s.1 + 1, s.2) else if x.1 = 2 then (s.1, if inE s.2 s.1 x.2 then s.2 else s.2 ++ [((s.1 : Int), x.2)]) else s
def pSt (its : List (Int × Int)) : Nat × List (Int × Int) := its.foldl pStep (0, [])
def rStep (s : List (List Int) × List Int) (x : Int × Int) : List (List Int) × List Int :=
  if x.1 = 5 then (s.1 ++ [s.2], []) else if x.1 = 2 then (s.1, if Lib.idxOf s.2 x.2 < 0 then s.2 ++ [x.2] else s.2) else s
def rSt (its : List (Int × Int)) : List (List Int) × List Int := its.foldl rStep ([], [])
theorem pSt_snoc {its : List (Int × Int)} {k : Nat} {x : Int × Int} (h : its[k]? = some x) : pSt (its.take (k + 1)) = pStep (pSt (its.take k)) x := by
  rw [List.take_add_one, h]; unfold pSt; simp
theorem rSt_snoc {its : List (Int × Int)} {k : Nat} {x : Int × Int} (h : its[k]? = some x) : rSt (its.take (k + 1)) = rStep (rSt (its.take k)) x := by
  rw [List.take_add_one, h]; unfold rSt; simp
/-- The pools' values. -/
def planOf (its : List (Int × Int)) : List (List Int) := (rSt its).1 ++ [(rSt its).2]
/-- Of the entries those of a pool. -/
def ofPool (es : List (Int × Int)) (p : Nat) : List Int := (es.filter fun e => e.1 == (p : Int)).map (·.2)
theorem ofPool_append (a b : List (Int × Int)) (p : Nat) : ofPool (a ++ b) p = ofPool a p ++ ofPool b p := by simp [ofPool]
theorem ofPool_one (q : Int) (v : Int) (p : Nat) : ofPool [(q, v)] p = if q = p then [v] else [] := by
  unfold ofPool
  by_cases h : q = p <;> simp [h]
theorem mem_ofPool {es : List (Int × Int)} {p : Nat} {v : Int} : v ∈ ofPool es p ↔ ((p : Int), v) ∈ es := by
  unfold ofPool
  constructor
  · intro h
    obtain ⟨e, he, rfl⟩ := List.mem_map.1 h
    obtain ⟨h1, h2⟩ := List.mem_filter.1 he
    have : e.1 = (p : Int) := by simpa using h2
    rw [← this]; exact h1
  · intro h
    exact List.mem_map.2 ⟨_, List.mem_filter.2 ⟨h, by simp⟩, rfl⟩
theorem idx_neg {l : List Int} {v : Int} : Lib.idxOf l v < 0 ↔ v ∉ l := by
  have := Lib.idxOf_nonneg_iff l v
  constructor
  · intro h hm
    have h2 : l.contains v = true := by simpa using hm
    rw [← this] at h2; omega
  · intro h
    by_cases hh : 0 ≤ Lib.idxOf l v
    · rw [this] at hh; exact absurd (by simpa using hh) h
    · omega
structure Inv (s : Nat × List (Int × Int)) (r : List (List Int) × List Int) : Prop where
  n : s.1 = r.1.length
  bd : ∀ e ∈ s.2, 0 ≤ e.1 ∧ e.1 ≤ s.1
  at_ : ∀ p, ofPool s.2 p = (r.1 ++ [r.2]).getD p []
theorem inv_step {s : Nat × List (Int × Int)} {r : List (List Int) × List Int} (h : Inv s r) (x : Int × Int) : Inv (pStep s x) (rStep r x) := by
  obtain ⟨hn, hb, ha⟩ := h
  unfold pStep rStep
  by_cases h5 : x.1 = 5
  · rw [if_pos h5, if_pos h5]
    refine ⟨by simp [hn], fun e he => ?_, fun p => ?_⟩
    · have := hb e he; simp only; omega
    · rw [ha p]
      simp only [List.getD_eq_getElem?_getD]
      rcases Nat.lt_or_ge p (r.1 ++ [r.2]).length with hp | hp
      · rw [List.getElem?_append_left hp]
      · rw [List.getElem?_eq_none hp]
        rcases Nat.lt_or_ge p ((r.1 ++ [r.2]) ++ [[]]).length with hq | hq
        · rw [List.getElem?_append_right hp]
          have : p - (r.1 ++ [r.2]).length = 0 := by simp at hq hp ⊢; omega
          rw [this]; rfl
        · rw [List.getElem?_eq_none hq]
  · rw [if_neg h5, if_neg h5]
    by_cases h2 : x.1 = 2
    · rw [if_pos h2, if_pos h2]
      have hlast : ofPool s.2 s.1 = r.2 := by
        rw [ha, hn, List.getD_eq_getElem?_getD, List.getElem?_append_right (Nat.le_refl _)]; simp
      have hiff : inE s.2 s.1 x.2 = true ↔ ¬ Lib.idxOf r.2 x.2 < 0 := by
        rw [inE_iff, idx_neg, ← hlast, mem_ofPool]; simp
      by_cases hin : inE s.2 s.1 x.2 = true
      · rw [if_pos hin, if_neg (hiff.1 hin)]
        exact ⟨hn, hb, ha⟩
      · have hlt : Lib.idxOf r.2 x.2 < 0 := by
          rcases Int.lt_or_le (Lib.idxOf r.2 x.2) 0 with h | h
          · exact h
          · exact absurd (hiff.2 (by omega)) hin
        rw [if_neg hin, if_pos hlt]
        refine ⟨hn, fun e he => ?_, fun p => ?_⟩
        · rcases List.mem_append.1 he with he | he
          · exact hb e he
          · rw [List.mem_singleton.1 he]; simp
        · simp only
          rw [ofPool_append, ofPool_one, ha p]
          simp only [List.getD_eq_getElem?_getD]
          by_cases hp : s.1 = p
          · subst hp
            rw [if_pos rfl, hn, List.getElem?_append_right (Nat.le_refl _), List.getElem?_append_right (Nat.le_refl _)]
            simp
          · rw [if_neg (by omega), List.append_nil]
            rcases Nat.lt_trichotomy p r.1.length with h | h | h
            · rw [List.getElem?_append_left h, List.getElem?_append_left h]
            · omega
            · rw [List.getElem?_eq_none (by simp; omega), List.getElem?_eq_none (by simp; omega)]
    · rw [if_neg h2, if_neg h2]
      exact ⟨hn, hb, ha⟩
theorem inv_all (its : List (Int × Int)) : Inv (pSt its) (rSt its) := by
  unfold pSt rSt
  suffices h : ∀ (its : List (Int × Int)) s r, Inv s r → Inv (its.foldl pStep s) (its.foldl rStep r) from h its _ _ ⟨rfl, (fun e he => by cases he), fun p => by cases p <;> rfl⟩
  intro its
  induction its with
  | nil => intro s r h; exact h
  | cons x its ih => intro s r h; exact ih _ _ (inv_step h x)
/-- What the pools are behind some entries. -/
def gridAt (n : Nat) (es : List (Int × Int)) : List (List Int) := (List.range (n + 1)).map (ofPool es)
theorem grid_end (its : List (Int × Int)) : gridAt (pSt its).1 (pSt its).2 = planOf its := by
  obtain ⟨hn, hb, ha⟩ := inv_all its
  apply List.ext_getElem?
  intro p
  unfold gridAt planOf
  rw [List.getElem?_map]
  rcases Nat.lt_or_ge p ((rSt its).1.length + 1) with hp | hp
  · rw [hn, List.getElem?_range (by omega)]
    simp only [Option.map_some, ha p, List.getD_eq_getElem?_getD]
    rw [List.getElem?_eq_getElem (by simp; omega)]; rfl
  · rw [List.getElem?_eq_none (by simp; omega), List.getElem?_eq_none (by simp; omega)]; rfl
theorem grid_step {n : Nat} {es : List (Int × Int)} {j : Nat} {p : Nat} {v : Int} (h : es[j]? = some ((p : Int), v)) (hp : p ≤ n) : gridAt n (es.take (j + 1)) = (gridAt n (es.take j)).set p (ofPool (es.take j) p ++ [v]) := by
  unfold gridAt
  rw [List.take_add_one, h]
  apply List.ext_getElem?
  intro q
  rw [List.getElem?_map]
  by_cases e : q = p
  · subst e
    rw [List.getElem?_set_self (by simp; omega), List.getElem?_range (by omega)]
    simp only [Option.map_some, Option.toList_some]
    rw [ofPool_append, ofPool_one, if_pos rfl]
  · rw [List.getElem?_set_ne (by omega), List.getElem?_map]
    rcases Nat.lt_or_ge q (n + 1) with h | h
    · rw [List.getElem?_range h]
      simp only [Option.map_some, Option.toList_some]
      rw [ofPool_append, ofPool_one, if_neg (by omega), List.append_nil]
    · rw [List.getElem?_eq_none (by simpa using h)]
      rfl
end Go.Proofs.Ytapenhbfpcmpnaa
