/- Layer 22 (pools), plain: no pool has a value twice; a pool has just its loads' values. No program in sight. -/
import Derived.Test.YtapenhbfpcmpnaaPoolPlain
namespace Go.Proofs.Ytapenhbfpcmpnaa
open Go.RowKit Mem
set_option linter.unusedVariables false
structure Facts (ls : List Ln) (vals : List Int) (k : Nat) (gs : List (List Int)) (cur : List Int) : Prop where
  n : gs.length = poolsOf (ls.take k)
  once : ∀ g ∈ gs ++ [cur], g.Nodup
  mem : ∀ (p : Nat) g, (gs ++ [cur])[p]? = some g → ∀ v, v ∈ g ↔ ∃ i L, i < k ∧ ls[i]? = some L ∧ L.kind = 2 ∧ vals.getD i 0 = v ∧ poolsOf (ls.take i) = p
theorem poolsOf_mono (ls : List Ln) {i j : Nat} (h : i ≤ j) : poolsOf (ls.take i) ≤ poolsOf (ls.take j) := by
  have : ls.take i = (ls.take j).take i := by rw [List.take_take]; rw [Nat.min_eq_left h]
  rw [this]
  unfold poolsOf
  exact List.Sublist.length_le ((List.take_sublist i (ls.take j)).filter _)
theorem facts_all (ls : List Ln) (vals : List Int) : ∀ k, k ≤ ls.length → Facts ls vals k (rSt ((items ls vals).take k)).1 (rSt ((items ls vals).take k)).2
  | 0, _ => by
    refine ⟨rfl, fun g hg => ?_, fun p g hp v => ?_⟩
    · have : g = [] := by simpa [rSt] using hg
      rw [this]; exact List.nodup_nil
    · constructor
      · intro hv
        have : g = [] := by
          cases p with
          | zero => simpa [rSt] using hp.symm
          | succ p => simp [rSt] at hp
        rw [this] at hv; cases hv
      · rintro ⟨i, L, hi, _⟩; omega
  | k + 1, hk => by
    have ih := facts_all ls vals k (by omega)
    obtain ⟨L, hL⟩ : ∃ L, ls[k]? = some L := ⟨ls[k]'(by omega), List.getElem?_eq_getElem (by omega)⟩
    rw [rSt_snoc (items_get (vals := vals) hL)]
    have hps := poolsOf_snoc hL
    obtain ⟨gs, cur, hgc⟩ : ∃ gs cur, rSt ((items ls vals).take k) = (gs, cur) := ⟨_, _, rfl⟩
    rw [hgc] at ih ⊢
    simp only at ih
    obtain ⟨hn, ho, hm⟩ := ih
    unfold rStep
    simp only
    by_cases h5 : L.kind = 5
    · rw [if_pos h5]
      refine ⟨by rw [hps, if_pos h5]; simp [hn], fun g hg => ?_, fun p g hp v => ?_⟩
      · rcases List.mem_append.1 hg with hg | hg
        · exact ho g hg
        · rw [List.mem_singleton.1 hg]; exact List.nodup_nil
      · simp only at hp
        rcases Nat.lt_or_ge p (gs ++ [cur]).length with hlt | hge
        · rw [List.getElem?_append_left hlt] at hp
          rw [hm p g hp v]
          constructor
          · rintro ⟨i, M, a, b, c, d, e⟩; exact ⟨i, M, by omega, b, c, d, e⟩
          · rintro ⟨i, M, a, b, c, d, e⟩
            refine ⟨i, M, ?_, b, c, d, e⟩
            rcases Nat.lt_or_ge i k with h | h
            · exact h
            · have : i = k := by omega
              subst this; rw [hL] at b; cases b; omega
        · rw [List.getElem?_append_right hge] at hp
          have hp0 : p = (gs ++ [cur]).length := by
            rcases Nat.eq_or_lt_of_le hge with h | h
            · exact h.symm
            · rw [List.getElem?_eq_none (by simp at h ⊢; omega)] at hp; cases hp
          rw [hp0] at hp; simp at hp; subst hp
          constructor
          · intro hv; cases hv
          · rintro ⟨i, M, a, b, c, d, e⟩
            exfalso
            have hi : i < k := by
              rcases Nat.lt_or_ge i k with h | h
              · exact h
              · have : i = k := by omega
                subst this; rw [hL] at b; cases b; omega
            have := poolsOf_mono ls (show i ≤ k by omega)
            simp at hp0; omega
    · rw [if_neg h5]
      rw [if_neg h5] at hps
      by_cases h2 : L.kind = 2
      · rw [if_pos h2]
        obtain ⟨cur', hcur'⟩ : ∃ cur', cur' = (if Lib.idxOf cur (vals.getD k 0) < 0 then cur ++ [vals.getD k 0] else cur) := ⟨_, rfl⟩
        have hmem : ∀ v, v ∈ cur' ↔ v ∈ cur ∨ v = vals.getD k 0 := by
          intro v
          rw [hcur']
          by_cases hi : Lib.idxOf cur (vals.getD k 0) < 0
          · rw [if_pos hi]; simp
          · rw [if_neg hi]
            rw [idx_neg] at hi
            simp only [Classical.not_not] at hi
            constructor
            · intro h; exact .inl h
            · rintro (h | h)
              · exact h
              · rw [h]; exact hi
        have hnd : cur'.Nodup := by
          rw [hcur']
          have hc := ho cur (by simp)
          by_cases hi : Lib.idxOf cur (vals.getD k 0) < 0
          · rw [if_pos hi]
            rw [idx_neg] at hi
            rw [List.nodup_append]
            exact ⟨hc, by simp, fun a ha b hb => by rw [List.mem_singleton.1 hb]; intro e; exact hi (e ▸ ha)⟩
          · rw [if_neg hi]; exact hc
        rw [← hcur']
        refine ⟨by rw [hps]; simpa using hn, fun g hg => ?_, fun p g hp v => ?_⟩
        · rcases List.mem_append.1 hg with hg | hg
          · exact ho g (List.mem_append_left _ hg)
          · rw [List.mem_singleton.1 hg]; exact hnd
        · simp only at hp
          rcases Nat.lt_trichotomy p gs.length with hlt | heq | hgt
          · rw [List.getElem?_append_left hlt] at hp
            rw [hm p g (by rw [List.getElem?_append_left hlt]; exact hp) v]
            constructor
            · rintro ⟨i, M, a, b, c, d, e⟩; exact ⟨i, M, by omega, b, c, d, e⟩
            · rintro ⟨i, M, a, b, c, d, e⟩
              refine ⟨i, M, ?_, b, c, d, e⟩
              rcases Nat.lt_or_ge i k with h | h
              · exact h
              · have : i = k := by omega
                subst this; omega
          · rw [List.getElem?_append_right (by omega), show p - gs.length = 0 by omega] at hp
            cases hp
            have hcm := hm p cur (by rw [List.getElem?_append_right (by omega), show p - gs.length = 0 by omega]; rfl) v
            rw [hmem, hcm]
            constructor
            · rintro (⟨i, M, a, b, c, d, e⟩ | h)
              · exact ⟨i, M, by omega, b, c, d, e⟩
              · exact ⟨k, L, by omega, hL, h2, h.symm, by omega⟩
            · rintro ⟨i, M, a, b, c, d, e⟩
              rcases Nat.lt_or_ge i k with h | h
              · exact .inl ⟨i, M, h, b, c, d, e⟩
              · have : i = k := by omega
                subst this; exact .inr d.symm
          · rw [List.getElem?_eq_none (by simp; omega)] at hp; cases hp
      · rw [if_neg h2]
        refine ⟨by rw [hps]; simpa using hn, ho, fun p g hp v => ?_⟩
        rw [hm p g hp v]
        constructor
        · rintro ⟨i, M, a, b, c, d, e⟩; exact ⟨i, M, by omega, b, c, d, e⟩
        · rintro ⟨i, M, a, b, c, d, e⟩
          refine ⟨i, M, ?_, b, c, d, e⟩
          rcases Nat.lt_or_ge i k with h | h
          · exact h
          · have : i = k := by omega
            subst this; rw [hL] at b; cases b; exact absurd c h2
theorem facts_end (ls : List Ln) (vals : List Int) : Facts ls vals ls.length (rSt (items ls vals)).1 (rSt (items ls vals)).2 := by
  have := facts_all ls vals ls.length (Nat.le_refl _)
  rwa [List.take_of_length_le (by rw [items_len]; exact Nat.le_refl _)] at this
theorem plan_len (ls : List Ln) (vals : List Int) : (planOf (items ls vals)).length = poolsOf ls + 1 := by
  have := (facts_end ls vals).n
  rw [List.take_length] at this
  unfold planOf; simp [this]
/-- No pool has a value twice. -/
theorem plan_once {ls : List Ln} {vals : List Int} {p k : Nat} {g : List Int} {v : Int} (hp : (planOf (items ls vals))[p]? = some g) (hk : g[k]? = some v) : Lib.idxOf g v = k := by
  have hnd := (facts_end ls vals).once g (List.mem_of_getElem? hp)
  refine idx_hit hk rfl (fun j y hj hy e => ?_)
  subst e
  have hk' : k < g.length := by
    rcases Nat.lt_or_ge k g.length with h | h
    · exact h
    · rw [List.getElem?_eq_none h] at hk; cases hk
  have := (List.getElem?_inj hk' hnd).1 (hk.trans hy.symm)
  omega
/-- A load's value is in its pool. -/
theorem plan_load {ls : List Ln} {vals : List Int} {i : Nat} {L : Ln} (hi : ls[i]? = some L) (h2 : L.kind = 2) : ∃ g, (planOf (items ls vals))[poolsOf (ls.take i)]? = some g ∧ 0 ≤ Lib.idxOf g (vals.getD i 0) := by
  have hil : i < ls.length := by
    rcases Nat.lt_or_ge i ls.length with h | h
    · exact h
    · rw [List.getElem?_eq_none h] at hi; cases hi
  have hlt : poolsOf (ls.take i) < (planOf (items ls vals)).length := by
    rw [plan_len]
    have := poolsOf_mono ls (show i ≤ ls.length by omega)
    rw [List.take_length] at this; omega
  refine ⟨_, List.getElem?_eq_getElem hlt, ?_⟩
  have hm := ((facts_end ls vals).mem _ _ (List.getElem?_eq_getElem hlt) (vals.getD i 0)).2 ⟨i, L, hil, hi, h2, rfl, rfl⟩
  rcases Int.lt_or_le (Lib.idxOf ((planOf (items ls vals))[poolsOf (ls.take i)]) (vals.getD i 0)) 0 with h | h
  · exact absurd hm (idx_neg.1 h)
  · exact h
/-- A pool's value is one of its loads'. -/
theorem plan_used {ls : List Ln} {vals : List Int} {p k : Nat} {g : List Int} {v : Int} (hp : (planOf (items ls vals))[p]? = some g) (hk : g[k]? = some v) : ∃ i L, i < ls.length ∧ ls[i]? = some L ∧ L.kind = 2 ∧ vals.getD i 0 = v ∧ poolsOf (ls.take i) = p :=
  ((facts_end ls vals).mem p g hp v).1 (List.mem_of_getElem? hk)
end Go.Proofs.Ytapenhbfpcmpnaa
