/- Contracts of pools.Find, of its reference, and of the references' Same: slices of slices read alike. -/
import Derived.Test.YtapenhbfpcmpnaaPoolOf
import Derived.Test.YtapenhbfpcmpnaaShelf
import Derived.Lib.Slices
namespace Go.Proofs.Ytapenhbfpcmpnaa
open Go.RowKit Mem
set_option linter.unusedVariables false
theorem ints_plain {w : World} {B n : Nat} {A : Option Addr} {l : List Int} (h : Ints w B A n l) (hn : 0 < n) : ∃ b off, A = some ⟨b, off, none⟩ ∧ b < B ∧ ∀ j, j < l.length → w.cell? ⟨b, off + j, none⟩ = some (.int .i64 (l.getD j 0)) := by
  obtain ⟨ad, e, hb, hc⟩ := Sl.at_ h hn
  have hl := h.len
  have hcell : ∀ i, i < l.length → w.cell? (ad.add i) = some (.int .i64 (l.getD i 0)) := fun i hi => by
    refine hc i _ ?_
    unfold ints
    rw [List.getElem?_map, List.getD_eq_getElem?_getD, List.getElem?_eq_getElem hi]; rfl
  obtain ⟨b, off, spot⟩ := ad
  have hspot : spot = none := by simpa [Addr.add] using World.cell?_spot (hcell 0 (by omega))
  subst hspot
  exact ⟨b, off, e, hb, fun j hj => by rw [← Go.WideShapes.add_plain]; exact hcell j hj⟩
theorem pools_Find (A : Option Addr) (n c B : Nat) (l : List Int) (v : Int) (w : World) (hx : Ints w B A n l) (hn : n ≤ 9223372036854775807) :
    Calls Try.prog 13 #[.slice A n c, .int .i64 v] w fun e w' => e = .returned (.int .i64 (Lib.idxOf l v)) ∧ w = w' := by
  have hl := hx.len
  rcases Nat.eq_zero_or_pos n with h0 | h0
  · subst h0
    obtain rfl : l = [] := List.eq_nil_of_length_eq_zero hl
    clear hx hl
    go_enter Try.func13, Try.ntmps13
    go_wp2_with (go_at_call 17; refine (Try.slices_Index_int_empty _ _ _ _).mono ?_; rintro e w' ⟨rfl, rfl⟩)
    go_ret
    exact ⟨rfl, rfl⟩
  · obtain ⟨b, off, rfl, hb, hc⟩ := ints_plain hx h0
    have HC := Lib.hid hc; have HL := Lib.hid hl
    have HT := Lib.hid (show l.take n = l from List.take_of_length_le (by omega))
    clear hx hc hl
    go_enter Try.func13, Try.ntmps13
    go_wp2_with fail
    refine (Try.slices_Index_int b off n c l v _ (by rw [HL.out]; exact Nat.le_refl _) hn HC.out).mono ?_
    rintro e w' ⟨rfl, rfl⟩
    rw [HT.out]
    go_wp2
    go_ret
    exact ⟨rfl, rfl⟩
theorem idx_hit {l : List Int} {k : Nat} {x z : Int} (hz : l[k]? = some z) (e : z = x) (hno : ∀ j y, j < k → l[j]? = some y → y ≠ x) : Lib.idxOf l x = k := by
  have hk : k < l.length := by
    rcases Nat.lt_or_ge k l.length with h | h
    · exact h
    · rw [List.getElem?_eq_none h] at hz; cases hz
  have := Lib.idxOf_hit l l.length k x hk (Nat.le_refl _) (by rw [List.getD_eq_getElem?_getD, hz]; exact e) (fun j hj => by
    rw [List.getD_eq_getElem?_getD, List.getElem?_eq_getElem (show j < l.length by omega)]
    exact hno j _ hj (List.getElem?_eq_getElem (by omega)))
  rwa [List.take_length] at this
theorem idx_miss {l : List Int} {x : Int} (hno : ∀ j y, j < l.length → l[j]? = some y → y ≠ x) : Lib.idxOf l x = -1 := by
  have := Lib.idxOf_miss l l.length x (fun j hj => by
    rw [List.getD_eq_getElem?_getD, List.getElem?_eq_getElem hj]
    exact hno j _ hj (List.getElem?_eq_getElem hj))
  rwa [List.take_length] at this
set_option maxRecDepth 100000 in
set_option maxHeartbeats 400000 in
theorem ref22_Find (A : Option Addr) (n c B : Nat) (l : List Int) (v : Int) (w : World) (hx : Ints w B A n l) (hn : n ≤ 9223372036854775807) :
    Calls Try.prog 14 #[.slice A n c, .int .i64 v] w fun e w' => e = .returned (.int .i64 (Lib.idxOf l v)) ∧ w = w' := by
  have HX := Lib.hid hx
  clear hx
  obtain ⟨r, hr⟩ : ∃ r, r = Lib.idxOf l v := ⟨_, rfl⟩
  rw [← hr]
  have HR := Lib.hid hr
  clear hr
  go_enter Try.func14, Try.ntmps14
  go_wp2
  go_loop [5] (fun i => ∃ k : Nat, k ≤ n ∧ i = .int .i64 k ∧ ∀ j y, j < k → l[j]? = some y → y ≠ v) (fun i => n - (intOf i).toNat)
  case atStart => exact ⟨0, by omega, rfl, fun j y h => by omega⟩
  case round =>
    obtain ⟨k, hk, rfl, hno⟩ := hrel
    have HN := Lib.hid hno
    clear hno
    by_cases hlt : k < n
    · obtain ⟨ad, z, rfl, hb1, hz, hc⟩ := HX.out.get hlt
      have HZ := Lib.hid hz
      clear hz
      cases hv : (z == v) with
      | true =>
        have HE := Lib.hid (idx_hit HZ.out (by simpa using hv) HN.out)
        go_wp2
        go_ret
        exact ⟨ret_int (by rw [HR.out, HE.out]), rfl⟩
      | false =>
        have HE := Lib.hid (show ∀ j y, j < k + 1 → l[j]? = some y → y ≠ v from fun j y hj hy => by
          by_cases e : j = k
          · subst e; rw [HZ.out] at hy; cases hy; simpa using hv
          · exact HN.out j y (by omega) hy)
        go_wp2
        go_round
        case rel => exact ⟨k + 1, by omega, by go_num, HE.out⟩
        case measure => simp [intOf]; omega
    · obtain rfl : k = n := by omega
      have HE := Lib.hid (idx_miss (fun j y hj hy => HN.out j y (by have := HX.out.len; omega) hy))
      go_wp2
      go_ret
      exact ⟨ret_int (by rw [HR.out, HE.out]), rfl⟩
/-- A slice of slices of ints that reads as gs. -/
structure Grid (w : World) (B : Nat) (A : Option Addr) (n : Nat) (gs : List (List Int)) : Prop where
  len : gs.length = n
  at_ : ∀ k, k < n → ∃ ad Ak nk ck g, A = some ad ∧ ad.block < B ∧ w.cell? (ad.add k) = some (.slice Ak nk ck) ∧ gs[k]? = some g ∧ Ints w B Ak nk g ∧ nk ≤ 9223372036854775807
theorem Grid.keep {w w' : World} {B : Nat} {A : Option Addr} {n : Nat} {gs : List (List Int)} (h : Grid w B A n gs) (hb : Below B w w') : Grid w' B A n gs :=
  ⟨h.len, fun k hk => by
    obtain ⟨ad, Ak, nk, ck, g, a, b, c, d, e, f⟩ := h.at_ k hk
    exact ⟨ad, Ak, nk, ck, g, a, b, (hb.cell (by rw [add_block]; exact b)).trans c, d, e.below hb, f⟩⟩
theorem Grid.more {w : World} {B B' : Nat} {A : Option Addr} {n : Nat} {gs : List (List Int)} (h : Grid w B A n gs) (hB : B ≤ B') : Grid w B' A n gs :=
  ⟨h.len, fun k hk => by
    obtain ⟨ad, Ak, nk, ck, g, a, b, c, d, e, f⟩ := h.at_ k hk
    exact ⟨ad, Ak, nk, ck, g, a, by omega, c, d, e.more hB, f⟩⟩
theorem Grid.drewN {w : World} {B : Nat} {A : Option Addr} {n : Nat} {gs : List (List Int)} (h : Grid w B A n gs) (m : Nat) : Grid (w.drewN m) B A n gs :=
  ⟨h.len, fun k hk => by
    obtain ⟨ad, Ak, nk, ck, g, a, b, c, d, e, f⟩ := h.at_ k hk
    exact ⟨ad, Ak, nk, ck, g, a, b, c, d, e.drewN m, f⟩⟩
theorem take_same {α : Type} {xs ys : List α} {k : Nat} {x : α} (h : xs.take k = ys.take k) (hx : xs[k]? = some x) (hy : ys[k]? = some x) : xs.take (k + 1) = ys.take (k + 1) := by
  rw [List.take_add_one, List.take_add_one, h, hx, hy]
theorem differ {α : Type} {xs ys : List α} {k : Nat} {x y : α} (hx : xs[k]? = some x) (hy : ys[k]? = some y) (h : x ≠ y) : xs ≠ ys := by
  intro e; subst e; rw [hx] at hy; cases hy; exact h rfl
set_option maxRecDepth 100000 in
set_option maxHeartbeats 2000000 in
theorem ref22_Same (A A' : Option Addr) (n n' c c' B : Nat) (xs ys : List (List Int)) (w : World) (ha : Grid w B A n xs) (hb : Grid w B A' n' ys) (hn : n ≤ 9223372036854775807) (hn' : n' ≤ 9223372036854775807) :
    Calls Try.prog 8 #[.slice A n c, .slice A' n' c'] w fun e w' => e = .returned (.bool (decide (xs = ys))) ∧ ∃ m, w' = w.drewN m := by
  have HA := Lib.hid ha; have HB := Lib.hid hb
  clear ha hb
  by_cases hne : n = n'
  · subst hne
    go_enter Try.func8, Try.ntmps8
    go_wp2
    go_loopw [5] (fun i wr => ∃ k m : Nat, k ≤ n ∧ i = .int .i64 k ∧ wr = w.drewN m ∧ xs.take k = ys.take k) (fun i _ => n - (intOf i).toNat)
    case atStart => exact ⟨0, 0, by omega, rfl, rfl, by simp⟩
    case round =>
      obtain ⟨k, m, hk, rfl, rfl, heq⟩ := hrel
      have HE := Lib.hid heq
      clear heq
      by_cases hlt : k < n
      · obtain ⟨ad, Ak, nk, ck, g, rfl, hb1, hc, hg, hi, hnk⟩ := HA.out.at_ k hlt
        obtain ⟨ad', Ak', nk', ck', g', rfl, hb2, hc', hg', hi', hnk'⟩ := HB.out.at_ k hlt
        have HG := Lib.hid hg; have HG' := Lib.hid hg'; have HI := Lib.hid hi; have HI' := Lib.hid hi'
        clear hg hg' hi hi'
        by_cases hnn : nk = nk'
        · subst hnn
          have hq : ((nk : Int) != (nk : Int)) = false := by simp
          go_wp2
          go_quiet (fail)
          go_wp2
          go_loopw [6] (fun i wr => ∃ j m : Nat, j ≤ nk ∧ i = .int .i64 j ∧ wr = w.drewN m ∧ g.take j = g'.take j) (fun i _ => nk - (intOf i).toNat)
          case atStart => exact ⟨0, _, by omega, rfl, by first | exact World.drewN_drewN _ _ _ | rfl, by simp⟩
          case round =>
            obtain ⟨j, m1, hj, rfl, rfl, heq1⟩ := hrel
            have HE1 := Lib.hid heq1
            clear heq1
            by_cases hlt1 : j < nk
            · obtain ⟨ae, z, rfl, hbe, hz, hce⟩ := HI.out.get hlt1
              obtain ⟨ae', z', rfl, hbe', hz', hce'⟩ := HI'.out.get hlt1
              have HZ := Lib.hid hz; have HZ' := Lib.hid hz'
              clear hz hz'
              cases hzz : (z != z') with
              | true =>
                have HF := Lib.hid (show decide (xs = ys) = false from decide_eq_false (differ HG.out HG'.out (differ HZ.out HZ'.out (by simpa using hzz))))
                go_wp2
                go_quiet (fail)
                go_wp2
                go_ret
                exact ⟨by rw [HF.out]; rfl, _, World.drewN_drewN _ _ _⟩
              | false =>
                have hz2 : z = z' := by simpa using hzz
                have HT := Lib.hid (take_same HE1.out HZ.out (by rw [HZ'.out, hz2]))
                clear hz2
                go_wp2
                go_quiet (fail)
                go_wp2
                go_roundw
                case rel => exact ⟨j + 1, _, by omega, by go_num, by first | exact World.drewN_drewN _ _ _ | rfl, HT.out⟩
                case measure => simp [intOf]; omega
            · obtain rfl : j = nk := by omega
              have HT := Lib.hid (show g = g' by
                have := HE1.out
                rw [List.take_of_length_le (by rw [HI.out.len]; exact Nat.le_refl _), List.take_of_length_le (by rw [HI'.out.len]; exact Nat.le_refl _)] at this
                exact this)
              have HT2 := Lib.hid (take_same HE.out HG.out (by rw [HG'.out, HT.out]))
              go_wp2
              go_roundw
              case rel => exact ⟨k + 1, _, by omega, by go_num, rfl, HT2.out⟩
              case measure => simp [intOf]; omega
        · have hq : ((nk : Int) != (nk' : Int)) = true := by simp; omega
          have HF := Lib.hid (show decide (xs = ys) = false from decide_eq_false (differ HG.out HG'.out (fun e => hnn (by
            have h1 := HI.out.len; have h2 := HI'.out.len; subst e; omega))))
          go_wp2
          go_quiet (fail)
          go_wp2
          go_ret
          exact ⟨by rw [HF.out]; rfl, _, World.drewN_drewN _ _ _⟩
      · obtain rfl : k = n := by omega
        have HT := Lib.hid (show decide (xs = ys) = true from decide_eq_true (by
          have h1 := HA.out.len; have h2 := HB.out.len
          have := HE.out
          rw [List.take_of_length_le (by omega), List.take_of_length_le (by omega)] at this
          exact this))
        go_wp2
        go_ret
        exact ⟨by rw [HT.out]; rfl, _, rfl⟩
  · have HF := Lib.hid (show decide (xs = ys) = false from decide_eq_false (fun e => by
      have h1 := HA.out.len; have h2 := HB.out.len; subst e; omega))
    have hnn : ((n : Int) != (n' : Int)) = true := by simp; omega
    go_enter Try.func8, Try.ntmps8
    go_wp2
    go_ret
    exact ⟨by rw [HF.out]; rfl, 0, rfl⟩
end Go.Proofs.Ytapenhbfpcmpnaa
