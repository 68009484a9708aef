/- The walks of layer 22's statements PoolsOnce and PoolsUsed: each returns true, and the world keeps all that was there. -/
import Derived.Test.YtapenhbfpcmpnaaPoolLaws
namespace Go.Proofs.Ytapenhbfpcmpnaa
open Go.RowKit Mem
set_option linter.unusedVariables false
/-- The lines, the values, the pools, all that was there. -/
structure KG (w wr : World) (B : Nat) (A : Option Addr) (n : Nat) (ls : List Ln) (A' : Option Addr) (n' : Nat) (vals : List Int) (A1 : Option Addr) (n1 : Nat) (gs : List (List Int)) : Prop where
  lines : Lines wr B A n ls
  ints_ : Ints wr B A' n' vals
  grid : Grid wr B A1 n1 gs
  bel : Below w.heap.size w wr
theorem KG.drewN {w wr : World} {B : Nat} {A : Option Addr} {n : Nat} {ls : List Ln} {A' : Option Addr} {n' : Nat} {vals : List Int} {A1 : Option Addr} {n1 : Nat} {gs : List (List Int)} (h : KG w wr B A n ls A' n' vals A1 n1 gs) (m : Nat) : KG w (wr.drewN m) B A n ls A' n' vals A1 n1 gs :=
  ⟨h.lines.drewN m, h.ints_.drewN m, h.grid.drewN m, below_drewN h.bel m⟩
set_option maxRecDepth 100000 in
set_option maxHeartbeats 4000000 in
theorem law_PoolsOnce (A A' : Option Addr) (n c n' c' : Nat) (ls : List Ln) (vals : List Int) (w : World) (hx : Lines w w.heap.size A n ls) (hv : Ints w w.heap.size A' n' vals) (hn : n ≤ 9223372036854775807) (hn' : n' ≤ 9223372036854775807) :
    Calls Try.prog 5 #[.slice A n c, .slice A' n' c'] w fun e w' => e = .returned (.bool true) ∧ Below w.heap.size w w' := by
  have HX := Lib.hid hx; have HV := Lib.hid hv
  clear hx hv
  by_cases h1 : 300 < n
  · go_enter Try.func5, Try.ntmps5
    go_wp2_with (go_at_call 7; refine (awake22 _).mono ?_; rintro e w1 ⟨rfl, hb⟩)
    go_ret
    exact ⟨rfl, hb⟩
  by_cases h2 : n' < n
  · have hd2 : decide (n' < n) = true := by simp; exact h2
    go_enter Try.func5, Try.ntmps5
    go_wp2_with (go_at_call 7; refine (awake22 _).mono ?_; rintro e w1 ⟨rfl, hb⟩)
    go_ret
    exact ⟨rfl, hb⟩
  have hd1 : decide ((300 : Int) < (n : Int)) = false := by simp; omega
  have hd2 : decide (n' < n) = false := by simp; omega
  obtain ⟨gs, hgs⟩ : ∃ gs, gs = planOf (items ls vals) := ⟨_, rfl⟩
  have HGS := Lib.hid hgs
  clear hgs
  go_enter Try.func5, Try.ntmps5
  go_wp2_with fail
  refine (pools_Plan _ _ _ _ _ _ _ _ _ _ HX.out HV.out (Nat.le_refl _) (by omega) hn').mono ?_
  rintro e w1 ⟨A1, n1, c1, rfl, hg, hn1, hb1⟩
  rw [← HGS.out] at hg
  have HK := Lib.hid (show KG w w1 w1.heap.size A n ls A' n' vals A1 n1 gs from ⟨(HX.out.below hb1).more hb1.size, (HV.out.below hb1).more hb1.size, hg, hb1⟩)
  clear hg hb1
  go_wp2_with fail
  go_loopw [6] (fun iv wr => ∃ i : Nat, i ≤ n1 ∧ iv = .int .i64 i ∧ KG w wr w1.heap.size A n ls A' n' vals A1 n1 gs) (fun iv _ => n1 - (intOf iv).toNat)
  case atStart => exact ⟨0, by omega, rfl, HK.out⟩
  case round =>
    obtain ⟨i, hi, rfl, hk⟩ := hrel
    have HK2 := Lib.hid hk
    clear hk
    obtain ⟨wo, hwo⟩ : ∃ wo, wo = wr := ⟨_, rfl⟩
    subst hwo
    by_cases hlt : i < n1
    · go_wp2
      go_loopw [7] (fun kv wr => ∃ k : Nat, kv = .int .i64 k ∧ KG w wr w1.heap.size A n ls A' n' vals A1 n1 gs ∧ ∀ g, gs[i]? = some g → k ≤ g.length) (fun kv _ => ((gs[i]?).getD []).length - (intOf kv).toNat)
      case atStart => exact ⟨0, rfl, HK2.out, fun g _ => by omega⟩
      case round =>
        obtain ⟨k, rfl, hk3, hkl⟩ := hrel
        have HK3 := Lib.hid hk3
        obtain ⟨ad, Ai, ni, ci, g, rfl, hbi, hci, hgi, hii, hni⟩ := hk3.grid.at_ i hlt
        have hkg := hkl g hgi
        have hgl := hii.len
        have HGI := Lib.hid hgi; have HII := Lib.hid hii; have HKL := Lib.hid hkl; have HGL := Lib.hid hgl
        clear hk3 hkl hgi hii hgl
        by_cases hlt2 : k < ni
        · obtain ⟨ae, z, rfl, hbe, hz, hce⟩ := HII.out.get hlt2
          have HF := Lib.hid (show Lib.idxOf g z = k from plan_once (by rw [← HGS.out]; exact HGI.out) hz)
          have hq : (((k : Nat) : Int) != (k : Int)) = false := by simp
          clear hz
          go_wp2
          go_quiet ((go_at_call 13; refine Calls.quiet_of_same ((pools_Find _ _ _ w1.heap.size g z _ (HII.out.drewN _) hni).mono (fun e w' h => ⟨by rw [h.1, HF.out], h.2.symm⟩))))
          go_wp2
          go_roundw
          case rel => exact ⟨k + 1, by go_num, HK3.out.drewN _, fun g' hg' => by have h1 := HGI.out; rw [h1] at hg'; cases hg'; have := HGL.out; omega⟩
          case measure => simp [intOf, HGI.out]; have := HGL.out; omega
        · go_wp2
          go_roundw
          case rel => exact ⟨i + 1, by omega, by go_num, HK3.out⟩
          case measure => simp [intOf]; omega
    · obtain rfl : n1 = i := by omega
      go_wp2
      go_loopw [8] (fun iv wr => ∃ i : Nat, i ≤ n ∧ iv = .int .i64 i ∧ KG w wr w1.heap.size A n ls A' n' vals A1 n1 gs) (fun iv _ => n - (intOf iv).toNat)
      case atStart => exact ⟨0, by omega, rfl, HK2.out⟩
      case round =>
        obtain ⟨i, hin, rfl, hk⟩ := hrel
        have HK4 := Lib.hid hk
        clear hk
        by_cases hlt3 : i < n
        · obtain ⟨al, p, L, rfl, hp, hpb, hL, hok, hc⟩ := HK4.out.lines.get hlt3
          have hkc : wr.cell? ⟨p.block, p.off + 1, none⟩ = some (.int .i64 L.kind) := field hc (j := 0) rfl
          have HL := Lib.hid hL
          clear hc hL
          cases hk2 : (L.kind != 2) with
          | true =>
            go_wp2
            go_roundw
            case rel => exact ⟨i + 1, by omega, by go_num, HK4.out⟩
            case measure => simp [intOf]; omega
          | false =>
            obtain ⟨av, v, rfl, hvb, hvz, hvc⟩ := HK4.out.ints_.get (k := i) (by omega)
            have hval : vals.getD i 0 = v := by rw [List.getD_eq_getElem?_getD, hvz]; rfl
            obtain ⟨g, hg1, hg2⟩ := plan_load (vals := vals) HL.out (by simpa using hk2)
            rw [← HGS.out] at hg1
            rw [hval] at hg2
            obtain ⟨q, hq⟩ : ∃ q, q = poolsOf (ls.take i) := ⟨_, rfl⟩
            rw [← hq] at hg1
            have HQ := Lib.hid hq
            have hql : q < n1 := by
              rw [← HK4.out.grid.len]
              rcases Nat.lt_or_ge q gs.length with h | h
              · exact h
              · rw [List.getElem?_eq_none h] at hg1; cases hg1
            obtain ⟨ad, Ai, ni, ci, g', rfl, hbi, hci, hgi, hii, hni⟩ := HK4.out.grid.at_ q hql
            obtain rfl : g = g' := by rw [hg1] at hgi; exact Option.some.inj hgi
            have HII := Lib.hid hii
            have HIX := Lib.hid (show ∃ d : Int, d = Lib.idxOf g v ∧ 0 ≤ d from ⟨_, rfl, hg2⟩)
            obtain ⟨d, hd, hd0⟩ := HIX.out
            have HD := Lib.hid hd
            have g1 : decide (((q : Nat) : Int) < 0) = false := by simp
            have g2 : decide (n1 ≤ q) = false := by simp; exact hql
            have g3 : decide (d < 0) = false := by simp; omega
            have g4 : (q : Int) < (n1 : Int) := by omega
            have g5 : (i : Int) < (n' : Int) := by omega
            clear hvz hval hg1 hg2 hq hgi hii HIX hd
            go_wp2_with fail
            refine (pools_Of _ _ _ _ _ _ _ HK4.out.lines hn (by omega) (by omega)).mono ?_
            rintro e w' ⟨rfl, rfl⟩
            rw [show ((i : Nat) : Int).toNat = i by omega, ← HQ.out]
            go_wp2
            go_quiet ((go_at_call 13; refine Calls.quiet_of_same ((pools_Find _ _ _ w1.heap.size g v _ (HII.out.drewN _) hni).mono (fun e w' h => ⟨by rw [h.1, ← HD.out], h.2.symm⟩))))
            go_wp2
            go_roundw
            case rel => exact ⟨i + 1, by omega, by go_num, HK4.out.drewN _⟩
            case measure => simp [intOf]; omega
        · go_wp2_with fail
          refine (awake22 _).mono ?_
          rintro e w4 ⟨rfl, hb4⟩
          have HB4 := Lib.hid (HK4.out.bel.trans (hb4.mono HK4.out.bel.size))
          clear hb4
          go_wp2
          go_ret
          exact ⟨rfl, HB4.out⟩
/-- Is a value one of a pool's loads'? -/
def isLoad (ls : List Ln) (vals : List Int) (v : Int) (p : Nat) (j : Nat) : Bool := match ls[j]? with
  | some L => L.kind == 2 && vals.getD j 0 == v && poolsOf (ls.take j) == p
  | none => false
def usedTo (ls : List Ln) (vals : List Int) (v : Int) (p : Nat) (i : Nat) : Bool := (List.range i).any (isLoad ls vals v p)
theorem used_snoc (ls : List Ln) (vals : List Int) (v : Int) (p i : Nat) : usedTo ls vals v p (i + 1) = (usedTo ls vals v p i || isLoad ls vals v p i) := by
  unfold usedTo; rw [List.range_succ, List.any_append]; simp
theorem used_end {ls : List Ln} {vals : List Int} {p k : Nat} {g : List Int} {v : Int} (hp : (planOf (items ls vals))[p]? = some g) (hk : g[k]? = some v) : usedTo ls vals v p ls.length = true := by
  obtain ⟨i, L, hi, hL, h2, hv, hq⟩ := plan_used hp hk
  unfold usedTo
  rw [List.any_eq_true]
  refine ⟨i, by simpa using hi, ?_⟩
  unfold isLoad
  rw [hL]
  simp only [h2, hv, hq, beq_self_eq_true, Bool.and_self]
theorem isLoad_at {ls : List Ln} {vals : List Int} {v : Int} {p j : Nat} {L : Ln} (h : ls[j]? = some L) : isLoad ls vals v p j = (L.kind == 2 && vals.getD j 0 == v && poolsOf (ls.take j) == p) := by
  unfold isLoad; rw [h]
set_option maxRecDepth 100000 in
set_option maxHeartbeats 4000000 in
theorem law_PoolsUsed (A A' : Option Addr) (n c n' c' : Nat) (ls : List Ln) (vals : List Int) (w : World) (hx : Lines w w.heap.size A n ls) (hv : Ints w w.heap.size A' n' vals) (hn : n ≤ 9223372036854775807) (hn' : n' ≤ 9223372036854775807) :
    Calls Try.prog 6 #[.slice A n c, .slice A' n' c'] w fun e w' => e = .returned (.bool true) ∧ Below w.heap.size w w' := by
  have HX := Lib.hid hx; have HV := Lib.hid hv
  clear hx hv
  by_cases h1 : 300 < n
  · go_enter Try.func6, Try.ntmps6
    go_wp2_with (go_at_call 7; refine (awake22 _).mono ?_; rintro e w1 ⟨rfl, hb⟩)
    go_ret
    exact ⟨rfl, hb⟩
  by_cases h2 : n' < n
  · have hd2 : decide (n' < n) = true := by simp; exact h2
    go_enter Try.func6, Try.ntmps6
    go_wp2_with (go_at_call 7; refine (awake22 _).mono ?_; rintro e w1 ⟨rfl, hb⟩)
    go_ret
    exact ⟨rfl, hb⟩
  have hd1 : decide ((300 : Int) < (n : Int)) = false := by simp; omega
  have hd2 : decide (n' < n) = false := by simp; omega
  obtain ⟨gs, hgs⟩ : ∃ gs, gs = planOf (items ls vals) := ⟨_, rfl⟩
  have HGS := Lib.hid hgs
  have HLN := Lib.hid HX.out.len
  clear hgs
  go_enter Try.func6, Try.ntmps6
  go_wp2_with fail
  refine (pools_Plan _ _ _ _ _ _ _ _ _ _ HX.out HV.out (Nat.le_refl _) (by omega) hn').mono ?_
  rintro e w1 ⟨A1, n1, c1, rfl, hg, hn1, hb1⟩
  rw [← HGS.out] at hg
  have HK := Lib.hid (show KG w w1 w1.heap.size A n ls A' n' vals A1 n1 gs from ⟨(HX.out.below hb1).more hb1.size, (HV.out.below hb1).more hb1.size, hg, hb1⟩)
  clear hg hb1
  go_wp2_with fail
  go_loopw [6] (fun iv wr => ∃ p : Nat, p ≤ n1 ∧ iv = .int .i64 p ∧ KG w wr w1.heap.size A n ls A' n' vals A1 n1 gs) (fun iv _ => n1 - (intOf iv).toNat)
  case atStart => exact ⟨0, by omega, rfl, HK.out⟩
  case round =>
    obtain ⟨p, hi, rfl, hk⟩ := hrel
    have HK2 := Lib.hid hk
    clear hk
    obtain ⟨wo, hwo⟩ : ∃ wo, wo = wr := ⟨_, rfl⟩
    subst hwo
    by_cases hlt : p < n1
    · go_wp2
      go_loopw [7] (fun kv wr => ∃ k : Nat, kv = .int .i64 k ∧ KG w wr w1.heap.size A n ls A' n' vals A1 n1 gs ∧ ∀ g, gs[p]? = some g → k ≤ g.length) (fun kv _ => ((gs[p]?).getD []).length - (intOf kv).toNat)
      case atStart => exact ⟨0, rfl, HK2.out, fun g _ => by omega⟩
      case round =>
        obtain ⟨k, rfl, hk3, hkl⟩ := hrel
        have HK3 := Lib.hid hk3
        obtain ⟨ad, Ai, ni, ci, g, rfl, hbi, hci, hgi, hii, hni⟩ := hk3.grid.at_ p hlt
        have hkg := hkl g hgi
        have HGI := Lib.hid hgi; have HII := Lib.hid hii; have HKL := Lib.hid hkl; have HGL := Lib.hid hii.len
        clear hk3 hkl hgi hii
        obtain ⟨wq, hwq⟩ : ∃ wq, wq = wr := ⟨_, rfl⟩
        subst hwq
        by_cases hlt2 : k < ni
        · obtain ⟨ae, z, rfl, hbe, hz, hce⟩ := HII.out.get hlt2
          have HZ := Lib.hid hz
          clear hz
          go_wp2
          go_loopw [8, 9] (fun uv iv wr => ∃ (i : Nat) (u : Bool), i ≤ n ∧ iv = .int .i64 i ∧ uv = .bool u ∧ u = usedTo ls vals z p i ∧ KG w wr w1.heap.size A n ls A' n' vals (some ad) n1 gs) (fun _ iv _ => n - (intOf iv).toNat)
          case atStart => exact ⟨0, false, by omega, rfl, rfl, rfl, HK3.out⟩
          case round =>
            obtain ⟨i, u, hin, rfl, rfl, hu, hk5⟩ := hrel
            have HU := Lib.hid hu; have HK5 := Lib.hid hk5
            clear hu hk5
            by_cases hlt3 : i < n
            · obtain ⟨al, pl, L, rfl, hp, hpb, hL, hok, hc⟩ := HK5.out.lines.get hlt3
              have hkc : wr.cell? ⟨pl.block, pl.off + 1, none⟩ = some (.int .i64 L.kind) := field hc (j := 0) rfl
              obtain ⟨av, v, rfl, hvb, hvz, hvc⟩ := HK5.out.ints_.get (k := i) (by omega)
              have hval : vals.getD i 0 = v := by rw [List.getD_eq_getElem?_getD, hvz]; rfl
              have HS := Lib.hid (show usedTo ls vals z p (i + 1) = (u || (L.kind == 2 && v == z && poolsOf (ls.take i) == p)) by
                rw [used_snoc, ← HU.out, isLoad_at hL, hval])
              obtain ⟨ad2, Ai2, ni2, ci2, g2, e2, hbi2, hci2, hgi2, hii2, hni2⟩ := HK5.out.grid.at_ p hlt
              cases e2
              obtain rfl : g = g2 := by rw [HGI.out] at hgi2; exact Option.some.inj hgi2
              obtain rfl : ni = ni2 := by have h1 := hii2.len; have h2 := HGL.out; omega
              obtain ⟨ae2, z2, rfl, hbe2, hz2, hce2⟩ := hii2.get hlt2
              obtain rfl : z = z2 := by rw [HZ.out] at hz2; exact Option.some.inj hz2
              obtain ⟨q, hq⟩ : ∃ q, q = poolsOf (ls.take i) := ⟨_, rfl⟩
              rw [← hq] at HS
              have HQ := Lib.hid hq
              have g4 : (p : Int) < (n1 : Int) := by omega
              have g5 : (i : Int) < (n' : Int) := by omega
              have g6 : (k : Int) < (ni : Int) := by omega
              have g7 : (i : Int) < (n : Int) := by omega
              clear hc hL hvz hval hgi2 hii2 hz2 hq
              cases u with
              | true =>
                have HT := Lib.hid (show true = usedTo ls vals z p (i + 1) by rw [HS.out]; rfl)
                go_wp2
                go_quiet (fail)
                go_wp2
                go_roundw
                case rel => exact ⟨i + 1, true, by omega, by go_num, rfl, HT.out, HK5.out.drewN _⟩
                case measure => simp [intOf]; omega
              | false =>
                cases hk2 : (L.kind == 2) with
                | false =>
                  have HT := Lib.hid (show false = usedTo ls vals z p (i + 1) by rw [HS.out, hk2]; rfl)
                  go_wp2
                  go_quiet (fail)
                  go_wp2
                  go_roundw
                  case rel => exact ⟨i + 1, false, by omega, by go_num, rfl, HT.out, HK5.out.drewN _⟩
                  case measure => simp [intOf]; omega
                | true =>
                  cases hvz : (v == z) with
                  | false =>
                    have HT := Lib.hid (show false = usedTo ls vals z p (i + 1) by rw [HS.out, hk2, hvz]; rfl)
                    go_wp2
                    go_quiet (fail)
                    go_wp2
                    go_roundw
                    case rel => exact ⟨i + 1, false, by omega, by go_num, rfl, HT.out, HK5.out.drewN _⟩
                    case measure => simp [intOf]; omega
                  | true =>
                    have hqp : (((q : Nat) : Int) == (p : Int)) = (q == p) := by rw [Bool.eq_iff_iff]; simp; omega
                    cases hq2 : (q == p) with
                    | false =>
                      rw [hq2] at hqp
                      have HT := Lib.hid (show false = usedTo ls vals z p (i + 1) by rw [HS.out, hk2, hvz, hq2]; rfl)
                      go_wp2
                      go_quiet ((go_at_call 11; refine Calls.quiet_of_same ((pools_Of _ _ _ _ ls _ _ (HK5.out.lines.drewN _) hn (by omega) (by omega)).mono (fun e w' h => ⟨by rw [h.1, show ((i : Nat) : Int).toNat = i by omega, ← HQ.out], h.2.symm⟩))))
                      go_wp2
                      go_roundw
                      case rel => exact ⟨i + 1, false, by omega, by go_num, rfl, HT.out, HK5.out.drewN _⟩
                      case measure => simp [intOf]; omega
                    | true =>
                      rw [hq2] at hqp
                      have HT := Lib.hid (show true = usedTo ls vals z p (i + 1) by rw [HS.out, hk2, hvz, hq2]; rfl)
                      go_wp2
                      go_quiet ((go_at_call 11; refine Calls.quiet_of_same ((pools_Of _ _ _ _ ls _ _ (HK5.out.lines.drewN _) hn (by omega) (by omega)).mono (fun e w' h => ⟨by rw [h.1, show ((i : Nat) : Int).toNat = i by omega, ← HQ.out], h.2.symm⟩))))
                      go_wp2
                      go_roundw
                      case rel => exact ⟨i + 1, true, by omega, by go_num, rfl, HT.out, HK5.out.drewN _⟩
                      case measure => simp [intOf]; omega
            · obtain rfl : n = i := by omega
              obtain rfl : u = true := by rw [HU.out, ← HLN.out]; exact used_end (by rw [← HGS.out]; exact HGI.out) HZ.out
              go_wp2
              go_roundw
              case rel => exact ⟨k + 1, by go_num, HK5.out, fun g' hg' => by have h1 := HGI.out; rw [h1] at hg'; cases hg'; have := HGL.out; omega⟩
              case measure => simp [intOf, HGI.out]; have := HGL.out; omega
        · go_wp2
          go_roundw
          case rel => exact ⟨p + 1, by omega, by go_num, HK3.out⟩
          case measure => simp [intOf]; omega
    · go_wp2_with fail
      refine (awake22 _).mono ?_
      rintro e w4 ⟨rfl, hb4⟩
      have HB4 := Lib.hid (HK2.out.bel.trans (hb4.mono HK2.out.bel.size))
      clear hb4
      go_wp2
      go_ret
      exact ⟨rfl, HB4.out⟩
end Go.Proofs.Ytapenhbfpcmpnaa
