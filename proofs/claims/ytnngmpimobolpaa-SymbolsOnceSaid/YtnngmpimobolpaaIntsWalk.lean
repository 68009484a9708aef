/- The contract of the references' Ints: whether two slices of ints read alike; the world keeps all that was there. -/
import Derived.Test.YtnngmpimobolpaaProg
import Derived.Test.YtnngmpimobolpaaMem
import Derived.WalkLawsBesides
import Derived.Deep.QuietTactic
import Derived.BigQuiet
import Derived.Deep.LoopGhost
import Derived.Outline
namespace Go.Proofs.Ytnngmpimobolpaa
open Go.RowKit Mem
set_option linter.unusedVariables false
set_option maxRecDepth 100000 in
set_option maxHeartbeats 400000 in
theorem ref_Ints (A A' : Option Addr) (n n' c c' B : Nat) (xs ys : List Int) (w : World) (ha : Ints w B A n xs) (hb : Ints w B A' n' ys) (hn : n ≤ 9223372036854775807) (hn' : n' ≤ 9223372036854775807) :
    Calls Try.prog 19 #[.slice A n c, .slice A' n' c'] w fun e w' => e = .returned (.bool (decide (xs = ys))) ∧ ∃ m, w' = w.drewN m := by
  have HA := Lib.hid ha; have HB := Lib.hid hb
  clear ha hb
  by_cases hne : n = n'
  · subst hne
    go_enter Try.func19, Try.ntmps19
    go_wp2
    go_loopw [5] (fun i wr => ∃ k m : Nat, k ≤ n ∧ i = .int .i64 k ∧ wr = w.drewN m ∧ xs.take k = ys.take k) (fun i _ => n - (intOf i).toNat)
    case atStart => exact ⟨0, 0, by omega, rfl, rfl, by simp⟩
    case round =>
      obtain ⟨k, m, hk, rfl, rfl, heq⟩ := hrel
      have HE := Lib.hid heq
      clear heq
      by_cases hlt : k < n
      · obtain ⟨ad, z, rfl, hb1, hz, hc⟩ := HA.out.get hlt
        obtain ⟨ad', z', rfl, hb2, hz', hc'⟩ := HB.out.get hlt
        have HZ := Lib.hid hz; have HZ' := Lib.hid hz'
        clear hz hz'
        cases hzz : (z != z') with
        | true =>
          have HF := Lib.hid (show decide (xs = ys) = false from decide_eq_false (fun e => by
            subst e; have := HZ.out.symm.trans HZ'.out; simp at this hzz; exact hzz this))
          go_wp2
          go_quiet (fail)
          go_wp2
          go_ret
          exact ⟨by rw [HF.out]; rfl, _, World.drewN_drewN _ _ _⟩
        | false =>
          have HT := Lib.hid (show xs.take (k + 1) = ys.take (k + 1) from by
            simp at hzz; subst hzz
            rw [List.take_add_one, List.take_add_one, HE.out, HZ.out, HZ'.out])
          go_wp2
          go_quiet (fail)
          go_wp2
          go_roundw
          case rel => exact ⟨k + 1, _, by omega, by go_num, by first | exact World.drewN_drewN _ _ _ | rfl, HT.out⟩
          case measure => simp [intOf]; omega
      · obtain rfl : k = n := by omega
        have HT := Lib.hid (show decide (xs = ys) = true from decide_eq_true (by
          have h1 := HA.out.len; have h2 := HB.out.len
          have := HE.out
          rw [List.take_of_length_le (by omega), List.take_of_length_le (by omega)] at this
          exact this))
        go_wp2
        go_ret
        exact ⟨by rw [HT.out]; rfl, _, rfl⟩
  · have HF := Lib.hid (show decide (xs = ys) = false from decide_eq_false (fun e => by
      have h1 := HA.out.len; have h2 := HB.out.len; subst e; omega))
    have hnn : ((n : Int) != (n' : Int)) = true := by simp; omega
    go_enter Try.func19, Try.ntmps19
    go_wp2
    go_ret
    exact ⟨by rw [HF.out]; rfl, 0, rfl⟩
end Go.Proofs.Ytnngmpimobolpaa
