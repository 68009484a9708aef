/- Contracts of pools.Of and of its reference: how many pools stand ahead of a line. -/
import Derived.Test.YtapenhbfpcmpnaaProg
import Derived.Test.YtapenhbfpcmpnaaLines
import Derived.Test.YtapenhbfpcmpnaaBase
import Derived.WalkLawsBesides
import Derived.Deep.QuietTactic
import Derived.BigQuiet
import Derived.Deep.LoopGhost
import Derived.Outline
namespace Go.Proofs.Ytapenhbfpcmpnaa
open Go.RowKit Mem
set_option linter.unusedVariables false
/-- How many pools stand among the first lines. -/
def poolsOf (ls : List Ln) : Nat := (ls.filter fun L => L.kind == 5).length
theorem poolsOf_snoc {ls : List Ln} {k : Nat} {L : Ln} (h : ls[k]? = some L) : poolsOf (ls.take (k + 1)) = poolsOf (ls.take k) + if L.kind = 5 then 1 else 0 := by
  rw [List.take_add_one, h]
  unfold poolsOf
  rw [List.filter_append, List.length_append]
  by_cases e : L.kind = 5 <;> simp [e]
theorem poolsOf_le (ls : List Ln) (k : Nat) : poolsOf (ls.take k) ≤ k := by
  unfold poolsOf
  have := List.length_filter_le (fun L : Ln => L.kind == 5) (ls.take k)
  rw [List.length_take] at this
  omega
set_option maxRecDepth 100000 in
set_option maxHeartbeats 1000000 in
theorem pools_Of (A : Option Addr) (n c B : Nat) (ls : List Ln) (k0 : Int) (w : World) (hx : Lines w B A n ls) (hn : n ≤ 9223372036854775807) (h0 : -9223372036854775808 ≤ k0) (h1 : k0 ≤ 9223372036854775807) :
    Calls Try.prog 11 #[.slice A n c, .int .i64 k0] w fun e w' => e = .returned (.int .i64 (poolsOf (ls.take k0.toNat) : Int)) ∧ w = w' := by
  have HX := Lib.hid hx
  clear hx
  go_enter Try.func11, Try.ntmps11
  go_wp2
  go_loop [5, 6] (fun nv iv => ∃ k m : Nat, k ≤ n ∧ (k : Int) ≤ max k0 0 ∧ iv = .int .i64 k ∧ nv = .int .i64 m ∧ m = poolsOf (ls.take k) ∧ m ≤ k) (fun _ iv => n - (intOf iv).toNat)
  case atStart => exact ⟨0, 0, by omega, by omega, rfl, rfl, rfl, by omega⟩
  case round =>
    obtain ⟨k, m, hk, hk0, rfl, rfl, hm, hmk⟩ := hrel
    have HM := Lib.hid hm
    clear hm
    by_cases hlt : (k : Int) < k0
    · by_cases hltn : k < n
      · obtain ⟨ad, p, L, rfl, hp, hb, hL, hok, hc⟩ := HX.out.get hltn
        have hc1 : w.cell? ⟨p.block, p.off + 1, none⟩ = some (.int .i64 L.kind) := field hc (j := 0) rfl
        have HL := Lib.hid (poolsOf_snoc hL)
        clear hc hL
        cases h5 : (L.kind == 5) with
        | true =>
          have HS := Lib.hid (show m + 1 = poolsOf (ls.take (k + 1)) by rw [HL.out, HM.out, if_pos (by simpa using h5)])
          go_wp2
          go_round
          case rel => exact ⟨k + 1, m + 1, by omega, by omega, by go_num, by go_num, HS.out, by omega⟩
          case measure => simp [intOf]; omega
        | false =>
          have HS := Lib.hid (show m = poolsOf (ls.take (k + 1)) by rw [HL.out, HM.out, if_neg (by simpa using h5)]; rfl)
          go_wp2
          go_round
          case rel => exact ⟨k + 1, m, by omega, by omega, by go_num, rfl, HS.out, by omega⟩
          case measure => simp [intOf]; omega
      · obtain rfl : k = n := by omega
        have HE := Lib.hid (show ls.take k = ls.take k0.toNat by
          rw [List.take_of_length_le (by rw [HX.out.len]; exact Nat.le_refl _), List.take_of_length_le (by rw [HX.out.len]; omega)])
        go_wp2
        go_ret
        exact ⟨ret_int (by rw [← HE.out, ← HM.out]), rfl⟩
    · have HE := Lib.hid (show ls.take k = ls.take k0.toNat by rw [show k0.toNat = k by omega])
      go_wp2
      go_ret
      exact ⟨ret_int (by rw [← HE.out, ← HM.out]), rfl⟩
set_option maxRecDepth 100000 in
set_option maxHeartbeats 1000000 in
theorem ref22_Of (A : Option Addr) (n c B : Nat) (ls : List Ln) (k0 : Int) (w : World) (hx : Lines w B A n ls) (hn : n ≤ 9223372036854775807) (h0 : -9223372036854775808 ≤ k0) (h1 : k0 ≤ 9223372036854775807) :
    Calls Try.prog 12 #[.slice A n c, .int .i64 k0] w fun e w' => e = .returned (.int .i64 (poolsOf (ls.take k0.toNat) : Int)) ∧ w = w' := by
  have HX := Lib.hid hx
  clear hx
  go_enter Try.func12, Try.ntmps12
  go_wp2
  go_loop [5, 6] (fun nv iv => ∃ k m : Nat, k ≤ n ∧ (k : Int) ≤ max k0 0 ∧ iv = .int .i64 k ∧ nv = .int .i64 m ∧ m = poolsOf (ls.take k) ∧ m ≤ k) (fun _ iv => n - (intOf iv).toNat)
  case atStart => exact ⟨0, 0, by omega, by omega, rfl, rfl, rfl, by omega⟩
  case round =>
    obtain ⟨k, m, hk, hk0, rfl, rfl, hm, hmk⟩ := hrel
    have HM := Lib.hid hm
    clear hm
    by_cases hlt : (k : Int) < k0
    · by_cases hltn : k < n
      · obtain ⟨ad, p, L, rfl, hp, hb, hL, hok, hc⟩ := HX.out.get hltn
        have hc1 : w.cell? ⟨p.block, p.off + 1, none⟩ = some (.int .i64 L.kind) := field hc (j := 0) rfl
        have HL := Lib.hid (poolsOf_snoc hL)
        clear hc hL
        cases h5 : (L.kind == 5) with
        | true =>
          have HS := Lib.hid (show m + 1 = poolsOf (ls.take (k + 1)) by rw [HL.out, HM.out, if_pos (by simpa using h5)])
          go_wp2
          go_round
          case rel => exact ⟨k + 1, m + 1, by omega, by omega, by go_num, by go_num, HS.out, by omega⟩
          case measure => simp [intOf]; omega
        | false =>
          have HS := Lib.hid (show m = poolsOf (ls.take (k + 1)) by rw [HL.out, HM.out, if_neg (by simpa using h5)]; rfl)
          go_wp2
          go_round
          case rel => exact ⟨k + 1, m, by omega, by omega, by go_num, rfl, HS.out, by omega⟩
          case measure => simp [intOf]; omega
      · obtain rfl : k = n := by omega
        have HE := Lib.hid (show ls.take k = ls.take k0.toNat by
          rw [List.take_of_length_le (by rw [HX.out.len]; exact Nat.le_refl _), List.take_of_length_le (by rw [HX.out.len]; omega)])
        go_wp2
        go_ret
        exact ⟨ret_int (by rw [← HE.out, ← HM.out]), rfl⟩
    · have HE := Lib.hid (show ls.take k = ls.take k0.toNat by rw [show k0.toNat = k by omega])
      go_wp2
      go_ret
      exact ⟨ret_int (by rw [← HE.out, ← HM.out]), rfl⟩
end Go.Proofs.Ytapenhbfpcmpnaa
