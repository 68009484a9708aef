/- Contract of layer 19's Few: some number; not 0: at most 300 lines. -/
import Derived.Test.YtnngmpimobolpaaSymLines
import Derived.Test.YtnngmpimobolpaaSymRef
import Derived.Test.YtnngmpimobolpaaTermFew
namespace Go.Proofs.Ytnngmpimobolpaa
open Go.RowKit Mem
set_option linter.unusedVariables false
def FewPost (n : Nat) (w : World) (e : Ending) (w' : World) : Prop := ∃ z : Int, e = .returned (.int .i64 z) ∧ (z ≠ 0 → n ≤ 300) ∧ Below w.heap.size w w'
set_option maxRecDepth 100000 in
set_option maxHeartbeats 4000000 in
theorem law19_Few (A : Option Addr) (n c d : Nat) (ls : List (Ln × Tm)) (w : World) (hx : TLines w w.heap.size A n d ls) (hn : n ≤ 9223372036854775807) :
    Calls Try.prog 26 #[.slice A n c] w (FewPost n w) := by
  have HX := Lib.hid hx
  have HF := Lib.hid (few_at 60 (by omega))
  clear hx
  by_cases h300 : 300 < n
  · go_enter Try.func26, Try.ntmps26
    go_wp2
    go_ret
    exact ⟨0, rfl, fun h => absurd rfl h, Below.refl _ _⟩
  · have H3 := Lib.hid (show n ≤ 300 by omega)
    go_enter Try.func26, Try.ntmps26
    go_wp2
    go_loopw [3] (fun iv wr => ∃ k : Nat, iv = .int .i64 k ∧ k ≤ n ∧ Below w.heap.size w wr) (fun iv _ => n - (intOf iv).toNat)
    case atStart => exact ⟨0, rfl, by omega, Below.refl _ _⟩
    case round =>
      obtain ⟨k, rfl, hk, hbel⟩ := hrel
      have HW := Lib.hid hbel
      clear hbel
      by_cases hlt : k < n
      · obtain ⟨ad, p, L, t, A', c', rfl, hp, hpb, hL, hok, hc, q0, q1, q2, q3, hlt2, hs1, hs2⟩ := (HX.out.below HW.out).get hlt
        obtain ⟨c0, c1, _, _, _, _, _, _, _, _, _, _, c12, _, _, c15, c16, c17, c18⟩ := cells19 hc
        rw [q0] at c15; rw [q1] at c16; rw [q2] at c17; rw [q3] at c18
        have HC := Lib.hid (HF.out d t A' c' 300 wr (hlt2.more HW.out.size))
        have hpw : p.block < wr.heap.size := Nat.lt_of_lt_of_le hpb HW.out.size
        have C0 := Lib.hid c0; have C12 := Lib.hid c12
        clear hc hL hok hlt2 q0 q1 q2 q3 c1 c12 c0
        unfold tmV at HC
        generalize t.op = top at HC c15
        generalize t.n = tn at HC c16
        generalize t.name = tnm at HC c17
        generalize t.args.length = tl at HC c18
        go_wp2_with fail
        refine HC.out.mono ?_
        rintro e w1 ⟨z, rfl, hb⟩
        have HB := Lib.hid (HW.out.trans (hb.mono HW.out.size))
        have c0 := (hb.cell (p := p) hpw).trans C0.out
        have c12 := (hb.cell (p := ⟨p.block, p.off + 12, none⟩) hpw).trans C12.out
        clear hb c15 c16 c17 c18
        by_cases hz : z < 0
        · go_wp2
          go_ret
          exact ⟨0, rfl, fun h => absurd rfl h, HB.out⟩
        · by_cases h1 : 300 < L.lab.size
          · go_wp2
            go_ret
            exact ⟨0, rfl, fun h => absurd rfl h, HB.out⟩
          · by_cases h2 : 300 < L.ref.size
            · go_wp2
              go_ret
              exact ⟨0, rfl, fun h => absurd rfl h, HB.out⟩
            · go_wp2
              go_roundw
              case rel => exact ⟨k + 1, by go_num, by omega, HB.out⟩
              case measure => simp [intOf]; omega
      · go_wp2
        go_ret
        exact ⟨1, rfl, fun _ => H3.out, HW.out⟩
end Go.Proofs.Ytnngmpimobolpaa
