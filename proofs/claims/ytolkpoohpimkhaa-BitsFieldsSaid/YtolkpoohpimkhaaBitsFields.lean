/- The walk of layer 1's statement BitsFields: it returns true, and the world keeps all that was there. -/
import Derived.Test.YtolkpoohpimkhaaBitsLaws
import Derived.Deep.RegionHeld3
import Derived.Deep.DrawnRows
namespace Go.Proofs.Ytolkpoohpimkhaa
open Go.RowKit Mem
set_option linter.unusedVariables false
attribute [local go_sem ↓] Go.wp_at_zero Go.wp_at_succ
set_option maxRecDepth 100000 in
set_option maxHeartbeats 2000000 in
theorem law_BitsFields (x v n0 n1 : Int) (w : World) (h0 : 0 ≤ x) (h1 : x < 4294967296) (hv : 0 ≤ v) (hv' : v < 4294967296) (ha : -9223372036854775808 ≤ n0) (ha' : n0 ≤ 9223372036854775807) (hb : -9223372036854775808 ≤ n1) (hb' : n1 ≤ 9223372036854775807) :
    Calls Try.prog 8 #[.int .u32 x, .int .u32 v, .agg #[.int .i64 n0, .int .i64 n1]] w fun e w' => e = .returned (.bool true) ∧ Below w.heap.size w w' := by
  have t1 : (Num.getW x n0 n1 == Num.getW x n0 n1) = true := by simp
  have t2 : (Num.putW x n0 n1 v == Num.putW x n0 n1 v) = true := by simp
  go_enter Try.func8, Try.ntmps8
  go_wp2
  go_region_held3 (fun w' => w'.cell? ⟨w.heap.size, 0, none⟩ = some (.int .i64 n0) ∧ w'.cell? ⟨w.heap.size, 1, none⟩ = some (.int .i64 n1))
    (first | go_keep | (go_split_ands; refine ⟨(hbw.cell (p := ⟨w.heap.size, 0, none⟩) (by simp)).trans ?_, (hbw.cell (p := ⟨w.heap.size, 1, none⟩) (by simp)).trans ?_⟩ <;> go_keep))
    (first | (go_at_call 21; refine (bits_Get _ _ _ _ h0 h1 hb hb' ha ha').mono ?_; rintro e w' ⟨rfl, rfl⟩) | (go_at_call 22; refine (ref_Get _ _ _ _ h0 h1 hb hb' ha ha').mono ?_; rintro e w' ⟨rfl, rfl⟩) | (go_at_call 23; refine (bits_Put _ _ _ _ _ h0 h1 hv hv' hb hb' ha ha').mono ?_; rintro e w' ⟨rfl, rfl⟩) | (go_at_call 24; refine (ref_Put _ _ _ _ _ h0 h1 hv hv' hb hb' ha ha').mono ?_; rintro e w' ⟨rfl, rfl⟩) | (go_at_call 25; refine (awake1 _).mono ?_; rintro e w1 ⟨rfl, hbw⟩))
  go_wp2
  go_ret
  exact ⟨rfl, (((Below.refl _ _).alloc (Nat.le_refl _) _).drew).trans (hbw.mono (by simp))⟩
end Go.Proofs.Ytolkpoohpimkhaa
