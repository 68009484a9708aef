/- The walks of layer 3's statements OffsWider and OffsBack: each returns true, and the world keeps all that was there. -/
import Derived.Test.YtapenhbfpcmpnaaDoorOffsLaws
namespace Go.Proofs.YtapenhbfpcmpnaaDoor
open Go.RowKit Mem
set_option linter.unusedVariables false
set_option maxRecDepth 100000 in
set_option maxHeartbeats 2000000 in
theorem wider_core (off : Int) (w : World) (hK : Kinds w) (ho : -9223372036854775808 ≤ off) (ho' : off ≤ 9223372036854775807) (f1 f2 f3 f4 f5 ev : Bool)
    (e1 : Num.fits 1 off = f1) (e2 : Num.fits 2 off = f2) (e3 : Num.fits 3 off = f3) (e4 : Num.fits 4 off = f4) (e5 : Num.fits 5 off = f5) (e6 : (off.tmod 2 == 0) = ev)
    (c1 : f1 = true → f2 = true) (c2 : f2 = true → f3 = true) (c3 : f3 = true → f4 = true) (c5 : f5 = true → f1 = true) (c6 : f4 = true → ev = true) :
    Calls Tryd.prog 7 #[.int .i64 off] w fun e w' => e = .returned (.bool true) ∧ w = w' := by
  have HK := Lib.hid hK
  clear hK
  cases f1 <;> cases f2 <;> cases f3 <;> cases f4 <;> cases f5 <;> cases ev <;> simp at c1 c2 c3 c5 c6
  all_goals
    go_enter Tryd.func7, Tryd.ntmps7
    go_wp2_with (first | (go_at_call 10; refine (offs_Fits _ _ _ HK.out (by omega) (by omega) (by omega) (by omega)).mono ?_; rintro e w' ⟨rfl, rfl⟩) | (go_at_call 12; refine (awake3 _ HK.out).mono ?_; rintro e w' ⟨rfl, rfl⟩))
    go_ret
    exact ⟨rfl, rfl⟩
theorem law_OffsWider (off : Int) (w : World) (hK : Kinds w) (ho : -9223372036854775808 ≤ off) (ho' : off ≤ 9223372036854775807) :
    Calls Tryd.prog 7 #[.int .i64 off] w fun e w' => e = .returned (.bool true) ∧ w = w' := by
  obtain ⟨h1, h2, h3, h4, h5⟩ := Num.wider off
  exact wider_core off w hK ho ho' _ _ _ _ _ _ rfl rfl rfl rfl rfl rfl h1 h2 h3 h4 (fun h => (tmod2 off).2 (by simpa using h5 h))
theorem Kinds.two {w : World} (h : Kinds w) (a b : Obj) : Kinds ((w.alloc a).alloc b) :=
  h.keep fun p hp => (World.cell?_alloc_lt _ b p (by simp; omega)).trans (World.cell?_alloc_lt w a p hp)
theorem Kinds.one {w : World} (h : Kinds w) (a : Obj) : Kinds (w.alloc a) := h.keep fun p hp => World.cell?_alloc_lt w a p hp
set_option maxRecDepth 100000 in
set_option maxHeartbeats 2000000 in
theorem back_core (k off n0 n1 m0 m1 A B : Int) (w : World) (hK : Kinds w) (hf : Num.fits k off = true) (hk : -9223372036854775808 ≤ k) (hk' : k ≤ 9223372036854775807) (ho : -9223372036854775808 ≤ off) (ho' : off ≤ 9223372036854775807)
    (e1 : putV k off = .tuple #[.int .i64 A, .int .i64 B]) (e2 : bits .andNot .i64 A m0 = 0) (e3 : bits .andNot .i64 B m1 = 0)
    (e4 : Num.getO k (bits .or .i64 A (bits .andNot .i64 n0 m0)) (bits .or .i64 B (bits .andNot .i64 n1 m1)) = off)
    (hkm : (k = 1 ∧ m0 = 255 ∧ m1 = 0) ∨ (k = 2 ∧ m0 = 2047 ∧ m1 = 0) ∨ (k = 3 ∧ m0 = 1087 ∧ m1 = 12287) ∨ (k = 4 ∧ m0 = 2047 ∧ m1 = 12287) ∨ (k = 5 ∧ m0 = 760 ∧ m1 = 0)) :
    Calls Tryd.prog 5 #[.int .i64 k, .int .i64 off, .agg #[.int .i64 n0, .int .i64 n1]] w fun e w' => e = .returned (.bool true) ∧ Below w.heap.size w w' := by
  have HK := Lib.hid hK
  clear hK
  rcases hkm with ⟨rfl, rfl, rfl⟩ | ⟨rfl, rfl, rfl⟩ | ⟨rfl, rfl, rfl⟩ | ⟨rfl, rfl, rfl⟩ | ⟨rfl, rfl, rfl⟩
  all_goals
    go_enter Tryd.func5, Tryd.ntmps5
    go_wp2_with fail
    refine (offs_Fits _ _ _ (HK.out.one _) (by omega) (by omega) (by omega) (by omega)).mono ?_
    rintro e w' ⟨rfl, rfl⟩
    go_wp2_with fail
    refine (offs_Put _ _ _ (HK.out.one _) (by omega) (by omega) (by omega) (by omega)).mono ?_
    rintro e w' ⟨rfl, rfl⟩
    simp only [e1]
    go_wp2_with fail
    refine (offs_Get _ _ _ _ (HK.out.two _ _) (by omega) (by omega)).mono ?_
    rintro e w' ⟨rfl, rfl⟩
    go_wp2_with fail
    refine (awake3 _ (HK.out.two _ _)).mono ?_
    rintro e w' ⟨rfl, rfl⟩
    go_wp2_with fail
    go_ret
    exact ⟨rfl, ((Below.refl _ _).alloc (Nat.le_refl _) _).alloc (by simp) _⟩
set_option maxRecDepth 100000 in
set_option maxHeartbeats 1000000 in
theorem law_OffsBack (k off n0 n1 : Int) (w : World) (hK : Kinds w) (hk : -9223372036854775808 ≤ k) (hk' : k ≤ 9223372036854775807) (ho : -9223372036854775808 ≤ off) (ho' : off ≤ 9223372036854775807) :
    Calls Tryd.prog 5 #[.int .i64 k, .int .i64 off, .agg #[.int .i64 n0, .int .i64 n1]] w fun e w' => e = .returned (.bool true) ∧ Below w.heap.size w w' := by
  cases hf : Num.fits k off with
  | false =>
    have HK := Lib.hid hK
    clear hK
    go_enter Tryd.func5, Tryd.ntmps5
    go_wp2_with fail
    refine (offs_Fits _ _ _ (HK.out.one _) (by omega) (by omega) (by omega) (by omega)).mono ?_
    rintro e w' ⟨rfl, rfl⟩
    go_wp2_with fail
    refine (awake3 _ (HK.out.one _)).mono ?_
    rintro e w' ⟨rfl, rfl⟩
    go_wp2_with fail
    go_ret
    exact ⟨rfl, (Below.refl _ _).alloc (Nat.le_refl _) _⟩
  | true =>
    rcases Num.fits_kind hf with ⟨rfl, _⟩ | ⟨rfl, _⟩ | ⟨rfl, _⟩ | ⟨rfl, _⟩ | ⟨rfl, _⟩
    · have hb := Num.bk1 off n0 n1 hf
      exact back_core 1 off n0 n1 255 0 _ _ w hK hf hk hk' ho ho' rfl hb.a hb.b hb.g (by omega)
    · have hb := Num.bk2 off n0 n1 hf
      exact back_core 2 off n0 n1 2047 0 _ _ w hK hf hk hk' ho ho' rfl hb.a hb.b hb.g (by omega)
    · have hb := Num.bk3 off n0 n1 hf
      exact back_core 3 off n0 n1 1087 12287 _ _ w hK hf hk hk' ho ho' rfl hb.a hb.b hb.g (by omega)
    · have hb := Num.bk4 off n0 n1 hf
      exact back_core 4 off n0 n1 2047 12287 _ _ w hK hf hk hk' ho ho' rfl hb.a hb.b hb.g (by omega)
    · have hb := Num.bk5 off n0 n1 hf
      exact back_core 5 off n0 n1 760 0 _ _ w hK hf hk hk' ho ho' rfl hb.a hb.b hb.g (by omega)
end Go.Proofs.YtapenhbfpcmpnaaDoor
