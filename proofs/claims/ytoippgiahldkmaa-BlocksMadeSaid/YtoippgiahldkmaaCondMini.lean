/- Contracts of conds.Next, conds.Conds, of the references' Turn and Conds (the texts of layer 4, for a seat that has no more of it). -/
import Derived.Test.YtoippgiahldkmaaProg
import Derived.Test.YtoippgiahldkmaaCondPlain
import Derived.Test.YtoippgiahldkmaaBits64
import Derived.Test.YtoippgiahldkmaaMem
import Derived.WalkLawsBesides
import Derived.Deep.QuietTactic
import Derived.BigQuiet
import Derived.Deep.LoopGhost
import Derived.Outline
namespace Go.Proofs.Ytoippgiahldkmaa
open Go.RowKit Mem
set_option linter.unusedVariables false
theorem ref_Turn (k : Int) (w : World) (hk : -9223372036854775808 ≤ k) (hk' : k ≤ 9223372036854775807) :
    Calls Try.prog 33 #[.int .i64 k] w fun e w' => e = .returned (.int .i64 (other k)) ∧ w = w' := by
  by_cases h1 : k < 0
  · go_enter Try.func33, Try.ntmps33
    go_wp2
    go_ret
    exact ⟨ret_int (other_none (.inl h1)).symm, rfl⟩
  by_cases h2 : 13 < k
  · go_enter Try.func33, Try.ntmps33
    go_wp2
    go_ret
    exact ⟨ret_int (other_none (.inr h2)).symm, rfl⟩
  by_cases h3 : k % 2 = 0
  · go_enter Try.func33, Try.ntmps33
    go_wp2
    go_ret
    exact ⟨ret_int (by unfold other; rw [if_neg (by omega), if_pos h3]), rfl⟩
  · go_enter Try.func33, Try.ntmps33
    go_wp2
    go_ret
    exact ⟨ret_int (by unfold other; rw [if_neg (by omega), if_neg h3]), rfl⟩
theorem and224 (x : Int) : bits .and .i64 x 224 = x / 32 % 8 * 32 := by
  show IntKind.i64.wrap ((BitVec.ofInt IntKind.i64.bits x &&& BitVec.ofInt IntKind.i64.bits 224).toNat : Int) = _
  have h := (by decide +kernel : ∀ m : Fin 256, m.val &&& 224 = m.val / 32 % 8 * 32) ⟨(x % 2 ^ 64).toNat % 256, by omega⟩
  rw [BitVec.toNat_and, Num.ofInt_toNat]
  have e1 : (BitVec.ofInt IntKind.i64.bits 224).toNat = 255 &&& 224 := by decide
  rw [e1, ← Nat.and_assoc, nat_mask8]
  have hx : ((x % 2 ^ IntKind.i64.bits).toNat : Int) = x % 18446744073709551616 := by
    simp only [IntKind.bits]; omega
  have hh : ((x % 2 ^ IntKind.i64.bits).toNat % 256 &&& 224) = (x % 2 ^ IntKind.i64.bits).toNat % 256 / 32 % 8 * 32 := h
  rw [hh]
  rw [Num.wrap_small .i64 8 (by decide) _ (by omega) (by omega)]
  omega
theorem conds_Next (it : Int) (w : World) (hk : -9223372036854775808 ≤ it) (hk' : it ≤ 9223372036854775807) :
    Calls Try.prog 47 #[.int .i64 it] w fun e w' => e = .returned (.int .i64 (nextIt it)) ∧ w = w' := by
  have e7 : bits .and .i64 it 7 = it % 8 := Num.and_low .i64 3 (by decide) it
  have e224 := and224 it
  by_cases h1 : it % 8 = 0
  · go_enter Try.func47, Try.ntmps47
    go_wp2
    go_ret
    exact ⟨ret_int (by unfold nextIt; rw [if_pos h1]), rfl⟩
  · have e2 : bits .and .i64 (wrap64 (it * 2)) 31 = it % 16 * 2 := by
      have := Num.wrap64_mod (it * 2) 5 (by omega)
      rw [Num.i64_and31]; simp only [Int.reducePow] at this; omega
    have HJ := Lib.hid (Num.i64_join 5 (it / 32 % 8 * 32) (it % 16 * 2) (by omega) (by simp only [Int.reducePow]; omega) (by omega) (by omega) (by simp only [Int.reducePow]; omega) (by omega))
    go_enter Try.func47, Try.ntmps47
    go_wp2
    go_ret
    exact ⟨ret_int (by rw [HJ.out]; unfold nextIt; rw [if_neg h1]), rfl⟩
theorem Try.infoInt : (Try.prog.info? 3).map (fun i => (i.zero, i.size, i.bytes)) = some (some (.int .i64 0), 1, 8) := by kernel_rfl
theorem condsGo_end {f : Nat} {it : Int} (h : it % 8 = 0) : condsGo f it = some [] := by
  cases f with
  | zero => rfl
  | succ f => show (if it % 8 = 0 then _ else _) = _; rw [if_pos h]
theorem condsGo_out {f : Nat} {it : Int} (h : ¬ it % 8 = 0) (h1 : nextIt it / 16 = 15) : condsGo (f + 1) it = none := by
  show (if it % 8 = 0 then _ else _) = _; rw [if_neg h, if_pos h1]
theorem condsGo_on {f : Nat} {it : Int} (h : ¬ it % 8 = 0) (h1 : ¬ nextIt it / 16 = 15) : condsGo (f + 1) it = (condsGo f (nextIt it)).map (nextIt it / 16 :: ·) := by
  show (if it % 8 = 0 then _ else _) = _; rw [if_neg h, if_neg h1]
theorem map_app (x : Int) (l : List Int) (o : Option (List Int)) : (o.map (x :: ·)).map (l ++ ·) = o.map ((l ++ [x]) ++ ·) := by cases o <;> simp
theorem condsL_no {c m : Int} (h : c < 0 ∨ 14 < c ∨ m < 1 ∨ 15 < m) : condsL c m = [] := if_pos h
theorem condsL_some {c m : Int} {l : List Int} (h : ¬ (c < 0 ∨ 14 < c ∨ m < 1 ∨ 15 < m)) (h1 : condsGo 3 (c * 16 + m) = some l) : condsL c m = c :: l := by unfold condsL; rw [if_neg h, h1]
theorem condsL_none {c m : Int} (h : ¬ (c < 0 ∨ 14 < c ∨ m < 1 ∨ 15 < m)) (h1 : condsGo 3 (c * 16 + m) = none) : condsL c m = [] := by unfold condsL; rw [if_neg h, h1]
theorem next_bd (it : Int) : 0 ≤ nextIt it ∧ nextIt it ≤ 255 := by unfold nextIt; split <;> omega
theorem next_low {it : Int} {k : Nat} (hk : k < 3) (h : it % 2 ^ k = 0) : nextIt it % 2 ^ (k + 1) = 0 := by
  have : k = 0 ∨ k = 1 ∨ k = 2 := by omega
  unfold nextIt
  rcases this with rfl | rfl | rfl <;> simp only [Nat.reduceAdd, Int.reducePow] at h ⊢ <;> split <;> omega
theorem low_k {it : Int} {k : Nat} (hk : k ≤ 3) (h : it % 2 ^ k = 0) (h8 : ¬ it % 8 = 0) : k < 3 := by
  rcases Nat.lt_or_ge k 3 with hh | hh
  · exact hh
  · obtain rfl : k = 3 := by omega
    simp only [Int.reducePow] at h; exact absurd h h8
/-- The conditions as they come one by one. -/
def Part (c m it : Int) (k : Nat) (l : List Int) : Prop := condsGo 3 (c * 16 + m) = (condsGo (3 - k) it).map (l ++ ·) ∧ l.length = k ∧ it % 2 ^ k = 0 ∧ k ≤ 3 ∧ 0 ≤ it ∧ it ≤ 255
theorem Part.start {c m : Int} (h0 : 0 ≤ c) (h1 : c ≤ 14) (h2 : 1 ≤ m) (h3 : m ≤ 15) : Part c m (c * 16 + m) 0 [] := ⟨by simp, rfl, by simp, by omega, by omega, by omega⟩
theorem Part.next {c m it : Int} {k : Nat} {l : List Int} (h : Part c m it k l) (h8 : ¬ it % 8 = 0) (h15 : ¬ nextIt it / 16 = 15) : Part c m (nextIt it) (k + 1) (l ++ [nextIt it / 16]) := by
  obtain ⟨a, b, d, e, f, g⟩ := h
  have hk := low_k e d h8
  have hb := next_bd it
  refine ⟨?_, by simp [b], next_low hk d, by omega, hb.1, hb.2⟩
  rw [a, show 3 - k = (3 - (k + 1)) + 1 by omega, condsGo_on h8 h15, map_app]
theorem Part.endd {c m it : Int} {k : Nat} {l : List Int} (h : Part c m it k l) (hr : ¬ (c < 0 ∨ 14 < c ∨ m < 1 ∨ 15 < m)) (h8 : it % 8 = 0) : condsL c m = c :: l :=
  condsL_some hr (by rw [h.1, condsGo_end h8]; simp)
theorem Part.out {c m it : Int} {k : Nat} {l : List Int} (h : Part c m it k l) (hr : ¬ (c < 0 ∨ 14 < c ∨ m < 1 ∨ 15 < m)) (h8 : ¬ it % 8 = 0) (h15 : nextIt it / 16 = 15) : condsL c m = [] := by
  have hk := low_k h.2.2.2.1 h.2.2.1 h8
  exact condsL_none hr (by rw [h.1, show 3 - k = (3 - (k + 1)) + 1 by omega, condsGo_out h8 h15]; rfl)
set_option maxRecDepth 100000 in
set_option maxHeartbeats 1000000 in
theorem conds_Conds (c m : Int) (w : World) (hk : -9223372036854775808 ≤ c) (hk' : c ≤ 9223372036854775807) (hm : -9223372036854775808 ≤ m) (hm' : m ≤ 9223372036854775807) :
    Calls Try.prog 44 #[.int .i64 c, .int .i64 m] w fun e w' => ∃ v, e = .returned v ∧ w'.ownsRow w.heap.size 3 1 v (condsL c m).length (ints (condsL c m)) ∧ Below w.heap.size w w' := by
  by_cases hr : c < 0 ∨ 14 < c ∨ m < 1 ∨ 15 < m
  · have HE := Lib.hid (condsL_no hr)
    by_cases h1 : c < 0
    · go_enter Try.func44, Try.ntmps44
      go_wp2
      go_ret
      exact ⟨_, rfl, by rw [HE.out]; exact own_nil _ _ _, Below.refl _ _⟩
    by_cases h2 : 14 < c
    · go_enter Try.func44, Try.ntmps44
      go_wp2
      go_ret
      exact ⟨_, rfl, by rw [HE.out]; exact own_nil _ _ _, Below.refl _ _⟩
    by_cases h3 : m < 1
    · go_enter Try.func44, Try.ntmps44
      go_wp2
      go_ret
      exact ⟨_, rfl, by rw [HE.out]; exact own_nil _ _ _, Below.refl _ _⟩
    have h4 : 15 < m := by omega
    go_enter Try.func44, Try.ntmps44
    go_wp2
    go_ret
    exact ⟨_, rfl, by rw [HE.out]; exact own_nil _ _ _, Below.refl _ _⟩
  have HR := Lib.hid hr
  have h1 : 0 ≤ c := by omega
  have h2 : c ≤ 14 := by omega
  have h3 : 1 ≤ m := by omega
  have h4 : m ≤ 15 := by omega
  clear hr
  obtain ⟨i0, hi, hz0, hz1, hz2⟩ := info_parts Try.infoInt
  have ej := Num.i64_join 4 (c * 16) m (by omega) (by simp only [Int.reducePow]; omega) (by omega) (by omega) (by simp only [Int.reducePow]; omega) (by omega)
  go_enter Try.func44, Try.ntmps44
  go_wp2
  go_loopw [5, 6] (fun v iv wr => ∃ (k : Nat) (it : Int) (l : List Int), iv = .int .i64 it ∧ Part c m it k l ∧ wr.ownsRow w.heap.size 3 1 v (k + 1) (ints (c :: l)) ∧ Below w.heap.size w wr) (fun v _ _ => match v with | .slice _ n _ => 4 - n | _ => 0)
  case atStart => exact ⟨0, c * 16 + m, [], rfl, Part.start h1 h2 h3 h4, World.ownsRow_lit w #[.int .i64 c] 1 (Nat.le_refl _) (by unfold maxLen; omega) rfl, (Below.refl _ _).alloc (Nat.le_refl _) _⟩
  case round =>
    obtain ⟨k, it, l, rfl, hp, hown, hbel⟩ := hrel
    have HP := Lib.hid hp
    have i1 := hp.2.2.2.2.1
    have i2 := hp.2.2.2.2.2
    have hk3 := hp.2.2.2.1
    clear hp
    have e7 : bits .and .i64 it 7 = it % 8 := Num.and_low .i64 3 (by decide) it
    by_cases h8 : it % 8 = 0
    · have HE := Lib.hid (HP.out.endd HR.out h8)
      have HL := Lib.hid HP.out.2.1
      have HO := Lib.hid hown
      clear hown
      go_wp2
      go_ret
      exact ⟨_, rfl, by rw [HE.out, List.length_cons, HL.out]; exact HO.out, hbel⟩
    · have hb := next_bd it
      obtain ⟨n0, n1⟩ := hb
      obtain ⟨A, cp, rfl, _, _⟩ := own_shape hown
      cases h15 : (nextIt it / 16 == 15) with
      | true =>
        have HE := Lib.hid (HP.out.out HR.out h8 (by simpa using h15))
        have HO := Lib.hid hown
        clear hown
        go_wp2_with (go_at_call 47; refine (conds_Next _ _ (by omega) (by omega)).mono ?_; rintro e w' ⟨rfl, rfl⟩)
        go_ret
        exact ⟨_, rfl, by rw [HE.out]; exact own_nil _ _ _, hbel⟩
      | false =>
        have HE := Lib.hid (HP.out.next h8 (by simpa using h15))
        go_wp2_with (first | (go_at_call 47; refine (conds_Next _ _ (by omega) (by omega)).mono ?_; rintro e w' ⟨rfl, rfl⟩) | (at_builtin; refine wpList_append_lies _ rfl _ _ _ rfl w.heap.size 3 i0 _ 1 8 Try.underlying58 hi hz0 hz1 hz2 rfl (by omega) _ (k + 1) (ints (c :: l)) rfl (hown.alloc _) ⟨wr.heap.size, 0, none⟩ 1 1 [.int .i64 (nextIt it / 16)] rfl rfl (World.news_of_block (cs := #[.int .i64 (nextIt it / 16)]) (t := 3) (fr := (0, 0)) (heap_alloc_new wr _)) (by simp [Value.oneCell']) (by omega) (by unfold maxLen; omega) (by omega) (by have := hbel.size; simp; omega) (wr.heap.size + 1) (by simp) ?_; intro g cap wx hown1 hgrow hat hlt1))
        have hbel1 : Below w.heap.size w wx := (hbel.alloc hbel.size _).grown hgrow (by have := hbel.size; simp; omega) (fun k hk => ((own_block hown) k hk).1)
        have HW := Lib.hid (show wx.ownsRow w.heap.size 3 1 (.slice (some ⟨g, 0, none⟩) (k + 1 + 1) cap) (k + 1 + 1) (ints (c :: (l ++ [nextIt it / 16]))) by
          rw [show c :: (l ++ [nextIt it / 16]) = (c :: l) ++ [nextIt it / 16] by simp, ints_append]; exact hown1)
        have HK := Lib.hid (low_k HP.out.2.2.2.1 HP.out.2.2.1 h8)
        clear hown1 hown hgrow hat
        go_wp2
        go_roundw
        case rel => exact ⟨k + 1, _, _, rfl, HE.out, HW.out, hbel1⟩
        case measure => have := HK.out; simp; omega
/-- The reference's way. -/
def refGo : Nat → Int → Int → Option (List Int)
  | 0, _, _ => some []
  | f + 1, c, m => if m = 8 then some [] else if (decide (8 ≤ m) != (c % 2 == 1)) = true then (if c = 14 then none else (refGo f c (m % 8 * 2)).map (other c :: ·)) else (refGo f c (m % 8 * 2)).map (c :: ·)
theorem refGo_fin : ∀ c : Fin 15, ∀ m : Fin 15, refGo 3 (c.val : Int) ((m.val : Int) + 1) = condsGo 3 ((c.val : Int) * 16 + ((m.val : Int) + 1)) := by decide +kernel
theorem refGo_eq {c m : Int} (h0 : 0 ≤ c) (h1 : c ≤ 14) (h2 : 1 ≤ m) (h3 : m ≤ 15) : refGo 3 c m = condsGo 3 (c * 16 + m) := by
  have := refGo_fin ⟨c.toNat, by omega⟩ ⟨(m - 1).toNat, by omega⟩
  simp only at this
  rw [show ((c.toNat : Nat) : Int) = c by omega, show (((m - 1).toNat : Nat) : Int) + 1 = m by omega] at this
  exact this
theorem refGo_end {f : Nat} {c : Int} : refGo f c 8 = some [] := by cases f <;> rfl
theorem refGo_out {f : Nat} {c m : Int} (h : ¬ m = 8) (h1 : (decide (8 ≤ m) != (c % 2 == 1)) = true) (h2 : c = 14) : refGo (f + 1) c m = none := by
  show (if m = 8 then _ else _) = _; rw [if_neg h, if_pos h1, if_pos h2]
theorem refGo_turn {f : Nat} {c m : Int} (h : ¬ m = 8) (h1 : (decide (8 ≤ m) != (c % 2 == 1)) = true) (h2 : ¬ c = 14) : refGo (f + 1) c m = (refGo f c (m % 8 * 2)).map (other c :: ·) := by
  show (if m = 8 then _ else _) = _; rw [if_neg h, if_pos h1, if_neg h2]
theorem refGo_same {f : Nat} {c m : Int} (h : ¬ m = 8) (h1 : (decide (8 ≤ m) != (c % 2 == 1)) = false) : refGo (f + 1) c m = (refGo f c (m % 8 * 2)).map (c :: ·) := by
  show (if m = 8 then _ else _) = _; rw [if_neg h, if_neg (by rw [h1]; decide)]
def RPart (c m0 m : Int) (k : Nat) (l : List Int) : Prop := refGo 3 c m0 = (refGo (3 - k) c m).map (l ++ ·) ∧ l.length = k ∧ m % 2 ^ k = 0 ∧ k ≤ 3 ∧ 1 ≤ m ∧ m ≤ 15
theorem RPart.lt {c m0 m : Int} {k : Nat} {l : List Int} (h : RPart c m0 m k l) (h8 : ¬ m = 8) : k < 3 := by
  obtain ⟨a, b, d, e, f, g⟩ := h
  rcases Nat.lt_or_ge k 3 with hh | hh
  · exact hh
  · obtain rfl : k = 3 := by omega
    simp only [Int.reducePow] at d; omega
theorem RPart.step {c m0 m x : Int} {k : Nat} {l : List Int} (h : RPart c m0 m k l) (h8 : ¬ m = 8) (hs : refGo (3 - (k + 1) + 1) c m = (refGo (3 - (k + 1)) c (m % 8 * 2)).map (x :: ·)) : RPart c m0 (m % 8 * 2) (k + 1) (l ++ [x]) := by
  have hk := h.lt h8
  obtain ⟨a, b, d, e, f, g⟩ := h
  refine ⟨?_, by simp [b], ?_, by omega, ?_, by omega⟩
  · rw [a, show 3 - k = (3 - (k + 1)) + 1 by omega, hs, map_app]
  · have : k = 0 ∨ k = 1 ∨ k = 2 := by omega
    rcases this with rfl | rfl | rfl <;> simp only [Nat.reduceAdd, Int.reducePow] at d ⊢ <;> omega
  · omega
set_option maxRecDepth 100000 in
set_option maxHeartbeats 2000000 in
theorem ref_Conds (c m0 : Int) (w : World) (hk : -9223372036854775808 ≤ c) (hk' : c ≤ 9223372036854775807) (hm : -9223372036854775808 ≤ m0) (hm' : m0 ≤ 9223372036854775807) :
    Calls Try.prog 30 #[.int .i64 c, .int .i64 m0] w fun e w' => ∃ v, e = .returned v ∧ w'.ownsRow w.heap.size 3 1 v (condsL c m0).length (ints (condsL c m0)) ∧ Below w.heap.size w w' := by
  by_cases hr : c < 0 ∨ 14 < c ∨ m0 < 1 ∨ 15 < m0
  · have HE := Lib.hid (condsL_no hr)
    by_cases h1 : c < 0
    · go_enter Try.func30, Try.ntmps30
      go_wp2
      go_ret
      exact ⟨_, rfl, by rw [HE.out]; exact own_nil _ _ _, Below.refl _ _⟩
    by_cases h2 : 14 < c
    · go_enter Try.func30, Try.ntmps30
      go_wp2
      go_ret
      exact ⟨_, rfl, by rw [HE.out]; exact own_nil _ _ _, Below.refl _ _⟩
    by_cases h3 : m0 < 1
    · go_enter Try.func30, Try.ntmps30
      go_wp2
      go_ret
      exact ⟨_, rfl, by rw [HE.out]; exact own_nil _ _ _, Below.refl _ _⟩
    have h4 : 15 < m0 := by omega
    go_enter Try.func30, Try.ntmps30
    go_wp2
    go_ret
    exact ⟨_, rfl, by rw [HE.out]; exact own_nil _ _ _, Below.refl _ _⟩
  have HR := Lib.hid hr
  have h1 : 0 ≤ c := by omega
  have h2 : c ≤ 14 := by omega
  have h3 : 1 ≤ m0 := by omega
  have h4 : m0 ≤ 15 := by omega
  clear hr
  have HQ := Lib.hid (refGo_eq h1 h2 h3 h4)
  obtain ⟨i0, hi, hz0, hz1, hz2⟩ := info_parts Try.infoInt
  go_enter Try.func30, Try.ntmps30
  go_wp2
  go_loopw [5, 1] (fun v mv wr => ∃ (k : Nat) (m : Int) (l : List Int), mv = .int .i64 m ∧ RPart c m0 m k l ∧ wr.ownsRow w.heap.size 3 1 v (k + 1) (ints (c :: l)) ∧ Below w.heap.size w wr) (fun v _ _ => match v with | .slice _ n _ => 4 - n | _ => 0)
  case atStart => exact ⟨0, m0, [], rfl, ⟨by simp, rfl, by simp, by omega, h3, h4⟩, World.ownsRow_lit w #[.int .i64 c] 1 (Nat.le_refl _) (by unfold maxLen; omega) rfl, (Below.refl _ _).alloc (Nat.le_refl _) _⟩
  case round =>
    obtain ⟨k, m, l, rfl, hp, hown, hbel⟩ := hrel
    have HP := Lib.hid hp
    have i1 := hp.2.2.2.2.1
    have i2 := hp.2.2.2.2.2
    have hk3 := hp.2.2.2.1
    clear hp
    by_cases h8 : m = 8
    · have HE := Lib.hid (show condsL c m0 = c :: l from condsL_some HR.out (by rw [← HQ.out, HP.out.1, h8, refGo_end]; simp))
      have HL := Lib.hid HP.out.2.1
      have HO := Lib.hid hown
      have h8' : (m != 8) = false := by simp [h8]
      clear hown h8
      go_wp2
      go_ret
      exact ⟨_, rfl, by rw [HE.out, List.length_cons, HL.out]; exact HO.out, hbel⟩
    · have HK := Lib.hid (HP.out.lt h8)
      obtain ⟨A, cp, rfl, _, _⟩ := own_shape hown
      cases ht : (decide (8 ≤ m) != (c % 2 == 1)) with
      | true =>
        cases h14 : (c == 14) with
        | true =>
          have HE := Lib.hid (show condsL c m0 = [] from condsL_none HR.out (by
            rw [← HQ.out, HP.out.1, show 3 - k = (3 - (k + 1)) + 1 by have := HK.out; omega, refGo_out h8 ht (by simpa using h14)]; rfl))
          have HO := Lib.hid hown
          have ht2 : (!(decide (8 ≤ m) == (c % 2 == 1))) = true := ht
          have ht3 : (decide (8 ≤ m) == (c % 2 == 1)) = false := by simpa using ht2
          clear hown ht
          go_wp2
          go_ret
          exact ⟨_, rfl, by rw [HE.out]; exact own_nil _ _ _, hbel⟩
        | false =>
          have HE := Lib.hid (HP.out.step h8 (refGo_turn h8 ht (by simpa using h14)))
          have ht2 : (!(decide (8 ≤ m) == (c % 2 == 1))) = true := ht
          have ht3 : (decide (8 ≤ m) == (c % 2 == 1)) = false := by simpa using ht2
          clear ht
          go_wp2_with (first | (go_at_call 33; refine (ref_Turn _ _ (by omega) (by omega)).mono ?_; rintro e w' ⟨rfl, rfl⟩) | (at_builtin; refine wpList_append_lies _ rfl _ _ _ rfl w.heap.size 3 i0 _ 1 8 Try.underlying58 hi hz0 hz1 hz2 rfl (by omega) _ (k + 1) (ints (c :: l)) rfl (hown.alloc _) ⟨wr.heap.size, 0, none⟩ 1 1 [.int .i64 (other c)] rfl rfl (World.news_of_block (cs := #[.int .i64 (other c)]) (t := 3) (fr := (0, 0)) (heap_alloc_new wr _)) (by simp [Value.oneCell']) (by omega) (by unfold maxLen; omega) (by omega) (by have := hbel.size; simp; omega) (wr.heap.size + 1) (by simp) ?_; intro g cap wx hown1 hgrow hat hlt1))
          have hbel1 : Below w.heap.size w wx := (hbel.alloc hbel.size _).grown hgrow (by have := hbel.size; simp; omega) (fun k hk => ((own_block hown) k hk).1)
          have HW := Lib.hid (show wx.ownsRow w.heap.size 3 1 (.slice (some ⟨g, 0, none⟩) (k + 1 + 1) cap) (k + 1 + 1) (ints (c :: (l ++ [other c]))) by
            rw [show c :: (l ++ [other c]) = (c :: l) ++ [other c] by simp, ints_append]; exact hown1)
          clear hown1 hown hgrow hat
          go_wp2
          go_roundw
          case rel => exact ⟨k + 1, _, _, rfl, HE.out, HW.out, hbel1⟩
          case measure => have := HK.out; simp; omega
      | false =>
        have HE := Lib.hid (HP.out.step h8 (refGo_same h8 ht))
        have ht2 : (!(decide (8 ≤ m) == (c % 2 == 1))) = false := ht
        have ht3 : (decide (8 ≤ m) == (c % 2 == 1)) = true := by simpa using ht2
        clear ht
        go_wp2_with (at_builtin; refine wpList_append_lies _ rfl _ _ _ rfl w.heap.size 3 i0 _ 1 8 Try.underlying58 hi hz0 hz1 hz2 rfl (by omega) _ (k + 1) (ints (c :: l)) rfl (hown.alloc _) ⟨wr.heap.size, 0, none⟩ 1 1 [.int .i64 c] rfl rfl (World.news_of_block (cs := #[.int .i64 c]) (t := 3) (fr := (0, 0)) (heap_alloc_new wr _)) (by simp [Value.oneCell']) (by omega) (by unfold maxLen; omega) (by omega) (by have := hbel.size; simp; omega) (wr.heap.size + 1) (by simp) ?_; intro g cap wx hown1 hgrow hat hlt1)
        have hbel1 : Below w.heap.size w wx := (hbel.alloc hbel.size _).grown hgrow (by have := hbel.size; simp; omega) (fun k hk => ((own_block hown) k hk).1)
        have HW := Lib.hid (show wx.ownsRow w.heap.size 3 1 (.slice (some ⟨g, 0, none⟩) (k + 1 + 1) cap) (k + 1 + 1) (ints (c :: (l ++ [c]))) by
          rw [show c :: (l ++ [c]) = (c :: l) ++ [c] by simp, ints_append]; exact hown1)
        clear hown1 hown hgrow hat
        go_wp2
        go_roundw
        case rel => exact ⟨k + 1, _, _, rfl, HE.out, HW.out, hbel1⟩
        case measure => have := HK.out; simp; omega
end Go.Proofs.Ytoippgiahldkmaa
