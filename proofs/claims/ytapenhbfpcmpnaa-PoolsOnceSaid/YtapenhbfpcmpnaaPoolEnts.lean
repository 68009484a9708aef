/- Contracts of the closure of pools.Plan and of slices.ContainsFunc with it: whether an entry is among some. -/
import Derived.Test.YtapenhbfpcmpnaaPoolFind
import Derived.Laws.StructEq
import Derived.Deep.LoopGhost
import Derived.Shelf.GgClosure.Gives
namespace Go.Proofs.Ytapenhbfpcmpnaa
open Go.RowKit Mem
set_option linter.unusedVariables false
/-- Entries as cells. -/
def ents (es : List (Int × Int)) : List Value := es.flatMap fun e => [.int .i64 e.1, .int .i64 e.2]
theorem ents_append (a b : List (Int × Int)) : ents (a ++ b) = ents a ++ ents b := by simp [ents]
theorem ents_len (es : List (Int × Int)) : (ents es).length = es.length * 2 := by
  induction es with
  | nil => rfl
  | cons e es ih => show (_ :: _ :: ents es).length = _; simp [ih]; omega
theorem ents_get (es : List (Int × Int)) : ∀ {k : Nat} {a b : Int}, es[k]? = some (a, b) → (ents es)[k * 2]? = some (.int .i64 a) ∧ (ents es)[k * 2 + 1]? = some (.int .i64 b) := by
  induction es with
  | nil => intro k a b h; cases h
  | cons e es ih =>
    intro k a b h
    cases k with
    | zero => simp at h; subst h; exact ⟨rfl, rfl⟩
    | succ k =>
      have := ih (k := k) (a := a) (b := b) (by simpa using h)
      have e1 : (k + 1) * 2 = k * 2 + 1 + 1 := by omega
      rw [e1]
      exact this
def eqE (a b c d : Int) : Bool := a == c && b == d
theorem eq_pair (a b c d : Int) (w : World) : (binOp .eql 41 (.agg #[.int .i64 a, .int .i64 b]) (.agg #[.int .i64 c, .int .i64 d])).run Try.prog w = .ok (.bool (eqE a b c d)) w := by
  rw [run_eql_struct]
  have h1 : ∀ i w, i < 2 → (part 3 #[Value.int .i64 a, .int .i64 b] i).run Try.prog w = .ok (.int .i64 (if i = 0 then a else b)) w := by
    intro i w hi
    have : i = 0 ∨ i = 1 := by omega
    rcases this with rfl | rfl <;> simp [part, go_sem, Try.isAgg3, Try.sizeOf3]
  have h2 : ∀ i w, i < 2 → (part 3 #[Value.int .i64 c, .int .i64 d] i).run Try.prog w = .ok (.int .i64 (if i = 0 then c else d)) w := by
    intro i w hi
    have : i = 0 ∨ i = 1 := by omega
    rcases this with rfl | rfl <;> simp [part, go_sem, Try.isAgg3, Try.sizeOf3]
  show ((Op.equalIn (9998 + 1 + 1) 41 _ _).run _ _).andThen _ = _
  have hint : ∀ (x y : Int) w, (Op.equalIn (9998 + 1) 3 (.int .i64 x) (.int .i64 y)).run Try.prog w = .ok (x == y) w := fun x y w => run_equalIn_int w 9998 3 .i64 .i64 x y Try.underlying3
  rw [Op.equalIn]
  simp only [Sem.run_bind, run_underlying Try.underlying41, Result.andThen_ok, Try.sizeOf3]
  simp only [Std.Legacy.Range.forIn_eq_forIn_range', Std.Legacy.Range.size, List.range', List.forIn_cons, List.forIn_nil]
  simp only [Sem.run_bind, Sem.run_ite, Sem.run_pure, Result.andThen_ok, Nat.zero_mul, h1 0 _ (by decide), h2 0 _ (by decide), hint]
  cases hac : (a == c) with
  | false => simp [eqE, hac]
  | true =>
    cases hbd : (b == d) with
    | false => simp [eqE, hac, hbd, Sem.run_bind, h1 1 _ (by decide), h2 1 _ (by decide), hint]
    | true => simp [eqE, hac, hbd, Sem.run_bind, h1 1 _ (by decide), h2 1 _ (by decide), hint]
theorem plan_fn (a b c d : Int) (q : Nat) (w : World) (h0 : w.cell? ⟨q, 0, none⟩ = some (.int .i64 c)) (h1 : w.cell? ⟨q, 1, none⟩ = some (.int .i64 d)) :
    Calls Try.prog 16 #[.agg #[.int .i64 a, .int .i64 b], .pointer (some ⟨q, 0, none⟩)] w fun e w' => e = .returned (.bool (eqE a b c d)) ∧ Below w.heap.size w w' := by
  have hq := eq_pair a b c d
  have hl := World.block_lt_of_cell? w _ h0
  have h0' := (World.cell?_alloc_lt w (.cells #[.int .i64 a, .int .i64 b] 41) ⟨q, 0, none⟩ hl).trans h0
  have h1' := (World.cell?_alloc_lt w (.cells #[.int .i64 a, .int .i64 b] 41) ⟨q, 1, none⟩ hl).trans h1
  clear h0 h1
  go_enter Try.func16, Try.ntmps16
  go_wp2
  go_ret
  exact ⟨rfl, (Below.refl _ _).alloc (Nat.le_refl _) _⟩
/-- The entries lie in block b. -/
def EntsAt (w : World) (b : Nat) (es : List (Int × Int)) : Prop := ∀ k x y, es[k]? = some (x, y) → w.cell? ⟨b, k * 2, none⟩ = some (.int .i64 x) ∧ w.cell? ⟨b, k * 2 + 1, none⟩ = some (.int .i64 y)
/-- The first place of an entry; -1: none. -/
def entIdx (es : List (Int × Int)) (c d : Int) : Int := match es.findIdx? (fun e => eqE e.1 e.2 c d) with
  | some k => k
  | none => -1
theorem entIdx_hit {es : List (Int × Int)} {k : Nat} {x y c d : Int} (h : es[k]? = some (x, y)) (he : eqE x y c d = true) (hno : ∀ j x y, j < k → es[j]? = some (x, y) → eqE x y c d = false) : entIdx es c d = k := by
  have hk : k < es.length := by
    rcases Nat.lt_or_ge k es.length with hh | hh
    · exact hh
    · rw [List.getElem?_eq_none hh] at h; cases h
  have : es.findIdx? (fun e => eqE e.1 e.2 c d) = some k := by
    rw [List.findIdx?_eq_some_iff_getElem]
    refine ⟨hk, ?_, fun j hj => ?_⟩
    · rw [List.getElem?_eq_getElem hk] at h
      rw [Option.some.inj h]; exact he
    · have hh := hno j es[j].1 es[j].2 hj (List.getElem?_eq_getElem (by omega))
      simp [hh]
  unfold entIdx; rw [this]
theorem entIdx_miss {es : List (Int × Int)} {c d : Int} (hno : ∀ j x y, j < es.length → es[j]? = some (x, y) → eqE x y c d = false) : entIdx es c d = -1 := by
  have : es.findIdx? (fun e => eqE e.1 e.2 c d) = none := by
    rw [List.findIdx?_eq_none_iff]
    intro e he
    obtain ⟨j, hj, rfl⟩ := List.getElem_of_mem he
    exact hno j es[j].1 es[j].2 hj (List.getElem?_eq_getElem hj)
  unfold entIdx; rw [this]
set_option maxRecDepth 100000 in
set_option maxHeartbeats 1000000 in
theorem index_fn (b q n cp : Nat) (A : Option Addr) (es : List (Int × Int)) (c d : Int) (w : World) (hA : 0 < n → A = some ⟨b, 0, none⟩) (hb : 0 < n → b < w.heap.size) (hn : es.length = n) (hbig : n ≤ 9223372036854775807) (he : EntsAt w b es)
    (h0 : w.cell? ⟨q, 0, none⟩ = some (.int .i64 c)) (h1 : w.cell? ⟨q, 1, none⟩ = some (.int .i64 d)) :
    Calls Try.prog 18 #[.slice A n cp, .func (.func 16) #[] #[.pointer (some ⟨q, 0, none⟩)]] w fun e w' => e = .returned (.int .i64 (entIdx es c d)) ∧ Below w.heap.size w w' := by
  have HA := Lib.hid hA; have HE := Lib.hid he; have HN := Lib.hid hn; have HB := Lib.hid hb; have H0 := Lib.hid h0; have H1 := Lib.hid h1
  have hql := World.block_lt_of_cell? w _ h0
  clear hA he hn hb h0 h1
  obtain ⟨r, hr⟩ : ∃ r, r = entIdx es c d := ⟨_, rfl⟩
  rw [← hr]
  have HR := Lib.hid hr
  clear hr
  go_enter Try.func18, Try.ntmps18
  go_wp2
  go_loopw [8] (fun iv wr => ∃ k : Nat, k ≤ n ∧ iv = .int .i64 k ∧ Below w.heap.size w wr ∧ ∀ j x y, j < k → es[j]? = some (x, y) → eqE x y c d = false) (fun iv _ => n - (intOf iv).toNat)
  case atStart => exact ⟨0, by omega, rfl, Below.refl _ _, fun j x y h => by omega⟩
  case round =>
    obtain ⟨k, hk, rfl, hbel, hno⟩ := hrel
    have HW := Lib.hid hbel; have HX := Lib.hid hno
    clear hbel hno
    by_cases hlt : k < n
    · obtain rfl := HA.out (by omega)
      have hkl : k < es.length := by rw [HN.out]; exact hlt
      obtain ⟨x, y, hxy⟩ : ∃ x y, es[k]? = some (x, y) := ⟨es[k].1, es[k].2, List.getElem?_eq_getElem hkl⟩
      obtain ⟨c0, c1⟩ := HE.out k x y hxy
      have c0' := (HW.out.cell (p := ⟨b, k * 2, none⟩) (HB.out (by omega))).trans c0
      have c1' := (HW.out.cell (p := ⟨b, k * 2 + 1, none⟩) (HB.out (by omega))).trans c1
      have q0' := Lib.hid ((HW.out.cell (p := ⟨q, 0, none⟩) hql).trans H0.out)
      have q1' := Lib.hid ((HW.out.cell (p := ⟨q, 1, none⟩) hql).trans H1.out)
      have HXY := Lib.hid hxy
      clear hxy c0 c1 hkl
      cases hq : eqE x y c d with
      | true =>
        have HI := Lib.hid (entIdx_hit HXY.out hq HX.out)
        go_wp2_with (go_at_call 16; refine (plan_fn x y c d q _ q0'.out q1'.out).mono ?_; rintro e w' ⟨rfl, hb'⟩)
        go_ret
        exact ⟨ret_int (by rw [HR.out, HI.out]), HW.out.trans (hb'.mono HW.out.size)⟩
      | false =>
        have HS := Lib.hid (show ∀ j x y, j < k + 1 → es[j]? = some (x, y) → eqE x y c d = false from fun j x' y' hj hy => by
          by_cases e : j = k
          · subst e; rw [HXY.out] at hy; cases hy; exact hq
          · exact HX.out j x' y' (by omega) hy)
        go_wp2_with (go_at_call 16; refine (plan_fn x y c d q _ q0'.out q1'.out).mono ?_; rintro e w' ⟨rfl, hb'⟩)
        go_roundw
        case rel => exact ⟨k + 1, by omega, by go_num, HW.out.trans (hb'.mono HW.out.size), HS.out⟩
        case measure => simp [intOf]; omega
    · obtain rfl : k = n := by omega
      have HI := Lib.hid (entIdx_miss (fun j x y hj hy => HX.out j x y (by rw [← HN.out]; exact hj) hy))
      go_wp2
      go_ret
      exact ⟨ret_int (by rw [HR.out, HI.out]), HW.out⟩
def inE (es : List (Int × Int)) (c d : Int) : Bool := decide (0 ≤ entIdx es c d)
theorem contains_fn (b q n cp : Nat) (A : Option Addr) (es : List (Int × Int)) (c d : Int) (w : World) (hA : 0 < n → A = some ⟨b, 0, none⟩) (hb : 0 < n → b < w.heap.size) (hn : es.length = n) (hbig : n ≤ 9223372036854775807) (he : EntsAt w b es)
    (h0 : w.cell? ⟨q, 0, none⟩ = some (.int .i64 c)) (h1 : w.cell? ⟨q, 1, none⟩ = some (.int .i64 d)) :
    Calls Try.prog 15 #[.slice A n cp, .func (.func 16) #[] #[.pointer (some ⟨q, 0, none⟩)]] w fun e w' => e = .returned (.bool (inE es c d)) ∧ Below w.heap.size w w' := by
  have HA := Lib.hid hA; have HE := Lib.hid he; have HN := Lib.hid hn; have HB := Lib.hid hb; have H0 := Lib.hid h0; have H1 := Lib.hid h1
  clear hA he hn hb h0 h1
  go_enter Try.func15, Try.ntmps15
  go_wp2_with fail
  refine (index_fn b q n cp A es c d _ HA.out HB.out HN.out hbig HE.out H0.out H1.out).mono ?_
  rintro e w1 ⟨rfl, hb1⟩
  go_wp2
  go_ret
  exact ⟨rfl, hb1⟩
end Go.Proofs.Ytapenhbfpcmpnaa
