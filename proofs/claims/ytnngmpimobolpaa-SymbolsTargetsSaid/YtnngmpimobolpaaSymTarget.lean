/- Contracts of Target and of its reference. -/
import Derived.Test.YtnngmpimobolpaaSymRef
import Derived.Test.YtnngmpimobolpaaSymLines
namespace Go.Proofs.Ytnngmpimobolpaa
open Go.RowKit Mem
set_option linter.unusedVariables false
def hitL (nm : ByteArray) (L : Ln) : Bool := !decide (nm.size = 0) && (L.lab == nm)
def idxL (p : Ln → Bool) (ls : List Ln) : Int := match ls.findIdx? p with
  | some i => i
  | none => -1
theorem target_idx (ls : List Ln) (nm : ByteArray) : targetOf ls nm = idxL (hitL nm) ls := by
  unfold targetOf idxL
  by_cases h : nm.size = 0
  · rw [if_pos h]
    have : ls.findIdx? (hitL nm) = none := by
      rw [List.findIdx?_eq_none_iff]
      intro L _
      unfold hitL; rw [show decide (nm.size = 0) = true by simpa using h]; rfl
    rw [this]
  · rw [if_neg h]
    have : hitL nm = fun L => L.lab == nm := by
      funext L
      unfold hitL; rw [show decide (nm.size = 0) = false by simpa using h]; rfl
    rw [this]
    cases List.findIdx? (fun L => L.lab == nm) ls <;> rfl
def NoneL (ls : List Ln) (p : Ln → Bool) (k : Nat) : Prop := ∀ j L, j < k → ls[j]? = some L → p L = false
theorem noneL_next {ls : List Ln} {p : Ln → Bool} {k : Nat} {L : Ln} (h : NoneL ls p k) (hL : ls[k]? = some L) (hp : p L = false) : NoneL ls p (k + 1) := fun j M hj hM => by
  by_cases e : j = k
  · subst e; rw [hL] at hM; cases hM; exact hp
  · exact h j M (by omega) hM
theorem idx_hit {ls : List Ln} {p : Ln → Bool} {k : Nat} {L : Ln} (hL : ls[k]? = some L) (hp : p L = true) (h : NoneL ls p k) : idxL p ls = k := by
  obtain ⟨hl, e⟩ := List.getElem?_eq_some_iff.1 hL
  unfold idxL
  have : ls.findIdx? p = some k := by
    rw [List.findIdx?_eq_some_iff_getElem]
    refine ⟨hl, by rw [e]; exact hp, fun j hj => ?_⟩
    rw [h j _ hj (List.getElem?_eq_getElem (by omega))]; decide
  rw [this]
theorem idx_miss {ls : List Ln} {p : Ln → Bool} (h : NoneL ls p ls.length) : idxL p ls = -1 := by
  unfold idxL
  have : ls.findIdx? p = none := by
    rw [List.findIdx?_eq_none_iff]
    intro L hL
    obtain ⟨j, hj, rfl⟩ := List.getElem_of_mem hL
    exact h j _ hj (List.getElem?_eq_getElem hj)
  rw [this]
set_option maxRecDepth 100000 in
set_option maxHeartbeats 2000000 in
theorem ref_Target (A : Option Addr) (n c B : Nat) (ls : List Ln) (nm : ByteArray) (w : World) (hx : Lines w B A n ls) (hn : n ≤ 9223372036854775807) :
    Calls Try.prog 34 #[.slice A n c, .string nm] w fun e w' => e = .returned (.int .i64 (targetOf ls nm)) ∧ w = w' := by
  have HX := Lib.hid hx; have HLN := Lib.hid hx.len
  clear hx
  obtain ⟨r, hr⟩ : ∃ r, r = idxL (hitL nm) ls := ⟨_, rfl⟩
  rw [target_idx, ← hr]
  have HR := Lib.hid hr
  have he := emp_iff nm
  obtain ⟨bE, hE⟩ : ∃ b, nm.toList.isEmpty = b := ⟨_, rfl⟩
  have HE := Lib.hid (show decide (nm.size = 0) = bE by rw [← he]; exact hE)
  clear hr he
  go_enter Try.func34, Try.ntmps34
  go_wp2
  go_loop [5] (fun iv => ∃ k : Nat, iv = .int .i64 k ∧ k ≤ n ∧ NoneL ls (hitL nm) k) (fun iv => n - (intOf iv).toNat)
  case atStart => exact ⟨0, rfl, by omega, fun j L h => by omega⟩
  case round =>
    obtain ⟨k, rfl, hk, hno⟩ := hrel
    have HN := Lib.hid hno
    clear hno
    by_cases hlt : k < n
    · obtain ⟨ad, p, L, rfl, hp, hb, hL, hok, hc⟩ := HX.out.get hlt
      have c0 := field0 hc
      have HL := Lib.hid hL
      clear hc hL hok
      cases hs : (L.lab.toList == nm.toList) with
      | true =>
        cases bE with
        | true =>
          have HI := Lib.hid (noneL_next HN.out HL.out (show hitL nm L = false by unfold hitL; rw [HE.out]; rfl))
          go_wp2
          go_round
          case rel => exact ⟨k + 1, by go_num, by omega, HI.out⟩
          case measure => simp [intOf]; omega
        | false =>
          have HI := Lib.hid (idx_hit HL.out (show hitL nm L = true by unfold hitL; rw [HE.out, ← tl_beq, hs]; rfl) HN.out)
          go_wp2
          go_ret
          exact ⟨ret_int (by rw [HR.out, HI.out]), rfl⟩
      | false =>
        have HI := Lib.hid (noneL_next HN.out HL.out (show hitL nm L = false by unfold hitL; rw [← tl_beq, hs, Bool.and_false]))
        go_wp2
        go_round
        case rel => exact ⟨k + 1, by go_num, by omega, HI.out⟩
        case measure => simp [intOf]; omega
    · have HI := Lib.hid (idx_miss (p := hitL nm) (show NoneL ls (hitL nm) ls.length by rw [HLN.out, show n = k by omega]; exact HN.out))
      go_wp2
      go_ret
      exact ⟨ret_int (by rw [HR.out, HI.out]), rfl⟩
set_option maxRecDepth 100000 in
set_option maxHeartbeats 2000000 in
/-- slices.IndexFunc at lines: the closure tells p of each. -/
theorem idx_lines (p : Ln → Bool) (A : Option Addr) (n c : Nat) (q : Addr) (ls : List Ln) (w : World) (hx : Lines w w.heap.size A n ls) (hn : n ≤ 9223372036854775807)
    (HF : ∀ (w1 : World) (L : Ln) (X : Array Value), Below w.heap.size w w1 → X = L.cells.toArray → L.ok → Calls Try.prog 45 #[.agg X, .pointer (some q)] w1 (fun e w' => e = .returned (.bool (p L)) ∧ Below w1.heap.size w1 w')) :
    Calls Try.prog 44 #[.slice A n c, .func (.func 45) #[] #[.pointer (some q)]] w (fun e w' => e = .returned (.int .i64 (idxL p ls)) ∧ Below w.heap.size w w') := by
  have HX := Lib.hid hx; have HLN := Lib.hid hx.len; have HFF := Lib.hid HF
  clear hx HF
  obtain ⟨r, hr⟩ : ∃ r, r = idxL p ls := ⟨_, rfl⟩
  rw [← hr]
  have HR := Lib.hid hr
  clear hr
  go_enter Try.func44, Try.ntmps44
  go_wp2
  go_loopw [8] (fun iv wr => ∃ k : Nat, iv = .int .i64 k ∧ k ≤ n ∧ NoneL ls p k ∧ Below w.heap.size w wr) (fun iv _ => n - (intOf iv).toNat)
  case atStart => exact ⟨0, rfl, by omega, fun j L h => by omega, Below.refl _ _⟩
  case round =>
    obtain ⟨k, rfl, hk, hno, hbel⟩ := hrel
    have HN := Lib.hid hno; have HW := Lib.hid hbel
    clear hno hbel
    by_cases hlt : k < n
    · obtain ⟨ad, pp, L, rfl, hp, hb, hL, hok, hc⟩ := (HX.out.below HW.out).get hlt
      have HL := Lib.hid hL
      obtain ⟨X, hX⟩ : ∃ X, X = L.cells.toArray := ⟨_, rfl⟩
      have hld : (Instr.loadAt 56 (.pointer (some pp))).run Try.prog wr = .ok (.agg X) wr := by rw [hX]; exact run_loadAt_any wr pp 56 L.cells _ hc Try.underlying56 rfl (by kernel_rfl)
      have HC := Lib.hid (HFF.out wr L X HW.out hX hok)
      clear hc hL hX hok
      go_wp2_with (refine wpList_load_any rfl 56 _ rfl pp rfl X hld ?_)
      refine HC.out.mono ?_
      rintro e w2 ⟨rfl, hb2⟩
      have HB2 := Lib.hid (HW.out.trans (hb2.mono HW.out.size))
      clear hb2
      cases hpl : p L with
      | true =>
        have HI := Lib.hid (idx_hit HL.out hpl HN.out)
        go_wp2
        go_ret
        exact ⟨ret_int (by rw [HR.out, HI.out]), HB2.out⟩
      | false =>
        have HI := Lib.hid (noneL_next HN.out HL.out hpl)
        go_wp2
        go_roundw
        case rel => exact ⟨k + 1, by go_num, by omega, HI.out, HB2.out⟩
        case measure => simp [intOf]; omega
    · have HI := Lib.hid (idx_miss (p := p) (show NoneL ls p ls.length by rw [HLN.out, show n = k by omega]; exact HN.out))
      go_wp2
      go_ret
      exact ⟨ret_int (by rw [HR.out, HI.out]), HW.out⟩
set_option maxRecDepth 100000 in
set_option maxHeartbeats 2000000 in
theorem target1 (nm : ByteArray) (L : Ln) (X : Array Value) (hX : X = L.cells.toArray) (hok : L.ok) (q : Addr) (w : World) (hq : w.cell? q = some (.string nm)) :
    Calls Try.prog 45 #[.agg X, .pointer (some q)] w (fun e w' => e = .returned (.bool (hitL nm L)) ∧ Below w.heap.size w w') := by
  have hql := World.block_lt_of_cell? w _ hq
  have hb0 : Below w.heap.size w (w.alloc (.cells X 56)) := (Below.refl _ _).alloc (Nat.le_refl _) _
  have hq' := (hb0.cell (p := q) hql).trans hq
  have c0 : (w.alloc (.cells X 56)).cell? ⟨w.heap.size, 0, none⟩ = some (.string L.lab) := new_line _ _ _ _ _ (by rw [hX]; rfl)
  have HB := Lib.hid hb0
  have he := emp_iff nm
  obtain ⟨r, hr⟩ : ∃ r, r = hitL nm L := ⟨_, rfl⟩
  rw [← hr]
  have HR := Lib.hid hr
  have hXs : X.size = 19 := by rw [hX]; rfl
  have hXi : (Try.prog.info? 56).map (·.size) = some X.size := by rw [hXs]; kernel_rfl
  clear hq hb0 hr hX hok hXs
  cases hE : nm.toList.isEmpty with
  | true =>
    have HRR := Lib.hid (show r = false by rw [HR.out]; unfold hitL; rw [← he, hE]; rfl)
    clear he
    rw [HRR.out]
    go_enter Try.func45, Try.ntmps45
    go_wp2
    go_ret
    exact ⟨rfl, HB.out⟩
  | false =>
    cases hs : (L.lab.toList == nm.toList) with
    | true =>
      have HRR := Lib.hid (show r = true by rw [HR.out]; unfold hitL; rw [← he, hE, ← tl_beq, hs]; rfl)
      clear he
      rw [HRR.out]
      go_enter Try.func45, Try.ntmps45
      go_wp2
      go_ret
      exact ⟨rfl, HB.out⟩
    | false =>
      have HRR := Lib.hid (show r = false by rw [HR.out]; unfold hitL; rw [← tl_beq, hs, Bool.and_false])
      clear he
      rw [HRR.out]
      go_enter Try.func45, Try.ntmps45
      go_wp2
      go_ret
      exact ⟨rfl, HB.out⟩
set_option maxRecDepth 100000 in
set_option maxHeartbeats 2000000 in
theorem sym_Target (A : Option Addr) (n c : Nat) (ls : List Ln) (nm : ByteArray) (w : World) (hx : Lines w w.heap.size A n ls) (hn : n ≤ 9223372036854775807) :
    Calls Try.prog 33 #[.slice A n c, .string nm] w (fun e w' => e = .returned (.int .i64 (targetOf ls nm)) ∧ Below w.heap.size w w') := by
  have hmf : ∀ (fn : Fn) (first cap : Array Value) (w : World), (Instr.makeFunc fn first cap).run Try.prog w = .ok (.func fn first cap) w := fun _ _ _ _ => rfl
  have hb0 : Below w.heap.size w (w.alloc (.cells #[.string nm] 9)) := (Below.refl _ _).alloc (Nat.le_refl _) _
  have hc0 : (w.alloc (.cells #[.string nm] 9)).cell? ⟨w.heap.size, 0, none⟩ = some (.string nm) := by simp [go_sem]
  have HB := Lib.hid hb0
  have HC := Lib.hid (idx_lines (hitL nm) A n c ⟨w.heap.size, 0, none⟩ ls (w.alloc (.cells #[.string nm] 9)) ((hx.below hb0).more hb0.size) hn (fun w1 L X hb hX hok => target1 nm L X hX hok _ w1 ((hb.cell (p := ⟨w.heap.size, 0, none⟩) (by simp)).trans hc0)))
  rw [target_idx]
  generalize idxL (hitL nm) ls = r at HC ⊢
  clear hb0 hc0 hx
  go_enter Try.func33, Try.ntmps33
  go_wp2_with fail
  refine HC.out.mono ?_
  rintro e w1 ⟨rfl, hb⟩
  have HB1 := Lib.hid (HB.out.trans (hb.mono HB.out.size))
  clear hb
  go_wp2
  go_ret
  exact ⟨rfl, HB1.out⟩
end Go.Proofs.Ytnngmpimobolpaa
