/- Contracts of slices.IndexFunc and slices.ContainsFunc on the parts of a term (printed by mkexidx.py). -/
import Derived.Test.YtnngmpimobolpaaTermForm
namespace Go.Proofs.Ytnngmpimobolpaa
open Go.RowKit Mem
set_option linter.unusedVariables false
def IdxPost (b : Bool) (w : World) (e : Ending) (w' : World) : Prop := ∃ z : Int, e = .returned (.int .i64 z) ∧ decide (0 ≤ z) = b ∧ Below w.heap.size w w'
def NoneTo (t : Tm) (p : Tm → Bool) (k : Nat) : Prop := ∀ i x, i < k → t.args[i]? = some x → p x = false
theorem none_next {t : Tm} {p : Tm → Bool} {k : Nat} {x : Tm} (h : NoneTo t p k) (hx : t.args[k]? = some x) (hp : p x = false) : NoneTo t p (k + 1) := fun i y hi hy => by
  by_cases e : i = k
  · subst e; rw [hx] at hy; cases hy; exact hp
  · exact h i y (by omega) hy
theorem any_yes {t : Tm} {p : Tm → Bool} {k : Nat} {x : Tm} (hx : t.args[k]? = some x) (hp : p x = true) : t.args.any p = true := List.any_eq_true.2 ⟨x, List.mem_of_getElem? hx, hp⟩
theorem any_no {t : Tm} {p : Tm → Bool} (h : ∀ i x, i < t.args.length → t.args[i]? = some x → p x = false) : t.args.any p = false := by
  rw [List.any_eq_false]
  intro x hx
  obtain ⟨i, hi, rfl⟩ := List.getElem_of_mem hx
  rw [h i _ hi (List.getElem?_eq_getElem hi)]; decide
set_option maxRecDepth 100000 in
set_option maxHeartbeats 1000000 in
theorem idx_deep (d : Nat) (t : Tm) (p : Tm → Bool) (A : Option Addr) (c : Nat) (q : Addr) (w : World) (hl : Lies w w.heap.size (d + 1) t (tmCells t A c))
    (hcl : ∀ (w1 : World) (i : Nat) (x : Tm) (A' : Option Addr) (c' : Nat), Below w.heap.size w w1 → t.args[i]? = some x → Lies w1 w.heap.size d x (tmCells x A' c') → Calls Try.prog 59 #[.agg #[.int .i64 x.op, .int .i64 x.n, .string x.name, .slice A' x.args.length c'], .pointer (some q)] w1 fun e w2 => e = .returned (.bool (p x)) ∧ Below w1.heap.size w1 w2) :
    Calls Try.prog 66 #[.slice A t.args.length c, .func (.func 59) #[] #[.pointer (some q)]] w (IdxPost (t.args.any p) w) := by
  obtain ⟨n, hn⟩ : ∃ n, t.args.length = n := ⟨_, rfl⟩
  have hbig : n ≤ 9223372036854775807 := by rw [← hn]; exact hl.1.args
  have HL := Lib.hid hl; have HC := Lib.hid hcl; have HN := Lib.hid hn
  rw [hn]
  clear hl hcl hn
  go_enter Try.func66, Try.ntmps66
  go_wp2
  go_loopw [8] (fun iv wr => ∃ k : Nat, iv = .int .i64 k ∧ k ≤ n ∧ Below w.heap.size w wr ∧ NoneTo t p k) (fun iv _ => n - (intOf iv).toNat)
  case atStart => exact ⟨0, rfl, by omega, Below.refl _ _, fun i x h => by omega⟩
  case round =>
    obtain ⟨k, rfl, hk, hbel, hno⟩ := hrel
    have HW := Lib.hid hbel; have HX := Lib.hid hno
    clear hbel hno
    by_cases hlt : k < n
    · obtain ⟨ad, q0, x, A', c', rfl, hp, hpb, hxi, hlx, c0, c1, c2, c3⟩ := (HL.out.below HW.out).part (i := k) (by rw [HN.out]; exact hlt)
      have HXI := Lib.hid hxi; have HLX := Lib.hid hlx
      clear hxi hlx
      have HCC := Lib.hid (HC.out wr k x A' c' HW.out HXI.out HLX.out)
      obtain ⟨op, hop⟩ : ∃ op, x.op = op := ⟨_, rfl⟩
      obtain ⟨xn, hxn⟩ : ∃ xn, x.n = xn := ⟨_, rfl⟩
      obtain ⟨nm, hnm⟩ : ∃ nm, x.name = nm := ⟨_, rfl⟩
      obtain ⟨L, hL⟩ : ∃ L, x.args.length = L := ⟨_, rfl⟩
      rw [hop, hxn, hnm, hL] at HCC
      rw [hop] at c0; rw [hxn] at c1; rw [hnm] at c2; rw [hL] at c3
      clear hop hxn hnm hL
      cases hpx : p x with
      | true =>
        have HP := Lib.hid hpx
        clear hpx
        have HI := Lib.hid (any_yes HXI.out HP.out)
        go_wp2_with (go_at_call 59; refine HCC.out.mono ?_; rintro e w' ⟨rfl, hb'⟩; rw [HP.out])
        go_ret
        exact ⟨k, rfl, by rw [HI.out]; simp, HW.out.trans (hb'.mono HW.out.size)⟩
      | false =>
        have HP := Lib.hid hpx
        clear hpx
        have HS := Lib.hid (none_next HX.out HXI.out HP.out)
        go_wp2_with (go_at_call 59; refine HCC.out.mono ?_; rintro e w' ⟨rfl, hb'⟩; rw [HP.out])
        go_roundw
        case rel => exact ⟨k + 1, by go_num, by omega, HW.out.trans (hb'.mono HW.out.size), HS.out⟩
        case measure => simp [intOf]; omega
    · have HI := Lib.hid (any_no (p := p) (show ∀ i x, i < t.args.length → t.args[i]? = some x → p x = false from fun i x hi hx => HX.out i x (by have := HN.out; omega) hx))
      go_wp2
      go_ret
      exact ⟨-1, rfl, by rw [HI.out]; rfl, HW.out⟩
theorem has_deep (d : Nat) (t : Tm) (p : Tm → Bool) (A : Option Addr) (c : Nat) (q : Addr) (w : World) (hl : Lies w w.heap.size (d + 1) t (tmCells t A c))
    (hcl : ∀ (w1 : World) (i : Nat) (x : Tm) (A' : Option Addr) (c' : Nat), Below w.heap.size w w1 → t.args[i]? = some x → Lies w1 w.heap.size d x (tmCells x A' c') → Calls Try.prog 59 #[.agg #[.int .i64 x.op, .int .i64 x.n, .string x.name, .slice A' x.args.length c'], .pointer (some q)] w1 fun e w2 => e = .returned (.bool (p x)) ∧ Below w1.heap.size w1 w2) :
    Calls Try.prog 58 #[.slice A t.args.length c, .func (.func 59) #[] #[.pointer (some q)]] w fun e w' => e = .returned (.bool (t.args.any p)) ∧ Below w.heap.size w w' := by
  have HC := Lib.hid (idx_deep d t p A c q w hl hcl)
  obtain ⟨b, hb⟩ : ∃ b, t.args.any p = b := ⟨_, rfl⟩
  obtain ⟨n, hn⟩ : ∃ n, t.args.length = n := ⟨_, rfl⟩
  rw [hn, hb] at HC
  rw [hn, hb]
  clear hl hcl hn hb
  go_enter Try.func58, Try.ntmps58
  go_wp2_with fail
  refine HC.out.mono ?_
  rintro e w1 ⟨z, rfl, hz, hb1⟩
  go_wp2
  go_ret
  exact ⟨rfl, hb1⟩
set_option maxRecDepth 100000 in
set_option maxHeartbeats 1000000 in
theorem idx_formed (d : Nat) (t : Tm) (p : Tm → Bool) (A : Option Addr) (c : Nat) (w : World) (hl : Lies w w.heap.size (d + 1) t (tmCells t A c))
    (hcl : ∀ (w1 : World) (i : Nat) (x : Tm) (A' : Option Addr) (c' : Nat), Below w.heap.size w w1 → t.args[i]? = some x → Lies w1 w.heap.size d x (tmCells x A' c') → Calls Try.prog 61 #[.agg #[.int .i64 x.op, .int .i64 x.n, .string x.name, .slice A' x.args.length c']] w1 fun e w2 => e = .returned (.bool (p x)) ∧ Below w1.heap.size w1 w2) :
    Calls Try.prog 66 #[.slice A t.args.length c, .func (.func 61) #[] #[]] w (IdxPost (t.args.any p) w) := by
  obtain ⟨n, hn⟩ : ∃ n, t.args.length = n := ⟨_, rfl⟩
  have hbig : n ≤ 9223372036854775807 := by rw [← hn]; exact hl.1.args
  have HL := Lib.hid hl; have HC := Lib.hid hcl; have HN := Lib.hid hn
  rw [hn]
  clear hl hcl hn
  go_enter Try.func66, Try.ntmps66
  go_wp2
  go_loopw [8] (fun iv wr => ∃ k : Nat, iv = .int .i64 k ∧ k ≤ n ∧ Below w.heap.size w wr ∧ NoneTo t p k) (fun iv _ => n - (intOf iv).toNat)
  case atStart => exact ⟨0, rfl, by omega, Below.refl _ _, fun i x h => by omega⟩
  case round =>
    obtain ⟨k, rfl, hk, hbel, hno⟩ := hrel
    have HW := Lib.hid hbel; have HX := Lib.hid hno
    clear hbel hno
    by_cases hlt : k < n
    · obtain ⟨ad, q0, x, A', c', rfl, hp, hpb, hxi, hlx, c0, c1, c2, c3⟩ := (HL.out.below HW.out).part (i := k) (by rw [HN.out]; exact hlt)
      have HXI := Lib.hid hxi; have HLX := Lib.hid hlx
      clear hxi hlx
      have HCC := Lib.hid (HC.out wr k x A' c' HW.out HXI.out HLX.out)
      obtain ⟨op, hop⟩ : ∃ op, x.op = op := ⟨_, rfl⟩
      obtain ⟨xn, hxn⟩ : ∃ xn, x.n = xn := ⟨_, rfl⟩
      obtain ⟨nm, hnm⟩ : ∃ nm, x.name = nm := ⟨_, rfl⟩
      obtain ⟨L, hL⟩ : ∃ L, x.args.length = L := ⟨_, rfl⟩
      rw [hop, hxn, hnm, hL] at HCC
      rw [hop] at c0; rw [hxn] at c1; rw [hnm] at c2; rw [hL] at c3
      clear hop hxn hnm hL
      cases hpx : p x with
      | true =>
        have HP := Lib.hid hpx
        clear hpx
        have HI := Lib.hid (any_yes HXI.out HP.out)
        go_wp2_with (go_at_call 61; refine HCC.out.mono ?_; rintro e w' ⟨rfl, hb'⟩; rw [HP.out])
        go_ret
        exact ⟨k, rfl, by rw [HI.out]; simp, HW.out.trans (hb'.mono HW.out.size)⟩
      | false =>
        have HP := Lib.hid hpx
        clear hpx
        have HS := Lib.hid (none_next HX.out HXI.out HP.out)
        go_wp2_with (go_at_call 61; refine HCC.out.mono ?_; rintro e w' ⟨rfl, hb'⟩; rw [HP.out])
        go_roundw
        case rel => exact ⟨k + 1, by go_num, by omega, HW.out.trans (hb'.mono HW.out.size), HS.out⟩
        case measure => simp [intOf]; omega
    · have HI := Lib.hid (any_no (p := p) (show ∀ i x, i < t.args.length → t.args[i]? = some x → p x = false from fun i x hi hx => HX.out i x (by have := HN.out; omega) hx))
      go_wp2
      go_ret
      exact ⟨-1, rfl, by rw [HI.out]; rfl, HW.out⟩
theorem has_formed (d : Nat) (t : Tm) (p : Tm → Bool) (A : Option Addr) (c : Nat) (w : World) (hl : Lies w w.heap.size (d + 1) t (tmCells t A c))
    (hcl : ∀ (w1 : World) (i : Nat) (x : Tm) (A' : Option Addr) (c' : Nat), Below w.heap.size w w1 → t.args[i]? = some x → Lies w1 w.heap.size d x (tmCells x A' c') → Calls Try.prog 61 #[.agg #[.int .i64 x.op, .int .i64 x.n, .string x.name, .slice A' x.args.length c']] w1 fun e w2 => e = .returned (.bool (p x)) ∧ Below w1.heap.size w1 w2) :
    Calls Try.prog 58 #[.slice A t.args.length c, .func (.func 61) #[] #[]] w fun e w' => e = .returned (.bool (t.args.any p)) ∧ Below w.heap.size w w' := by
  have HC := Lib.hid (idx_formed d t p A c w hl hcl)
  obtain ⟨b, hb⟩ : ∃ b, t.args.any p = b := ⟨_, rfl⟩
  obtain ⟨n, hn⟩ : ∃ n, t.args.length = n := ⟨_, rfl⟩
  rw [hn, hb] at HC
  rw [hn, hb]
  clear hl hcl hn hb
  go_enter Try.func58, Try.ntmps58
  go_wp2_with fail
  refine HC.out.mono ?_
  rintro e w1 ⟨z, rfl, hz, hb1⟩
  go_wp2
  go_ret
  exact ⟨rfl, hb1⟩
end Go.Proofs.Ytnngmpimobolpaa
