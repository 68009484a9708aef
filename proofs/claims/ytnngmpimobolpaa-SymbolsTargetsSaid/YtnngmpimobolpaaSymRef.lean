/- Contracts of the reference of layer 20: in, Texts, Target; of symbols.Target. -/
import Derived.Test.YtnngmpimobolpaaSymPlain
import Derived.Test.YtnngmpimobolpaaBigCells
import Derived.Test.YtnngmpimobolpaaNames
import Derived.Deep.QuietTactic
import Derived.BigQuiet
namespace Go.Proofs.Ytnngmpimobolpaa
open Go.RowKit Mem
set_option linter.unusedVariables false
theorem has_take {l : List ByteArray} {k : Nat} {z s : ByteArray} (hz : l[k]? = some z) (h : hasB s (l.take k) = false) (hn : (z == s) = false) : hasB s (l.take (k + 1)) = false := by
  rw [List.take_add_one, hz]
  show hasB s (l.take k ++ [z]) = false
  rw [hasB_app, h, hn]; rfl
theorem has_hit {l : List ByteArray} {k : Nat} {z s : ByteArray} (hz : l[k]? = some z) (h : (z == s) = true) : hasB s l = true := by
  rw [hasB_iff]
  have := ba_beq.1 h
  subst this
  exact List.mem_of_getElem? hz
set_option maxRecDepth 100000 in
set_option maxHeartbeats 1000000 in
theorem ref_in (s : ByteArray) (A : Option Addr) (n c : Nat) (l : List ByteArray) (w : World) (hl : Nms w w.heap.size A n l) (hn : n ≤ 9223372036854775807) :
    Calls Try.prog 41 #[.string s, .slice A n c] w fun e w' => e = .returned (.bool (hasB s l)) ∧ w = w' := by
  obtain ⟨r, hr⟩ : ∃ r, r = hasB s l := ⟨_, rfl⟩
  rw [← hr]
  have HR := Lib.hid hr; have HL := Lib.hid hl; have HN := Lib.hid hl.len
  clear hr hl
  go_enter Try.func41, Try.ntmps41
  go_wp2
  go_loop [5] (fun iv => ∃ k : Nat, iv = .int .i64 k ∧ k ≤ n ∧ hasB s (l.take k) = false) (fun iv => n - (intOf iv).toNat)
  case atStart => exact ⟨0, rfl, by omega, rfl⟩
  case round =>
    obtain ⟨k, rfl, hk, hno⟩ := hrel
    have HX := Lib.hid hno
    clear hno
    by_cases hlt : k < n
    · obtain ⟨ad, z, rfl, hb, hz, hc⟩ := HL.out.get hlt
      have HZ := Lib.hid hz
      clear hz
      cases he : (z.toList == s.toList) with
      | true =>
        have HI := Lib.hid (has_hit HZ.out (by rw [← tl_beq]; exact he))
        go_wp2
        go_ret
        exact ⟨ret_bool (by rw [HR.out, HI.out]), rfl⟩
      | false =>
        have HI := Lib.hid (has_take HZ.out HX.out (by rw [← tl_beq]; exact he))
        go_wp2
        go_round
        case rel => exact ⟨k + 1, by go_num, by omega, HI.out⟩
        case measure => simp [intOf]; omega
    · have HI := Lib.hid (show r = false by rw [HR.out, ← HX.out, List.take_of_length_le (by have := HN.out; omega)])
      go_wp2
      go_ret
      exact ⟨ret_bool HI.out.symm, rfl⟩
theorem pre_step {a b : List ByteArray} {k : Nat} {x y : ByteArray} (hx : a[k]? = some x) (hy : b[k]? = some y) (h : a.take k = b.take k) (he : (x == y) = true) : a.take (k + 1) = b.take (k + 1) := by
  rw [List.take_add_one, List.take_add_one, hx, hy, h, ba_beq.1 he]
theorem pre_no {a b : List ByteArray} {k : Nat} {x y : ByteArray} (hx : a[k]? = some x) (hy : b[k]? = some y) (he : (x == y) = false) : a ≠ b := fun e => by
  subst e
  rw [hx] at hy; cases hy
  rw [ba_self] at he; cases he
def sameB (a b : List ByteArray) : Prop := a = b
set_option maxRecDepth 100000 in
set_option maxHeartbeats 1000000 in
/-- Texts at equal lists. -/
theorem ref_Texts (A A2 : Option Addr) (n c n2 c2 : Nat) (l : List ByteArray) (w : World) (hl : Nms w w.heap.size A n l) (hl2 : Nms w w.heap.size A2 n2 l) (hn : n ≤ 9223372036854775807) :
    Calls Try.prog 30 #[.slice A n c, .slice A2 n2 c2] w fun e w' => e = .returned (.bool true) ∧ Below w.heap.size w w' := by
  obtain rfl : n = n2 := hl.len.symm.trans hl2.len
  have HL := Lib.hid hl; have HL2 := Lib.hid hl2
  clear hl hl2
  go_enter Try.func30, Try.ntmps30
  go_wp2
  go_loopw [5] (fun iv wr => ∃ k : Nat, iv = .int .i64 k ∧ k ≤ n ∧ Below w.heap.size w wr) (fun iv _ => n - (intOf iv).toNat)
  case atStart => exact ⟨0, rfl, by omega, Below.refl _ _⟩
  case round =>
    obtain ⟨k, rfl, hk, hbel⟩ := hrel
    have HW := Lib.hid hbel
    clear hbel
    by_cases hlt : k < n
    · obtain ⟨ad, z, rfl, hb, hz, hc⟩ := (HL.out.below HW.out).get hlt
      obtain ⟨ad2, z2, rfl, hb2, hz2, hc2⟩ := (HL2.out.below HW.out).get hlt
      obtain rfl : z = z2 := by rw [hz] at hz2; exact Option.some.inj hz2
      clear hz hz2
      have he : (z.toList != z.toList) = false := by simp
      go_wp2
      go_quiet (fail)
      go_wp2
      go_roundw
      case rel => exact ⟨k + 1, by go_num, by omega, below_drewN HW.out _⟩
      case measure => simp [intOf]; omega
    · go_wp2
      go_ret
      exact ⟨rfl, HW.out⟩
end Go.Proofs.Ytnngmpimobolpaa
