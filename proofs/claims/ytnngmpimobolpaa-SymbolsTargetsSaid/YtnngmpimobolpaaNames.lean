/- Slices of texts that read as lists; the place of a text in one. -/
import Derived.Test.YtnngmpimobolpaaProg
import Derived.Test.YtnngmpimobolpaaMem
import Derived.Test.YtnngmpimobolpaaBase
import Derived.WalkLawsBesides
import Derived.Deep.QuietTactic
import Derived.BigQuiet
namespace Go.Proofs.Ytnngmpimobolpaa
open Go.RowKit Mem
set_option linter.unusedVariables false
def nmCells (l : List ByteArray) : List Value := l.map .string
theorem nmCells_len (l : List ByteArray) : (nmCells l).length = l.length := by simp [nmCells]
theorem nmCells_append (a b : List ByteArray) : nmCells (a ++ b) = nmCells a ++ nmCells b := by simp [nmCells]
theorem nmCells_get {l : List ByteArray} {k : Nat} {u : Value} (h : (nmCells l)[k]? = some u) : ∃ z, l[k]? = some z ∧ u = .string z := by
  unfold nmCells at h
  rw [List.getElem?_map] at h
  cases e : l[k]? with
  | none => rw [e] at h; cases h
  | some z => rw [e] at h; exact ⟨z, rfl, by simpa using h.symm⟩
/-- The slice at A of n texts reads as l, and lies below block B. -/
def Nms (w : World) (B : Nat) (A : Option Addr) (n : Nat) (l : List ByteArray) : Prop := Sl w B 1 A n (nmCells l)
section
variable {w w' : World} {B B' n : Nat} {A : Option Addr} {l : List ByteArray}
theorem Nms.len (h : Nms w B A n l) : l.length = n := by have := Sl.len h; rw [nmCells_len] at this; omega
theorem Nms.get {k : Nat} (h : Nms w B A n l) (hk : k < n) : ∃ ad z, A = some ad ∧ ad.block < B ∧ l[k]? = some z ∧ w.cell? (ad.add k) = some (.string z) := by
  obtain ⟨ad, u, e, hb, hx, hc⟩ := Sl.get h hk
  obtain ⟨z, hz, rfl⟩ := nmCells_get hx
  exact ⟨ad, z, e, hb, hz, hc⟩
theorem Nms.below (h : Nms w B A n l) (hb : Below B w w') : Nms w' B A n l := Sl.below h hb
theorem Nms.on (h : Nms w w.heap.size A n l) (hb : Below w.heap.size w w') : Nms w' w'.heap.size A n l := Sl.more (Sl.below h hb) hb.size
theorem Nms.more (h : Nms w B A n l) (hB : B ≤ B') : Nms w B' A n l := Sl.more h hB
theorem Nms.drewN (h : Nms w B A n l) (k : Nat) : Nms (w.drewN k) B A n l := Sl.drewN h k
theorem Nms.of_own {base : Nat} {e : TypeId} {c : Nat} (h : w.ownsRow base e 1 (.slice A n c) n (nmCells l)) : Nms w w.heap.size A n l := Sl.of_own h
theorem Nms.nil : Nms w B A 0 [] := Sl.nil
end
theorem ints_on {w w' : World} {A : Option Addr} {n : Nat} {l : List Int} (h : Ints w w.heap.size A n l) (hb : Below w.heap.size w w') : Ints w' w'.heap.size A n l := (h.below hb).more hb.size
/-- The first place of a text; -1: none. -/
def placeI (l : List ByteArray) (nm : ByteArray) : Int := match l.findIdx? (· == nm) with
  | some i => i
  | none => -1
theorem tl_beq (a b : ByteArray) : (a.toList == b.toList) = (a == b) := by
  rw [ByteArray.toList_eq, ByteArray.toList_eq]
  obtain ⟨⟨x⟩⟩ := a
  obtain ⟨⟨y⟩⟩ := b
  show (x == y) = ((⟨x⟩ : Array UInt8) == ⟨y⟩)
  simp
theorem ba_beq {a b : ByteArray} : (a == b) = true ↔ a = b := by
  rw [← tl_beq]
  constructor
  · exact str_eq
  · rintro rfl; exact beq_self_eq_true _
theorem ba_comm (a b : ByteArray) : (a == b) = (b == a) := by
  rw [Bool.eq_iff_iff, ba_beq, ba_beq]; exact eq_comm
theorem place_hit {l : List ByteArray} {k : Nat} {z nm : ByteArray} (hk : l[k]? = some z) (h : (z == nm) = true) (hno : ∀ j x, j < k → l[j]? = some x → (x == nm) = false) : l.findIdx? (· == nm) = some k := by
  obtain ⟨hl, e⟩ := List.getElem?_eq_some_iff.1 hk
  rw [List.findIdx?_eq_some_iff_getElem]
  refine ⟨hl, by rw [e]; exact h, fun j hj => ?_⟩
  rw [hno j _ hj (List.getElem?_eq_getElem (by omega))]; decide
theorem place_miss {l : List ByteArray} {nm : ByteArray} (hno : ∀ j x, j < l.length → l[j]? = some x → (x == nm) = false) : l.findIdx? (· == nm) = none := by
  rw [List.findIdx?_eq_none_iff]
  intro x hx
  obtain ⟨j, hj, rfl⟩ := List.getElem_of_mem hx
  exact hno j _ hj (List.getElem?_eq_getElem hj)
def NoneAt (l : List ByteArray) (nm : ByteArray) (k : Nat) : Prop := ∀ j x, j < k → l[j]? = some x → (x == nm) = false
theorem noneAt_next {l : List ByteArray} {nm z : ByteArray} {k : Nat} (h : NoneAt l nm k) (hz : l[k]? = some z) (hn : (z == nm) = false) : NoneAt l nm (k + 1) := fun j x hj hx => by
  by_cases e : j = k
  · subst e; rw [hz] at hx; cases hx; exact hn
  · exact h j x (by omega) hx
set_option maxRecDepth 100000 in
set_option maxHeartbeats 1000000 in
theorem str_Index (A : Option Addr) (n c : Nat) (l : List ByteArray) (nm : ByteArray) (w : World) (hl : Nms w w.heap.size A n l) (hn : n ≤ 9223372036854775807) :
    Calls Try.prog 62 #[.slice A n c, .string nm] w fun e w' => e = .returned (.int .i64 (placeI l nm)) ∧ w' = w := by
  obtain ⟨r, hr⟩ : ∃ r, r = placeI l nm := ⟨_, rfl⟩
  rw [← hr]
  have HR := Lib.hid hr; have HL := Lib.hid hl; have HN := Lib.hid hl.len
  clear hr hl
  go_enter Try.func62, Try.ntmps62
  go_wp2
  go_loop [8] (fun iv => ∃ k : Nat, iv = .int .i64 k ∧ k ≤ n ∧ NoneAt l nm k) (fun iv => n - (intOf iv).toNat)
  case atStart => exact ⟨0, rfl, by omega, fun j x h => by omega⟩
  case round =>
    obtain ⟨k, rfl, hk, hno⟩ := hrel
    have HX := Lib.hid hno
    clear hno
    by_cases hlt : k < n
    · obtain ⟨ad, z, rfl, hb, hz, hc⟩ := HL.out.get hlt
      have HZ := Lib.hid hz
      clear hz
      cases he : (nm.toList == z.toList) with
      | true =>
        have HI := Lib.hid (place_hit HZ.out (by rw [ba_comm, ← tl_beq]; exact he) HX.out)
        go_wp2
        go_ret
        exact ⟨ret_int (by rw [HR.out]; unfold placeI; rw [HI.out]), rfl⟩
      | false =>
        have HI := Lib.hid (noneAt_next HX.out HZ.out (by rw [ba_comm, ← tl_beq]; exact he))
        go_wp2
        go_round
        case rel => exact ⟨k + 1, by go_num, by omega, HI.out⟩
        case measure => simp [intOf]; omega
    · have HI := Lib.hid (place_miss (l := l) (nm := nm) (fun j x hj hx => HX.out j x (by have := HN.out; omega) hx))
      go_wp2
      go_ret
      exact ⟨ret_int (by rw [HR.out]; unfold placeI; rw [HI.out]), rfl⟩
end Go.Proofs.Ytnngmpimobolpaa
