/- Contracts of regs.Name and of its reference: a register's name. -/
import Derived.Test.YtnngmpimobolpaaProg
import Derived.Test.YtnngmpimobolpaaBits64
import Derived.Test.YtnngmpimobolpaaBase
import Derived.Test.YtnngmpimobolpaaMem
import Derived.WalkLawsBesides
import Derived.Deep.QuietTactic
import Derived.BigQuiet
import Derived.Deep.LoopGhost
import Derived.Outline
import Derived.Lib.SlicesS
namespace Go.Proofs.Ytnngmpimobolpaa
open Go.RowKit Mem
set_option linter.unusedVariables false
/-- The registers' names, and three more. -/
def rnms : List ByteArray := [⟨#[114, 48]⟩, ⟨#[114, 49]⟩, ⟨#[114, 50]⟩, ⟨#[114, 51]⟩, ⟨#[114, 52]⟩, ⟨#[114, 53]⟩, ⟨#[114, 54]⟩, ⟨#[114, 55]⟩, ⟨#[114, 56]⟩, ⟨#[114, 57]⟩, ⟨#[114, 49, 48]⟩, ⟨#[114, 49, 49]⟩, ⟨#[114, 49, 50]⟩, ⟨#[115, 112]⟩, ⟨#[108, 114]⟩, ⟨#[112, 99]⟩, ⟨#[114, 49, 51]⟩, ⟨#[114, 49, 52]⟩, ⟨#[114, 49, 53]⟩]
def rnm (k : Nat) : ByteArray := rnms.getD k ByteArray.empty
def regName (r : Int) : ByteArray := if r < 0 ∨ 15 < r then ⟨#[]⟩ else rnm r.toNat
theorem regName_none {r : Int} (h : r < 0 ∨ 15 < r) : regName r = ⟨#[]⟩ := if_pos h
theorem regName_nat {k : Nat} (h : k ≤ 15) : regName (k : Int) = rnm k := by unfold regName; rw [if_neg (by omega)]; simp
theorem all_regs {k : Int} (h0 : 0 ≤ k) (h1 : k ≤ 15) : k = 0 ∨ k = 1 ∨ k = 2 ∨ k = 3 ∨ k = 4 ∨ k = 5 ∨ k = 6 ∨ k = 7 ∨ k = 8 ∨ k = 9 ∨ k = 10 ∨ k = 11 ∨ k = 12 ∨ k = 13 ∨ k = 14 ∨ k = 15 := by omega
def rnamesObj : Obj := .cells (rnms.map Value.string).toArray 9
theorem rnames_cell (w : World) (k : Nat) (hk : k < 19) : (w.alloc rnamesObj).cell? ⟨w.heap.size, k, none⟩ = some (.string (rnm k)) := by
  unfold rnamesObj
  rw [Mem.new_cell]
  rw [List.getElem?_toArray, List.getElem?_map, rnm, List.getD_eq_getElem?_getD, List.getElem?_eq_getElem (show k < rnms.length from hk)]
  rfl
theorem ref05_names (w : World) : Calls Try.prog 35 #[] w
    fun e w' => e = .returned (.slice (some ⟨w.heap.size, 0, none⟩) 19 19) ∧ w' = w.alloc rnamesObj := by
  go_enter Try.func35, Try.ntmps35
  go_wp2
  go_ret
  exact ⟨rfl, rfl⟩
theorem ref05_Name (c : Int) (w : World) (hk : -9223372036854775808 ≤ c) (hk' : c ≤ 9223372036854775807) :
    Calls Try.prog 13 #[.int .i64 c] w fun e w' => e = .returned (.string (regName c)) ∧ Below w.heap.size w w' := by
  by_cases h1 : c < 0
  · go_enter Try.func13, Try.ntmps13
    go_wp2
    go_ret
    exact ⟨ret_str (by rw [regName_none (.inl h1)]), Below.refl _ _⟩
  by_cases h2 : 15 < c
  · go_enter Try.func13, Try.ntmps13
    go_wp2
    go_ret
    exact ⟨ret_str (by rw [regName_none (.inr h2)]), Below.refl _ _⟩
  obtain ⟨k, rfl⟩ := Int.eq_ofNat_of_zero_le (show 0 ≤ c by omega)
  have hk : k < 19 := by omega
  have hc := rnames_cell w k hk
  have HN := Lib.hid (regName_nat (k := k) (by omega))
  go_enter Try.func13, Try.ntmps13
  go_wp2_with (go_at_call 35; refine (ref05_names _).mono ?_; rintro e w' ⟨rfl, rfl⟩)
  go_ret
  exact ⟨ret_str (by rw [HN.out]), (Below.refl _ _).alloc (Nat.le_refl _) _⟩
set_option maxRecDepth 100000 in
set_option maxHeartbeats 2000000 in
theorem regs_Name (c : Int) (w : World) (hk : -9223372036854775808 ≤ c) (hk' : c ≤ 9223372036854775807) :
    Calls Try.prog 12 #[.int .i64 c] w fun e w' => e = .returned (.string (regName c)) ∧ Below w.heap.size w w' := by
  by_cases h1 : c < 0
  · go_enter Try.func12, Try.ntmps12
    go_wp2
    go_ret
    exact ⟨ret_str (by rw [regName_none (.inl h1)]), Below.refl _ _⟩
  by_cases h2 : 15 < c
  · go_enter Try.func12, Try.ntmps12
    go_wp2
    go_ret
    exact ⟨ret_str (by rw [regName_none (.inr h2)]), Below.refl _ _⟩
  rcases all_regs (k := c) (by omega) (by omega) with rfl | rfl | rfl | rfl | rfl | rfl | rfl | rfl | rfl | rfl | rfl | rfl | rfl | rfl | rfl | rfl
  all_goals
    clear h1 h2 hk hk'
    go_enter Try.func12, Try.ntmps12
    go_wp2
    go_ret
    refine ⟨ret_str ?_, ?_⟩
    · decide
    · first | exact Below.refl _ _ | exact (Below.refl _ _).alloc (Nat.le_refl _) _
end Go.Proofs.Ytnngmpimobolpaa
