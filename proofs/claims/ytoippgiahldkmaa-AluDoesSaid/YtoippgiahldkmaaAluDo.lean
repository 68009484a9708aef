/- Contracts of alu.logic, Set, told, Do and of the reference's Logic, sum, Do: results and flags; the world keeps all that was there. -/
import Derived.Test.YtoippgiahldkmaaAluAdd
import Derived.Test.YtoippgiahldkmaaAluShift2
import Derived.Test.YtoippgiahldkmaaMem
import Derived.RegionTactic
import Derived.Deep.RegionHeld3
import Derived.Outline
namespace Go.Proofs.Ytoippgiahldkmaa
open Go.RowKit Mem
set_option linter.unusedVariables false
set_option maxRecDepth 100000 in
set_option maxHeartbeats 400000 in
theorem alu_Set (r : Int) (n z c v : Bool) (w : World) :
    Calls Try.prog 36 #[.int .u32 r, .agg #[.bool n, .bool z, .bool c, .bool v]] w fun e w' => e = .returned (.agg #[.bool (r / 2147483648 == 1), .bool (r == 0), .bool c, .bool v]) ∧ Below w.heap.size w w' := by
  go_enter Try.func36, Try.ntmps36
  go_wp2
  exact bodyPost_ret (v := .agg #[.bool (r / 2147483648 == 1), .bool (r == 0), .bool c, .bool v]) (by simp [results, Try.results36, go_sem]) rfl ⟨rfl, ((Below.refl _ _).alloc (Nat.le_refl _) _).alloc (by simp) _⟩
theorem alu_told (op : Int) (w : World) :
    Calls Try.prog 37 #[.int .i64 op] w fun e w' => e = .returned (.bool (decide (op < 12))) ∧ w = w' := by
  go_enter Try.func37, Try.ntmps37
  go_wp2
  go_ret
  exact ⟨rfl, rfl⟩
def inv (b : Int) : Int := 4294967295 - b
theorem xor_ones (b : Int) (h0 : 0 ≤ b) (h1 : b < 4294967296) : bits .xor .u32 b 4294967295 = inv b := by
  obtain ⟨b, rfl⟩ := Int.eq_ofNat_of_zero_le h0
  rw [show (4294967295 : Int) = ((4294967295 : Nat) : Int) from rfl, u32_xor_nat b 4294967295 (by omega) (by decide)]
  have e : b ^^^ 4294967295 = 4294967295 - b := by
    refine Nat.eq_of_testBit_eq fun i => ?_
    rw [Nat.testBit_xor, show (4294967295 : Nat) - b = 2 ^ 32 - (b + 1) by omega, Nat.testBit_two_pow_sub_succ (show b < 2 ^ 32 by omega), show (4294967295 : Nat) = 2 ^ 32 - 1 from rfl, Nat.testBit_two_pow_sub_one]
    by_cases h : i < 32
    · simp [h]
    · have : b.testBit i = false := Nat.testBit_lt_two_pow (Nat.lt_of_lt_of_le (show b < 2 ^ 32 by omega) (Nat.pow_le_pow_right (by decide) (by omega)))
      simp [h, this]
  rw [e]; unfold inv; omega
theorem xor_max (b : Int) (h0 : 0 ≤ b) (h1 : b < 4294967296) : bits .xor .u32 IntKind.u32.max b = inv b := by
  rw [← xor_ones b h0 h1]
  show IntKind.u32.wrap ((BitVec.ofInt 32 IntKind.u32.max ^^^ BitVec.ofInt 32 b).toNat : Int) = IntKind.u32.wrap ((BitVec.ofInt 32 b ^^^ BitVec.ofInt 32 4294967295).toNat : Int)
  rw [BitVec.xor_comm]; rfl
def isLogic (op : Int) : Bool := op == 1 || op == 2 || op == 3 || op == 4 || op == 10 || op == 11 || op == 14 || op == 15
def lgc (op a b : Int) : Int :=
  if op = 1 ∨ op = 14 then bits .and .u32 a b else if op = 2 ∨ op = 15 then bits .xor .u32 a b else if op = 3 then bits .or .u32 a b
  else if op = 4 then bits .andNot .u32 a b else if op = 10 then b else inv b
theorem all_ops {op : Int} (h : 1 ≤ op) (h1 : op ≤ 15) : op = 1 ∨ op = 2 ∨ op = 3 ∨ op = 4 ∨ op = 10 ∨ op = 11 ∨ op = 14 ∨ op = 15 ∨ op = 5 ∨ op = 6 ∨ op = 7 ∨ op = 8 ∨ op = 9 ∨ op = 12 ∨ op = 13 := by omega
set_option maxRecDepth 100000 in
set_option maxHeartbeats 400000 in
theorem alu_logic (op a b : Int) (w : World) (ho : 1 ≤ op) (ho' : op ≤ 15) (h0 : 0 ≤ b) (h1 : b < 4294967296) :
    Calls Try.prog 35 #[.int .i64 op, .int .u32 a, .int .u32 b] w fun e w' => e = .returned (.tuple #[.int .u32 (if isLogic op then lgc op a b else 0), .bool (isLogic op)]) ∧ w = w' := by
  have hx := xor_max b h0 h1
  rcases all_ops ho ho' with rfl | rfl | rfl | rfl | rfl | rfl | rfl | rfl | rfl | rfl | rfl | rfl | rfl | rfl | rfl
  all_goals
    go_enter Try.func35, Try.ntmps35
    go_wp2
    go_ret2
    exact ⟨rfl, rfl⟩
/-- A result, its flags, whether it is told. -/
structure Res where
  r : Int
  n : Bool
  z : Bool
  c : Bool
  v : Bool
  t : Bool
def sumA (op a b : Int) : Int := if op = 9 then b else a
def sumB (op a b : Int) : Int := if op = 9 then inv a else if op = 7 ∨ op = 8 ∨ op = 12 then inv b else b
def sumC (op : Int) (c : Bool) : Bool := if op = 5 ∨ op = 13 then false else if op = 6 ∨ op = 8 then c else true
def ofSum (A B : Int) (ci t : Bool) : Res := ⟨addW A B ci, addW A B ci / 2147483648 == 1, addW A B ci == 0, addC A B ci, addV A B ci, t⟩
def ofLogic (r : Int) (c v t : Bool) : Res := ⟨r, r / 2147483648 == 1, r == 0, c, v, t⟩
/-- What an operation does. -/
def doR (op a b : Int) (n z c v : Bool) : Res :=
  if op < 1 ∨ 15 < op then ⟨0, n, z, c, v, false⟩
  else if isLogic op then ofLogic (lgc op a b) c v (decide (op < 12))
  else ofSum (sumA op a b) (sumB op a b) (sumC op c) (decide (op < 12))
def resV (R : Res) : Value := .tuple #[.int .u32 R.r, .agg #[.bool R.n, .bool R.z, .bool R.c, .bool R.v], .bool R.t]
theorem addW_bd (a b : Int) (c : Bool) : 0 ≤ addW a b c ∧ addW a b c < 4294967296 := by unfold addW; omega
theorem inv_bd (b : Int) (h0 : 0 ≤ b) (h1 : b < 4294967296) : 0 ≤ inv b ∧ inv b < 4294967296 := by unfold inv; omega
set_option maxRecDepth 100000 in
set_option maxHeartbeats 1000000 in
theorem do_logic (op a b r : Int) (n z c v : Bool) (w : World) (ho : 1 ≤ op) (ho' : op ≤ 15) (h0 : 0 ≤ b) (h1 : b < 4294967296) (hl : isLogic op = true) (hr : (if isLogic op then lgc op a b else 0) = r) :
    Calls Try.prog 18 #[.int .i64 op, .int .u32 a, .int .u32 b, .agg #[.bool n, .bool z, .bool c, .bool v]] w fun e w' => e = .returned (resV (ofLogic r c v (decide (op < 12)))) ∧ Below w.heap.size w w' := by
  go_enter Try.func18, Try.ntmps18
  go_wp2_with fail
  refine (alu_logic _ _ _ _ ho ho' h0 h1).mono ?_
  rintro e w' ⟨rfl, rfl⟩
  rw [hr, hl]
  clear hr hl
  go_wp2_with fail
  refine (alu_Set r n z c v _).mono ?_
  rintro e w1 ⟨rfl, hb⟩
  have hsz := hb.size
  simp at hsz
  have c0 := hb.cell (p := ⟨w.heap.size + 1, 0, none⟩) (by simp)
  have f0 := hb.frozen (p := ⟨w.heap.size + 1, 0, none⟩) (by simp)
  have c1 := hb.cell (p := ⟨w.heap.size + 1, 1, none⟩) (by simp)
  have f1 := hb.frozen (p := ⟨w.heap.size + 1, 1, none⟩) (by simp)
  have c2 := hb.cell (p := ⟨w.heap.size + 1, 2, none⟩) (by simp)
  have f2 := hb.frozen (p := ⟨w.heap.size + 1, 2, none⟩) (by simp)
  have c3 := hb.cell (p := ⟨w.heap.size + 1, 3, none⟩) (by simp)
  have f3 := hb.frozen (p := ⟨w.heap.size + 1, 3, none⟩) (by simp)
  simp at c0 f0 c1 f1 c2 f2 c3 f3
  go_wp2_with (go_at_call 37; refine (alu_told _ _).mono ?_; rintro e w' ⟨rfl, rfl⟩)
  have hbw : Below w.heap.size w w1 := (((Below.refl _ _).alloc (Nat.le_refl _) _).alloc (by simp) _).trans (hb.mono (by simp; omega))
  refine bodyPost_ret (v := resV (ofLogic r c v (decide (op < 12)))) ?_ rfl ⟨rfl, ?_⟩
  · simp [results, Try.results18, go_sem, resV, ofLogic, c0, c1, c2, c3]
  · exact (((hbw.setCell (by simp) _).setCell (by simp) _).setCell (by simp) _).setCell (by simp) _
end Go.Proofs.Ytoippgiahldkmaa
