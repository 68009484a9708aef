/- Terms in plain words: their form, how deep they are, their values. -/
import Derived.Test.YtnngmpimobolpaaTerm
import Derived.Test.YtnngmpimobolpaaLexName
import Derived.Laws.BitsAllLaws
namespace Go.Proofs.Ytnngmpimobolpaa
open Go.RowKit Mem
set_option linter.unusedVariables false
/-- Whether a term has just the fields of its op. -/
def formV (op n : Int) (nm : ByteArray) (L : Nat) : Bool :=
  if op = 1 then decide (L = 0 ∧ nm.size = 0 ∧ 0 ≤ n ∧ n < 4294967296)
  else if op = 2 then decide (L = 0 ∧ n = 0) && nameB nm.data.toList
  else if op = 3 ∨ op = 4 then decide (L = 1 ∧ n = 0 ∧ nm.size = 0)
  else decide (5 ≤ op ∧ op ≤ 11 ∧ L = 2 ∧ n = 0 ∧ nm.size = 0)
def formB (t : Tm) : Bool := formV t.op t.n t.name t.args.length
/-- Whether a term is deeper than some. -/
def deepF : Nat → Tm → Bool
  | 0, _ => true
  | m + 1, t => t.args.any (deepF m)
/-- Whether all parts are of their form. -/
def formedF : Nat → Tm → Bool
  | 0, _ => false
  | d + 1, t => formB t && t.args.all (formedF d)
def u32 (z : Int) : Int := z % 4294967296
/-- The value of a name: the first place has it; a name without a value has 0. -/
def refV (names : List ByteArray) (vals : List Int) (nm : ByteArray) : Option Int :=
  match names.findIdx? (· == nm) with
  | none => none
  | some i => some (u32 (vals.getD i 0))
def unV (op x : Int) : Int := if op = 3 then u32 (-x) else 4294967295 - x
def binV (op x y : Int) : Int :=
  if op = 5 then u32 (x + y) else if op = 6 then u32 (x - y) else if op = 7 then u32 (x * y) else if op = 8 then bits .and .u32 x y else if op = 9 then bits .or .u32 x y
  else if op = 10 then u32 (x * 2 ^ min y.toNat 32) else x / 2 ^ min y.toNat 32
def binO (op : Int) (o1 o2 : Option Int) : Option Int := match o1 with
  | none => none
  | some x => o2.map (binV op x)
/-- A term's value; none: a name is not there. -/
def valF (names : List ByteArray) (vals : List Int) : Nat → Tm → Option Int
  | 0, _ => none
  | d + 1, t => match t.args with
    | [] => if t.op = 1 then some (u32 t.n) else refV names vals t.name
    | [a] => (valF names vals d a).map (unV t.op)
    | a :: b :: _ => binO t.op (valF names vals d a) (valF names vals d b)
/-- What Eval gives: the value, the error's number. -/
def evalR (d : Nat) (t : Tm) (names : List ByteArray) (vals : List Int) : Int × Int :=
  if deepF 16 t = true then (0, 11) else if formedF d t = false then (0, 3) else match valF names vals d t with
    | none => (0, 4)
    | some v => (v, 0)
theorem form_num {t : Tm} (h : t.op = 1) : formB t = decide (t.args.length = 0 ∧ t.name.size = 0 ∧ 0 ≤ t.n ∧ t.n < 4294967296) := by unfold formB formV; rw [if_pos h]
theorem form_ref {t : Tm} (h : t.op = 2) : formB t = (decide (t.args.length = 0 ∧ t.n = 0) && nameB t.name.data.toList) := by unfold formB formV; rw [if_neg (by omega), if_pos h]
theorem form_un {t : Tm} (h : t.op = 3 ∨ t.op = 4) : formB t = decide (t.args.length = 1 ∧ t.n = 0 ∧ t.name.size = 0) := by unfold formB formV; rw [if_neg (by omega), if_neg (by omega), if_pos h]
theorem form_bin {t : Tm} (h : ¬ (1 ≤ t.op ∧ t.op ≤ 4)) : formB t = decide (5 ≤ t.op ∧ t.op ≤ 11 ∧ t.args.length = 2 ∧ t.n = 0 ∧ t.name.size = 0) := by unfold formB formV; rw [if_neg (by omega), if_neg (by omega), if_neg (by omega)]
theorem emp_iff (s : ByteArray) : s.toList.isEmpty = decide (s.size = 0) := by
  rw [ByteArray.toList_eq, Bool.eq_iff_iff, decide_eq_true_eq, List.isEmpty_iff]
  constructor
  · intro h
    have := congrArg List.length h
    simpa using this
  · intro h
    exact List.eq_nil_of_length_eq_zero (by simpa using h)
theorem formed_part {d : Nat} {t : Tm} (h : formedF (d + 1) t = true) : formB t = true ∧ ∀ x ∈ t.args, formedF d x = true := by
  unfold formedF at h
  rw [Bool.and_eq_true] at h
  exact ⟨h.1, fun x hx => List.all_eq_true.1 h.2 x hx⟩
theorem form_args {t : Tm} (h : formB t = true) : (t.args.length = 0 ∧ t.op = 1) ∨ (t.args.length = 0 ∧ t.op = 2) ∨ (t.args.length = 1 ∧ (t.op = 3 ∨ t.op = 4)) ∨ (t.args.length = 2 ∧ 5 ≤ t.op ∧ t.op ≤ 11) := by
  by_cases h1 : t.op = 1
  · rw [form_num h1] at h; simp only [decide_eq_true_eq] at h; exact .inl ⟨h.1, h1⟩
  · by_cases h2 : t.op = 2
    · rw [form_ref h2, Bool.and_eq_true] at h; simp only [decide_eq_true_eq] at h; exact .inr (.inl ⟨h.1.1, h2⟩)
    · by_cases h3 : t.op = 3 ∨ t.op = 4
      · rw [form_un h3] at h; simp only [decide_eq_true_eq] at h; exact .inr (.inr (.inl ⟨h.1, h3⟩))
      · rw [form_bin (by omega)] at h; simp only [decide_eq_true_eq] at h; exact .inr (.inr (.inr ⟨h.2.2.1, h.1, h.2.1⟩))
theorem u32_bd (z : Int) : 0 ≤ u32 z ∧ u32 z < 4294967296 := by unfold u32; omega
theorem xor_ones (b : Int) (h0 : 0 ≤ b) (h1 : b < 4294967296) : bits .xor .u32 b 4294967295 = 4294967295 - b := by
  obtain ⟨b, rfl⟩ := Int.eq_ofNat_of_zero_le h0
  rw [show (4294967295 : Int) = ((4294967295 : Nat) : Int) from rfl, u32_xor_nat b 4294967295 (by omega) (by decide)]
  have e : b ^^^ 4294967295 = 4294967295 - b := by
    refine Nat.eq_of_testBit_eq fun i => ?_
    rw [Nat.testBit_xor, show (4294967295 : Nat) - b = 2 ^ 32 - (b + 1) by omega, Nat.testBit_two_pow_sub_succ (show b < 2 ^ 32 by omega), show (4294967295 : Nat) = 2 ^ 32 - 1 from rfl, Nat.testBit_two_pow_sub_one]
    by_cases h : i < 32
    · simp [h]
    · have : b.testBit i = false := Nat.testBit_lt_two_pow (Nat.lt_of_lt_of_le (show b < 2 ^ 32 by omega) (Nat.pow_le_pow_right (by decide) (by omega)))
      simp [h, this]
  rw [e]; omega
theorem xor_max (b : Int) (h0 : 0 ≤ b) (h1 : b < 4294967296) : bits .xor .u32 IntKind.u32.max b = 4294967295 - b := by
  rw [← xor_ones b h0 h1]
  show IntKind.u32.wrap ((BitVec.ofInt 32 IntKind.u32.max ^^^ BitVec.ofInt 32 b).toNat : Int) = IntKind.u32.wrap ((BitVec.ofInt 32 b ^^^ BitVec.ofInt 32 4294967295).toNat : Int)
  rw [BitVec.xor_comm]; rfl
def In32 (x : Int) : Prop := 0 ≤ x ∧ x < 4294967296
theorem un_bd {op x : Int} (h : In32 x) : In32 (unV op x) := by
  unfold unV
  split
  · exact u32_bd _
  · exact ⟨by have := h.2; omega, by have := h.1; omega⟩
theorem bin_bd {op x y : Int} (hx : In32 x) (hy : In32 y) : In32 (binV op x y) := by
  unfold binV
  split
  · exact u32_bd _
  split
  · exact u32_bd _
  split
  · exact u32_bd _
  split
  · rw [u32_and x y hx.1 hx.2 hy.1 hy.2]
    have h : x.toNat &&& y.toNat ≤ x.toNat := Nat.and_le_left
    have := hx.1; have := hx.2
    exact ⟨by omega, by omega⟩
  split
  · rw [u32_or x y hx.1 hx.2 hy.1 hy.2]
    have h : x.toNat ||| y.toNat < 2 ^ 32 := Nat.or_lt_two_pow (by have := hx.2; have := hx.1; omega) (by have := hy.2; have := hy.1; omega)
    exact ⟨by omega, by omega⟩
  split
  · exact u32_bd _
  · have hp : (0 : Int) < 2 ^ min y.toNat 32 := Int.pow_pos (by decide)
    exact ⟨Int.ediv_nonneg hx.1 (Int.le_of_lt hp), Int.lt_of_le_of_lt (Int.ediv_le_self _ hx.1) hx.2⟩
theorem ref_bd {names : List ByteArray} {vals : List Int} {nm : ByteArray} {v : Int} (h : refV names vals nm = some v) : In32 v := by
  unfold refV at h
  split at h
  · cases h
  · cases h; exact u32_bd _
theorem val_bd {names : List ByteArray} {vals : List Int} : ∀ {d : Nat} {t : Tm} {v : Int}, valF names vals d t = some v → In32 v
  | d + 1, t, v, h => by
    unfold valF at h
    split at h
    · split at h
      · cases h; exact u32_bd _
      · exact ref_bd h
    · rename_i a _
      cases ha : valF names vals d a with
      | none => rw [ha] at h; cases h
      | some x => rw [ha] at h; cases h; exact un_bd (val_bd ha)
    · rename_i a b r _
      cases ha : valF names vals d a with
      | none => rw [ha] at h; cases h
      | some x =>
        cases hb : valF names vals d b with
        | none => rw [ha, hb] at h; cases h
        | some y => rw [ha, hb] at h; cases h; exact bin_bd (val_bd ha) (val_bd hb)
end Go.Proofs.Ytnngmpimobolpaa
