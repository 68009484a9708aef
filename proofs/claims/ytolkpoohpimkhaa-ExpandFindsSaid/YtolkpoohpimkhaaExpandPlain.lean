/- The plain law of layer 2: numbers of twelve bits, without a program in sight. -/
import Derived.Test.YtolkpoohpimkhaaNum
namespace Go.Proofs.Ytolkpoohpimkhaa
namespace Num
set_option linter.unusedVariables false
/-- What twelve bits tell. -/
def expand (imm : Int) : Int :=
  if imm / 256 % 16 = 0 then imm % 256
  else if imm / 256 % 16 = 1 then imm % 256 * 65537
  else if imm / 256 % 16 = 2 then imm % 256 * 16777472
  else if imm / 256 % 16 = 3 then imm % 256 * 16843009
  else ror (imm % 128 + 128) (imm / 128 % 32)
def valid (imm : Int) : Bool := decide (0 ≤ imm) && decide (imm < 4096) && (decide (imm / 256 = 0) || decide (3 < imm / 256) || decide (imm % 256 ≠ 0))
def hits (x : Int) (i : Int) : Bool := valid i && decide (expand i = x)
/-- The least from i on, of at most n. -/
def findFrom (x : Int) : Nat → Nat → Option Nat
  | _, 0 => none
  | i, n + 1 => if hits x i then some i else findFrom x (i + 1) n
def find (x : Int) : Option Nat := findFrom x 0 4096
theorem findFrom_some (x : Int) (n : Nat) : ∀ (i k : Nat), findFrom x i n = some k → i ≤ k ∧ k < i + n ∧ hits x k = true ∧ ∀ j : Nat, i ≤ j → j < k → hits x j = false := by
  induction n with
  | zero => intro i k h; simp [findFrom] at h
  | succ n ih =>
    intro i k h
    unfold findFrom at h
    by_cases hh : hits x i = true
    · rw [if_pos hh] at h
      obtain rfl : i = k := by simpa using h
      exact ⟨Nat.le_refl _, by omega, hh, fun j h1 h2 => by omega⟩
    · rw [if_neg hh] at h
      obtain ⟨a, b, c, d⟩ := ih (i + 1) k h
      refine ⟨by omega, by omega, c, fun j h1 h2 => ?_⟩
      by_cases e : j = i
      · subst e; simpa using hh
      · exact d j (by omega) h2
theorem findFrom_none (x : Int) (n : Nat) : ∀ (i : Nat), findFrom x i n = none → ∀ j : Nat, i ≤ j → j < i + n → hits x j = false := by
  induction n with
  | zero => intro i h j h1 h2; omega
  | succ n ih =>
    intro i h j h1 h2
    unfold findFrom at h
    by_cases hh : hits x i = true
    · rw [if_pos hh] at h; cases h
    · rw [if_neg hh] at h
      by_cases e : j = i
      · subst e; simpa using hh
      · exact ih (i + 1) h j (by omega) (by omega)
theorem find_some {x : Int} {k : Nat} (h : find x = some k) : k < 4096 ∧ hits x k = true ∧ ∀ j : Nat, j < k → hits x j = false := by
  obtain ⟨a, b, c, d⟩ := findFrom_some x 4096 0 k h
  exact ⟨by omega, c, fun j hj => d j (by omega) hj⟩
theorem find_none {x : Int} (h : find x = none) : ∀ j : Nat, j < 4096 → hits x j = false := fun j hj => findFrom_none x 4096 0 h j (by omega) (by omega)
theorem find_of {x : Int} {k : Nat} (h : hits x k = true) (hk : k < 4096) (hl : ∀ j : Nat, j < k → hits x j = false) : find x = some k := by
  cases e : find x with
  | none => have := find_none e k hk; rw [h] at this; cases this
  | some m =>
    obtain ⟨a, b, c⟩ := find_some e
    by_cases h1 : m < k
    · have := hl m h1; rw [b] at this; cases this
    · by_cases h2 : k < m
      · have := c k h2; rw [h] at this; cases this
      · rw [show m = k by omega]
theorem valid_lt {i : Int} (h : valid i = true) : 0 ≤ i ∧ i < 4096 := by
  unfold valid at h; simp at h; omega
theorem expand_bd (i : Int) : 0 ≤ expand i ∧ expand i < 4294967296 := by
  unfold expand
  split; · omega
  split; · omega
  split; · omega
  split; · omega
  exact turn_bd _ _ (by omega) (by omega) (by omega)
theorem find_examples : find 4278255360 = some 767 ∧ find 305419896 = none := by decide +kernel
/-- A byte tells itself. -/
theorem find_byte (b : Nat) (hb : b < 256) : find b = some b ∧ expand b = b := by
  have he : ∀ j : Nat, j < 256 → expand j = j := by
    intro j hj; unfold expand; rw [if_pos (by omega)]; omega
  have hv : ∀ j : Nat, j < 256 → valid j = true := by
    intro j hj; unfold valid; simp; omega
  refine ⟨find_of (by unfold hits; rw [hv b hb, he b hb]; simp) (by omega) fun j hj => ?_, he b hb⟩
  unfold hits; rw [he j (by omega)]; simp; intro _; omega
/-- Where there is one that tells it, the least is found. -/
theorem find_back (i : Nat) (hi : valid i = true) : ∃ n : Nat, find (expand i) = some n ∧ n ≤ i ∧ valid n = true ∧ expand n = expand i := by
  have hh : hits (expand i) i = true := by unfold hits; rw [hi]; simp
  have hl := (valid_lt hi).2
  cases e : find (expand i) with
  | none => have := find_none e i (by omega); rw [hh] at this; cases this
  | some n =>
    obtain ⟨a, b, c⟩ := find_some e
    refine ⟨n, rfl, ?_, ?_⟩
    · by_cases h1 : i < n
      · have := c i h1; rw [hh] at this; cases this
      · omega
    · unfold hits at b; simpa using b
/-! ### Which numbers are told -/
/-- The word without its lowest zeros. -/
def strip : Nat → Nat → Nat
  | 0, y => y
  | n + 1, y => if y = 0 ∨ y % 2 = 1 then y else strip n (y / 2)
def same (x : Nat) : Bool := decide (x = x % 256 * 16843009) || decide (x = x % 256 * 65537) || decide (x = x / 256 % 256 * 16777472)
def few (i : Nat) : Bool := !valid i || decide (strip 32 (expand i).toNat ≤ 255) || same (expand i).toNat
def all (f : Nat → Bool) : Nat → Bool
  | 0 => true
  | n + 1 => f n && all f n
theorem all_at (f : Nat → Bool) : ∀ n, all f n = true → ∀ i, i < n → f i = true
  | 0, _, i, hi => by omega
  | n + 1, h, i, hi => by
    simp only [all, Bool.and_eq_true] at h
    by_cases e : i = n
    · subst e; exact h.1
    · exact all_at f n h.2 i (by omega)
theorem few_all : all few 4096 = true := by decide +kernel
/-- Eight bits anywhere: which twelve bits tell them. -/
def tells (v : Nat) : Nat := if v < 256 then v else (39 - v.log2) * 128 + (v / 2 ^ (v.log2 - 7) - 128)
def told (y t : Nat) : Bool := decide (4294967296 ≤ y * 2 ^ t) || (decide (tells (y * 2 ^ t) < 4096) && hits ((y * 2 ^ t : Nat) : Int) (tells (y * 2 ^ t)))
theorem told_all : all (fun y => all (told y) 32) 256 = true := by decide +kernel
theorem strip_form (n : Nat) : ∀ y : Nat, ∃ t : Nat, t ≤ n ∧ y = strip n y * 2 ^ t := by
  induction n with
  | zero => intro y; exact ⟨0, by omega, by simp [strip]⟩
  | succ n ih =>
    intro y
    unfold strip
    by_cases h : y = 0 ∨ y % 2 = 1
    · rw [if_pos h]; exact ⟨0, by omega, by simp⟩
    · rw [if_neg h]
      obtain ⟨t, ht, e⟩ := ih (y / 2)
      refine ⟨t + 1, by omega, ?_⟩
      rw [Nat.pow_succ, ← Nat.mul_assoc, ← e]; omega
/-- A number is found just where it has few bits, or repeats a byte. -/
theorem find_few (x : Nat) (hx : x < 4294967296) : (find x).isSome = (decide (strip 32 x ≤ 255) || same x) := by
  cases e : find x with
  | some k =>
    obtain ⟨a, b, c⟩ := find_some e
    have := all_at few 4096 few_all k a
    unfold hits at b
    simp only [Bool.and_eq_true, decide_eq_true_eq] at b
    unfold few at this
    rw [b.1, b.2] at this
    simp only [Int.toNat_natCast] at this
    simpa using this.symm
  | none =>
    have hn := find_none e
    symm
    simp only [Option.isSome_none, Bool.or_eq_false_iff, decide_eq_false_iff_not]
    constructor
    · intro h
      obtain ⟨t, ht, ex⟩ := strip_form 32 x
      generalize strip 32 x = y at *
      by_cases h32 : t = 32
      · subst h32
        have : y = 0 := by omega
        subst this
        have := hn 0 (by omega)
        subst ex
        revert this; decide +kernel
      · have h1 := all_at (told y) 32 (all_at (fun y => all (told y) 32) 256 told_all y (by omega)) t (by omega)
        unfold told at h1
        rw [← ex] at h1
        simp only [Bool.or_eq_true, Bool.and_eq_true, decide_eq_true_eq] at h1
        rcases h1 with h1 | ⟨h1, h2⟩
        · omega
        · have := hn _ h1; rw [h2] at this; cases this
    · have key : ∀ j : Nat, j < 4096 → valid j = true → expand j = x → False := by
        intro j hj hv he
        have := hn j hj
        unfold hits at this; rw [hv, he] at this; simp at this
      cases hs : same x with
      | false => rfl
      | true =>
        exfalso
        unfold same at hs
        simp only [Bool.or_eq_true, decide_eq_true_eq] at hs
        by_cases hx0 : x = 0
        · exact key 0 (by omega) (by decide) (by subst hx0; decide)
        · rcases hs with (hs | hs) | hs
          · refine key (768 + x % 256) (by omega) ?_ ?_
            · unfold valid; simp; omega
            · unfold expand; rw [if_neg (by omega), if_neg (by omega), if_neg (by omega), if_pos (by omega)]; omega
          · refine key (256 + x % 256) (by omega) ?_ ?_
            · unfold valid; simp; omega
            · unfold expand; rw [if_neg (by omega), if_pos (by omega)]; omega
          · refine key (512 + x / 256 % 256) (by omega) ?_ ?_
            · unfold valid; simp; omega
            · unfold expand; rw [if_neg (by omega), if_neg (by omega), if_pos (by omega)]; omega
end Num
end Go.Proofs.Ytolkpoohpimkhaa
