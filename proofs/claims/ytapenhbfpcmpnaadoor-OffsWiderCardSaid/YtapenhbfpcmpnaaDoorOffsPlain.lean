/- The plain law of offsets in pieces (layer 3), without a program in sight. -/
import Derived.Test.YtapenhbfpcmpnaaDoorNum
import Derived.Test.YtapenhbfpcmpnaaDoorFieldPlain
namespace Go.Proofs.YtapenhbfpcmpnaaDoor
namespace Num
open Go.RowKit
set_option linter.unusedVariables false
def lowK (k : Int) : Int := if k = 1 then -256 else if k = 2 then -2048 else if k = 3 then -1048576 else if k = 4 then -16777216 else 0
def highK (k : Int) : Int := if k = 5 then 126 else -lowK k - 2
/-- Has a kind an offset? -/
def fits (k off : Int) : Bool := decide (1 ≤ k) && decide (k ≤ 5) && decide (off % 2 = 0) && decide (lowK k ≤ off) && decide (off ≤ highK k)
def sgn (off : Int) : Int := if off < 0 then 1 else 0
/-- One less the sum without a carry of two bits. -/
def nxor (a b : Int) : Int := if a = b then 1 else 0
def putA (k off : Int) : Int :=
  if fits k off = false then 0 else
  if k = 1 then off / 2 % 256
  else if k = 2 then off / 2 % 2048
  else if k = 3 then sgn off * 1024 + off / 4096 % 64
  else if k = 4 then sgn off * 1024 + off / 4096 % 1024
  else off / 64 % 2 * 512 + off / 2 % 32 * 8
def putB (k off : Int) : Int :=
  if fits k off = false then 0 else
  if k = 3 then off / 262144 % 2 * 8192 + off / 524288 % 2 * 2048 + off / 2 % 2048
  else if k = 4 then nxor (off / 8388608 % 2) (sgn off) * 8192 + nxor (off / 4194304 % 2) (sgn off) * 2048 + off / 2 % 2048
  else 0
def get3 (x y : Int) : Int := x / 1024 % 2 * 524288 + y / 2048 % 2 * 262144 + y / 8192 % 2 * 131072 + x % 64 * 2048 + y % 2048
def get4 (x y : Int) : Int := x / 1024 % 2 * 8388608 + nxor (y / 8192 % 2) (x / 1024 % 2) * 4194304 + nxor (y / 2048 % 2) (x / 1024 % 2) * 2097152 + x % 1024 * 2048 + y % 2048
/-- The offset whose bits stand there. -/
def getO (k a b : Int) : Int :=
  if k = 1 then 2 * sign (a % 4294967296) 8
  else if k = 2 then 2 * sign (a % 4294967296) 11
  else if k = 3 then 2 * sign (get3 a b) 20
  else if k = 4 then 2 * sign (get4 a b) 24
  else if k = 5 then 2 * (a / 512 % 2 * 32 + a / 8 % 32)
  else 0
theorem sign8 (x : Int) : sign x 8 = (x + 128) % 256 - 128 := rfl
theorem sign11 (x : Int) : sign x 11 = (x + 1024) % 2048 - 1024 := rfl
theorem sign20 (x : Int) : sign x 20 = (x + 524288) % 1048576 - 524288 := rfl
theorem sign24 (x : Int) : sign x 24 = (x + 8388608) % 16777216 - 8388608 := rfl
theorem fits_iff (k off : Int) : fits k off = true ↔ (1 ≤ k ∧ k ≤ 5) ∧ off % 2 = 0 ∧ lowK k ≤ off ∧ off ≤ highK k := by
  unfold fits; simp [and_assoc]
theorem fits_kind {k off : Int} (h : fits k off = true) :
    (k = 1 ∧ off % 2 = 0 ∧ -256 ≤ off ∧ off ≤ 254) ∨ (k = 2 ∧ off % 2 = 0 ∧ -2048 ≤ off ∧ off ≤ 2046) ∨ (k = 3 ∧ off % 2 = 0 ∧ -1048576 ≤ off ∧ off ≤ 1048574) ∨
    (k = 4 ∧ off % 2 = 0 ∧ -16777216 ≤ off ∧ off ≤ 16777214) ∨ (k = 5 ∧ off % 2 = 0 ∧ 0 ≤ off ∧ off ≤ 126) := by
  obtain ⟨⟨h1, h2⟩, h3, h4, h5⟩ := (fits_iff k off).1 h
  have hk : k = 1 ∨ k = 2 ∨ k = 3 ∨ k = 4 ∨ k = 5 := by omega
  rcases hk with rfl | rfl | rfl | rfl | rfl <;> simp [lowK, highK] at h4 h5 <;> omega
theorem fits_mk1 {off : Int} (h : off % 2 = 0) (h1 : -256 ≤ off) (h2 : off ≤ 254) : fits 1 off = true := (fits_iff _ _).2 ⟨by omega, h, by simp [lowK]; omega, by simp [highK, lowK]; omega⟩
theorem fits_mk2 {off : Int} (h : off % 2 = 0) (h1 : -2048 ≤ off) (h2 : off ≤ 2046) : fits 2 off = true := (fits_iff _ _).2 ⟨by omega, h, by simp [lowK]; omega, by simp [highK, lowK]; omega⟩
theorem fits_mk3 {off : Int} (h : off % 2 = 0) (h1 : -1048576 ≤ off) (h2 : off ≤ 1048574) : fits 3 off = true := (fits_iff _ _).2 ⟨by omega, h, by simp [lowK]; omega, by simp [highK, lowK]; omega⟩
theorem fits_mk4 {off : Int} (h : off % 2 = 0) (h1 : -16777216 ≤ off) (h2 : off ≤ 16777214) : fits 4 off = true := (fits_iff _ _).2 ⟨by omega, h, by simp [lowK]; omega, by simp [highK, lowK]; omega⟩
theorem fits_mk5 {off : Int} (h : off % 2 = 0) (h1 : 0 ≤ off) (h2 : off ≤ 126) : fits 5 off = true := (fits_iff _ _).2 ⟨by omega, h, by simp [lowK]; omega, by simp [highK]; omega⟩
/-- What is got fits its kind. -/
theorem get_fits (k a b : Int) (h : 1 ≤ k) (h1 : k ≤ 5) : fits k (getO k a b) = true := by
  have hk : k = 1 ∨ k = 2 ∨ k = 3 ∨ k = 4 ∨ k = 5 := by omega
  rcases hk with rfl | rfl | rfl | rfl | rfl
  · refine fits_mk1 ?_ ?_ ?_ <;> simp only [getO, sign8, if_pos] <;> omega
  · refine fits_mk2 ?_ ?_ ?_ <;> simp [getO, sign11] <;> omega
  · refine fits_mk3 ?_ ?_ ?_ <;> simp [getO, sign20] <;> omega
  · refine fits_mk4 ?_ ?_ ?_ <;> simp [getO, sign24] <;> omega
  · refine fits_mk5 ?_ ?_ ?_ <;> simp [getO] <;> omega
theorem nxor_bd (a b : Int) : 0 ≤ nxor a b ∧ nxor a b ≤ 1 := by unfold nxor; split <;> omega
/-- Pieces whose own bits are those of an offset give it. -/
theorem back1 (off a b : Int) (h : fits 1 off = true) (ha : a % 256 = putA 1 off) : getO 1 a b = off := by
  rcases fits_kind h with ⟨e, h1, h2, h3⟩ | ⟨e, _⟩ | ⟨e, _⟩ | ⟨e, _⟩ | ⟨e, _⟩ <;> try omega
  simp [putA, h] at ha
  simp only [getO, sign8, if_pos]; omega
theorem back2 (off a b : Int) (h : fits 2 off = true) (ha : a % 2048 = putA 2 off) : getO 2 a b = off := by
  rcases fits_kind h with ⟨e, _⟩ | ⟨e, h1, h2, h3⟩ | ⟨e, _⟩ | ⟨e, _⟩ | ⟨e, _⟩ <;> try omega
  simp [putA, h] at ha
  simp [getO, sign11]; omega
theorem chain20 (m : Int) : m % 2048 + m / 2048 % 64 * 2048 + m / 131072 % 2 * 131072 + m / 262144 % 2 * 262144 = m % 524288 := by
  have h1 : m / 2048 % 64 = m / 2048 - m / 131072 * 64 := by omega
  have h2 : m / 131072 % 2 = m / 131072 - m / 262144 * 2 := by omega
  have h3 : m / 262144 % 2 = m / 262144 - m / 524288 * 2 := by omega
  omega
theorem chain24 (m : Int) : m % 2048 + m / 2048 % 1024 * 2048 + m / 2097152 % 2 * 2097152 + m / 4194304 % 2 * 4194304 = m % 8388608 := by
  have h1 : m / 2048 % 1024 = m / 2048 - m / 2097152 * 1024 := by omega
  have h2 : m / 2097152 % 2 = m / 2097152 - m / 4194304 * 2 := by omega
  have h3 : m / 4194304 % 2 = m / 4194304 - m / 8388608 * 2 := by omega
  omega
theorem back3 (off a b : Int) (h : fits 3 off = true) (ha : a / 1024 % 2 * 1024 + a % 64 = putA 3 off) (hb : b / 8192 % 2 * 8192 + b / 2048 % 2 * 2048 + b % 2048 = putB 3 off) : getO 3 a b = off := by
  rcases fits_kind h with ⟨e, _⟩ | ⟨e, _⟩ | ⟨e, h1, h2, h3⟩ | ⟨e, _⟩ | ⟨e, _⟩ <;> try omega
  simp [putA, h] at ha
  simp [putB, h] at hb
  obtain ⟨m, rfl⟩ : ∃ m, off = 2 * m := ⟨off / 2, by omega⟩
  have hc := chain20 m
  rw [show 2 * m / 4096 = m / 2048 by omega] at ha
  rw [show 2 * m / 262144 = m / 131072 by omega, show 2 * m / 524288 = m / 262144 by omega, show 2 * m / 2 = m by omega] at hb
  have s0 : 0 ≤ sgn (2 * m) ∧ sgn (2 * m) ≤ 1 := by unfold sgn; split <;> omega
  generalize hd1 : m / 2048 % 64 = d1 at *
  generalize hd2 : m / 131072 % 2 = d2 at *
  generalize hd3 : m / 262144 % 2 = d3 at *
  generalize hd4 : m % 2048 = d4 at *
  have es : a / 1024 % 2 = sgn (2 * m) := by omega
  have e1 : a % 64 = d1 := by omega
  have e2 : b / 8192 % 2 = d2 := by omega
  have e3 : b / 2048 % 2 = d3 := by omega
  have e4 : b % 2048 = d4 := by omega
  simp only [getO, sign20, get3, es, e1, e2, e3, e4]
  have hs : sgn (2 * m) = if 2 * m < 0 then 1 else 0 := rfl
  clear ha hb hd1 hd2 hd3 hd4 e1 e2 e3 e4 es
  split at hs <;> rw [hs] <;> simp <;> omega
theorem back4 (off a b : Int) (h : fits 4 off = true) (ha : a / 1024 % 2 * 1024 + a % 1024 = putA 4 off) (hb : b / 8192 % 2 * 8192 + b / 2048 % 2 * 2048 + b % 2048 = putB 4 off) : getO 4 a b = off := by
  rcases fits_kind h with ⟨e, _⟩ | ⟨e, _⟩ | ⟨e, _⟩ | ⟨e, h1, h2, h3⟩ | ⟨e, _⟩ <;> try omega
  simp [putA, h] at ha
  simp [putB, h] at hb
  obtain ⟨m, rfl⟩ : ∃ m, off = 2 * m := ⟨off / 2, by omega⟩
  have hc := chain24 m
  rw [show 2 * m / 4096 = m / 2048 by omega] at ha
  rw [show 2 * m / 8388608 = m / 4194304 by omega, show 2 * m / 4194304 = m / 2097152 by omega, show 2 * m / 2 = m by omega] at hb
  have s0 : 0 ≤ sgn (2 * m) ∧ sgn (2 * m) ≤ 1 := by unfold sgn; split <;> omega
  have n1 := nxor_bd (m / 4194304 % 2) (sgn (2 * m))
  have n2 := nxor_bd (m / 2097152 % 2) (sgn (2 * m))
  have b1 : 0 ≤ m / 4194304 % 2 ∧ m / 4194304 % 2 ≤ 1 := by omega
  have b2 : 0 ≤ m / 2097152 % 2 ∧ m / 2097152 % 2 ≤ 1 := by omega
  generalize hd1 : m / 2048 % 1024 = d1 at *
  generalize hd2 : m / 2097152 % 2 = d2 at *
  generalize hd3 : m / 4194304 % 2 = d3 at *
  generalize hd4 : m % 2048 = d4 at *
  have es : a / 1024 % 2 = sgn (2 * m) := by omega
  have e1 : a % 1024 = d1 := by omega
  have e2 : b / 8192 % 2 = nxor d3 (sgn (2 * m)) := by omega
  have e3 : b / 2048 % 2 = nxor d2 (sgn (2 * m)) := by omega
  have e4 : b % 2048 = d4 := by omega
  have inv : ∀ d t : Int, 0 ≤ d → d ≤ 1 → 0 ≤ t → t ≤ 1 → nxor (nxor d t) t = d := by
    intro d t h1 h2 h3 h4; unfold nxor; repeat' split
    all_goals omega
  simp only [getO, sign24, get4, es, e1, e2, e3, e4]
  rw [inv d3 _ b1.1 b1.2 s0.1 s0.2, inv d2 _ b2.1 b2.2 s0.1 s0.2]
  have hs : sgn (2 * m) = if 2 * m < 0 then 1 else 0 := rfl
  clear ha hb hd1 hd2 hd3 hd4 e1 e2 e3 e4 es n1 n2
  split at hs <;> rw [hs] <;> simp <;> omega
theorem back5 (off a b : Int) (h : fits 5 off = true) (ha : a / 512 % 2 * 512 + a / 8 % 32 * 8 = putA 5 off) : getO 5 a b = off := by
  rcases fits_kind h with ⟨e, _⟩ | ⟨e, _⟩ | ⟨e, _⟩ | ⟨e, _⟩ | ⟨e, h1, h2, h3⟩ <;> try omega
  simp [putA, h] at ha
  simp [getO]; omega
/-- Of two kinds of one sort what fits the lesser one fits the greater one. -/
theorem wider (off : Int) : (fits 1 off = true → fits 2 off = true) ∧ (fits 2 off = true → fits 3 off = true) ∧ (fits 3 off = true → fits 4 off = true) ∧ (fits 5 off = true → fits 1 off = true) ∧ (fits 4 off = true → off % 2 = 0) := by
  refine ⟨fun h => ?_, fun h => ?_, fun h => ?_, fun h => ?_, fun h => ?_⟩
  all_goals rcases fits_kind h with ⟨e, h1, h2, h3⟩ | ⟨e, h1, h2, h3⟩ | ⟨e, h1, h2, h3⟩ | ⟨e, h1, h2, h3⟩ | ⟨e, h1, h2, h3⟩ <;> try omega
  · exact fits_mk2 h1 (by omega) (by omega)
  · exact fits_mk3 h1 (by omega) (by omega)
  · exact fits_mk4 h1 (by omega) (by omega)
  · exact fits_mk1 h1 (by omega) (by omega)
end Num
end Go.Proofs.YtapenhbfpcmpnaaDoor
