/- The plain law of halfwords and bytes, without a program in sight. -/
import Derived.Test.YtolkpoohpimkhaaNum
import Derived.Test.YtolkpoohpimkhaaMem
namespace Go.Proofs.Ytolkpoohpimkhaa
namespace Num
open Go.RowKit
set_option linter.unusedVariables false
/-- Bytes as halfwords. -/
def halves : List UInt8 → List Int
  | [] => []
  | [a] => [(a.toNat : Int)]
  | a :: b :: r => ((a.toNat : Int) + 256 * (b.toNat : Int)) :: halves r
/-- Halfwords as bytes, each a number. -/
def octets : List Int → List Int
  | [] => []
  | h :: r => h % 256 :: h / 256 % 256 :: octets r
theorem octets_append (a b : List Int) : octets (a ++ b) = octets a ++ octets b := by
  induction a with
  | nil => rfl
  | cons x a ih => simp [octets, ih]
theorem octets_len (a : List Int) : (octets a).length = 2 * a.length := by
  induction a with
  | nil => rfl
  | cons x a ih => simp [octets, ih]; omega
theorem octets_bd (a : List Int) : ∀ z ∈ octets a, 0 ≤ z ∧ z < 256 := by
  induction a with
  | nil => intro z hz; cases hz
  | cons x a ih =>
    intro z hz
    simp only [octets, List.mem_cons] at hz
    rcases hz with rfl | rfl | hz
    · omega
    · omega
    · exact ih z hz
/-- Halfwords there and back. -/
theorem halves_octets (a : List Int) : halves ((octets a).map fun n => UInt8.ofNat n.toNat) = a.map (· % 65536) := by
  induction a with
  | nil => rfl
  | cons x a ih =>
    simp only [octets, List.map_cons, halves, ih]
    congr 1
    have h1 : (UInt8.ofNat (x % 256).toNat).toNat = (x % 256).toNat := by
      simp only [UInt8.toNat_ofNat']; omega
    have h2 : (UInt8.ofNat (x / 256 % 256).toNat).toNat = (x / 256 % 256).toNat := by
      simp only [UInt8.toNat_ofNat']; omega
    rw [h1, h2]; omega
theorem halves_len (l : List UInt8) : 2 * (halves l).length = l.length + l.length % 2 := by
  match l with
  | [] => rfl
  | [a] => rfl
  | a :: b :: r => have := halves_len r; simp [halves]; omega
/-- The first two bytes of a text. -/
theorem two_bytes (t : ByteArray) (h : 1 < t.size) : t.data.toList = t[0] :: t[1] :: t.data.toList.drop 2 := by
  obtain ⟨⟨l⟩⟩ := t
  match l, h with
  | a :: b :: r, _ => rfl
theorem one_byte (t : ByteArray) (h : t.size = 1) : t.data.toList = [t[0]] := by
  obtain ⟨⟨l⟩⟩ := t
  match l, h with
  | [a], _ => rfl
theorem no_byte (t : ByteArray) (h : t.size = 0) : t.data.toList = [] := by
  obtain ⟨⟨l⟩⟩ := t
  match l, h with
  | [], _ => rfl
theorem or_byte (a b : Int) (h0 : 0 ≤ a) (h1 : a < 256) (h2 : 0 ≤ b) (h3 : b < 256) : bits .or .i64 a (b * 256) = a + 256 * b := by
  have hx : (b * 256).toNat ||| a.toNat = (b * 256).toNat + a.toNat := nat_join 8 _ _ (by omega) (by omega)
  have ha : (BitVec.ofInt 64 a).toNat = a.toNat := by rw [ofInt_toNat]; omega
  have hb : (BitVec.ofInt 64 (b * 256)).toNat = (b * 256).toNat := by rw [ofInt_toNat]; omega
  show IntKind.i64.wrap ((BitVec.ofInt 64 a ||| BitVec.ofInt 64 (b * 256)).toNat : Int) = _
  rw [BitVec.toNat_or, ha, hb, Nat.or_comm, hx, IntKind.wrap_i64]; omega
end Num
end Go.Proofs.Ytolkpoohpimkhaa
