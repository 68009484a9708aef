/- Contracts of regs.number, Find and of Find's reference: a name's register. -/
import Derived.Test.YtnngmpimobolpaaRegCount
import Derived.Laws.RangeAny
import Derived.Laws.RangeString
namespace Go.Proofs.Ytnngmpimobolpaa
open Go.RowKit Mem
set_option linter.unusedVariables false
/-- The number behind an r. -/
def numGo : Nat → Int → List UInt8 → Int
  | _, n, [] => n
  | 0, n, c :: l => if c.toNat = 114 then numGo 1 n l else -1
  | 1, n, c :: l => if 48 ≤ c.toNat ∧ c.toNat ≤ 57 then numGo 2 (c.toNat - 48) l else -1
  | 2, n, c :: l => if n = 1 ∧ 48 ≤ c.toNat ∧ c.toNat ≤ 53 then numGo 3 (10 + (c.toNat - 48)) l else -1
  | _ + 3, n, c :: l => -1
theorem go_nil (i : Nat) (n : Int) : numGo i n [] = n := by
  match i with
  | 0 => rfl
  | 1 => rfl
  | 2 => rfl
  | k + 3 => rfl
theorem dec_at (s : ByteArray) (pos : Nat) (h : pos < s.size) : ∃ (rn wd : Nat), Utf8.decode s pos = (rn, wd) ∧ 1 ≤ wd ∧ ((rn = (s[pos]'h).toNat ∧ wd = 1 ∧ rn < 128) ∨ (128 ≤ rn ∧ 128 ≤ (s[pos]'h).toNat)) := by
  by_cases ha : (s[pos]'h).toNat < 128
  · exact ⟨_, _, decode_ascii s pos h ha, Nat.le_refl _, .inl ⟨rfl, rfl, ha⟩⟩
  · have := decode_high s pos h (by omega)
    exact ⟨_, _, rfl, this.2, .inr ⟨this.1, by omega⟩⟩
theorem drop_at (s : ByteArray) (pos : Nat) (h : pos < s.size) : s.data.toList.drop pos = (s[pos]'h) :: s.data.toList.drop (pos + 1) :=
  List.drop_eq_getElem_cons (by simpa using h)
theorem drop_end (s : ByteArray) (pos : Nat) (h : ¬ pos < s.size) : s.data.toList.drop pos = [] :=
  List.drop_eq_nil_of_le (by simp; omega)
set_option maxRecDepth 100000 in
set_option maxHeartbeats 2000000 in
theorem regs_number (s : ByteArray) (w : World) :
    Calls Try.prog 36 #[.string s] w fun e w' => e = .returned (.int .i64 (numGo 0 (-1) s.data.toList)) ∧ ∃ pos, w' = w.iter s pos := by
  obtain ⟨r, hr⟩ : ∃ r, r = numGo 0 (-1) s.data.toList := ⟨_, rfl⟩
  rw [← hr]
  have HR := Lib.hid hr
  clear hr
  go_enter Try.func36, Try.ntmps36
  go_wp2
  go_loopw [3] (fun nv w' => ∃ (pos : Nat) (n : Int), w' = w.iter s pos ∧ nv = .int .i64 n ∧ pos ≤ 3 ∧ numGo pos n (s.data.toList.drop pos) = r) (fun _ w' => s.size - w'.iterPos w.heap.size)
  case atStart => exact ⟨0, -1, rfl, rfl, by omega, by rw [HR.out]; rfl⟩
  case round =>
    obtain ⟨pos, n, rfl, rfl, hp3, hg⟩ := hrel
    have HG := Lib.hid hg
    clear hg
    by_cases hp : pos < s.size
    · obtain ⟨rn, wd, hd, hw1, hc⟩ := dec_at s pos hp
      have HD := Lib.hid (drop_at s pos hp)
      obtain ⟨c, hcc⟩ : ∃ c, c = s[pos]'hp := ⟨_, rfl⟩
      rw [← hcc] at hc HD
      clear hcc
      have hnx : ∀ ty, (Instr.next (.pointer (some ⟨w.heap.size, 0, none⟩)) true ty).run Try.prog (w.iter s pos) = .ok (.tuple #[.bool true, .int .i64 pos, .int .i32 rn]) (w.iter s (pos + wd)) := fun ty => by
        have := run_next_any (P := Try.prog) w s pos ty hp
        rw [hd] at this
        exact this
      clear hd
      have hpos : pos = 0 ∨ pos = 1 ∨ pos = 2 ∨ pos = 3 := by omega
      rcases hpos with rfl | rfl | rfl | rfl
      · cases ht : ((rn : Int) == 114) with
        | true =>
          have hrn : rn = 114 := by have := beq_iff_eq.1 ht; omega
          have hw : wd = 1 ∧ c.toNat = 114 := by omega
          have HS := Lib.hid (show numGo 1 n (s.data.toList.drop 1) = r by rw [← HG.out, HD.out]; simp only [numGo]; rw [if_pos hw.2])
          obtain ⟨rfl, _⟩ := hw
          clear hrn hc
          go_wp2
          go_roundw
          case rel => exact ⟨1, n, rfl, rfl, by omega, HS.out⟩
          case measure => simp; omega
        | false =>
          have hrn : rn ≠ 114 := by intro e; simp [e] at ht
          have HS := Lib.hid (show r = -1 by rw [← HG.out, HD.out]; simp only [numGo]; rw [if_neg (by omega)])
          clear hrn hc
          go_wp2
          go_ret
          exact ⟨ret_int HS.out.symm, _, rfl⟩
      · by_cases hin : 48 ≤ rn ∧ rn ≤ 57
        · have hw : wd = 1 ∧ c.toNat = rn := by omega
          have HS := Lib.hid (show numGo 2 ((rn : Int) - 48) (s.data.toList.drop 2) = r by rw [← HG.out, HD.out]; simp only [numGo]; rw [if_pos (by omega), hw.2])
          obtain ⟨rfl, _⟩ := hw
          obtain ⟨h1, h2⟩ := hin
          clear hc
          go_wp2
          go_roundw
          case rel => exact ⟨2, _, rfl, rfl, by omega, HS.out⟩
          case measure => simp; omega
        · have HS := Lib.hid (show r = -1 by rw [← HG.out, HD.out]; simp only [numGo]; rw [if_neg (by omega)])
          clear hc
          by_cases h1 : 48 ≤ rn
          · have h2 : ¬ rn ≤ 57 := by omega
            clear hin
            go_wp2
            go_ret
            exact ⟨ret_int HS.out.symm, _, rfl⟩
          · clear hin
            go_wp2
            go_ret
            exact ⟨ret_int HS.out.symm, _, rfl⟩
      · cases h1n : (n == 1) with
        | true =>
          have hn1 : n = 1 := by simpa using h1n
          by_cases hin : 48 ≤ rn ∧ rn ≤ 53
          · have hw : wd = 1 ∧ c.toNat = rn := by omega
            have HS := Lib.hid (show numGo 3 (10 + ((rn : Int) - 48)) (s.data.toList.drop 3) = r by rw [← HG.out, HD.out]; simp only [numGo]; rw [if_pos ⟨hn1, by omega, by omega⟩, hw.2])
            obtain ⟨rfl, _⟩ := hw
            obtain ⟨h1, h2⟩ := hin
            clear hc hn1
            go_wp2
            go_roundw
            case rel => exact ⟨3, _, rfl, rfl, by omega, HS.out⟩
            case measure => simp; omega
          · have HS := Lib.hid (show r = -1 by rw [← HG.out, HD.out]; simp only [numGo]; rw [if_neg (by rintro ⟨_, h⟩; omega)])
            clear hc hn1
            by_cases h1 : 48 ≤ rn
            · have h2 : ¬ rn ≤ 53 := by omega
              clear hin
              go_wp2
              go_ret
              exact ⟨ret_int HS.out.symm, _, rfl⟩
            · clear hin
              go_wp2
              go_ret
              exact ⟨ret_int HS.out.symm, _, rfl⟩
        | false =>
          have HS := Lib.hid (show r = -1 by rw [← HG.out, HD.out]; simp only [numGo]; rw [if_neg (by rintro ⟨h, _⟩; simp [h] at h1n)])
          clear hc
          go_wp2
          go_ret
          exact ⟨ret_int HS.out.symm, _, rfl⟩
      · have HS := Lib.hid (show r = -1 by rw [← HG.out, HD.out]; simp only [numGo])
        clear hc
        go_wp2
        go_ret
        exact ⟨ret_int HS.out.symm, _, rfl⟩
    · have hnx : ∀ ty, (Instr.next (.pointer (some ⟨w.heap.size, 0, none⟩)) true ty).run Try.prog (w.iter s pos) = _ := fun ty => run_next_end w s pos ty hp
      have HS := Lib.hid (show r = n by rw [← HG.out, drop_end s pos hp, go_nil])
      go_wp2
      go_ret
      exact ⟨ret_int HS.out.symm, _, rfl⟩
def sSp : ByteArray := ⟨#[115, 112]⟩
def sLr : ByteArray := ⟨#[108, 114]⟩
def sPc : ByteArray := ⟨#[112, 99]⟩
def regFind (s : ByteArray) : Int := if s = sSp then 13 else if s = sLr then 14 else if s = sPc then 15 else numGo 0 (-1) s.data.toList
def regIdx (s : ByteArray) : Int := if 15 < Lib.idxOfS rnms s then Lib.idxOfS rnms s - 3 else Lib.idxOfS rnms s
theorem find_listed : ∀ s ∈ rnms, regFind s = regIdx s := by decide +kernel
def inR (x : ByteArray) : Bool := rnms.any fun t => decide (t = x)
theorem inR_mem {x : ByteArray} (h : inR x = true) : x ∈ rnms := by
  unfold inR at h
  rw [List.any_eq_true] at h
  obtain ⟨t, ht, e⟩ := h
  rw [← of_decide_eq_true e]; exact ht
theorem dig_in : ∀ b : Fin 256, 48 ≤ b.val → b.val ≤ 57 → inR ⟨#[114, UInt8.ofNat b.val]⟩ = true := by decide +kernel
theorem dig2_in : ∀ b : Fin 256, 48 ≤ b.val → b.val ≤ 53 → inR ⟨#[114, 49, UInt8.ofNat b.val]⟩ = true := by decide +kernel
theorem u8_of {c : UInt8} {n : Nat} (h : c.toNat = n) : c = UInt8.ofNat n := by
  rw [← h]; simp
theorem num_out {l : List UInt8} (h : numGo 0 (-1) l ≠ -1) : (⟨l.toArray⟩ : ByteArray) ∈ rnms := by
  match l with
  | [] => exact absurd rfl h
  | [a] =>
    simp only [numGo] at h
    split at h <;> exact absurd rfl h
  | [a, b] =>
    simp only [numGo] at h
    split at h
    · split at h
      · rename_i h1 h2
        have := dig_in ⟨b.toNat, b.toNat_lt⟩ h2.1 h2.2
        simp only at this
        rw [u8_of h1, u8_of (c := b) rfl]
        exact inR_mem this
      · exact absurd rfl h
    · exact absurd rfl h
  | [a, b, c] =>
    simp only [numGo] at h
    split at h
    · split at h
      · split at h
        · rename_i h1 h2 h3
          have hb : b.toNat = 49 := by omega
          have := dig2_in ⟨c.toNat, c.toNat_lt⟩ h3.2.1 h3.2.2
          simp only at this
          rw [u8_of h1, u8_of hb, u8_of (c := c) rfl]
          exact inR_mem this
        · exact absurd rfl h
      · exact absurd rfl h
    · exact absurd rfl h
  | a :: b :: c :: d :: l =>
    simp only [numGo] at h
    repeat' split at h
    all_goals exact absurd rfl h
theorem find_eq (s : ByteArray) : regFind s = regIdx s := by
  by_cases hm : s ∈ rnms
  · exact find_listed s hm
  · have h1 : Lib.idxOfS rnms s = -1 := Lib.idxOfS_miss rnms 19 s (fun j hj e => hm (by
      rw [← e, List.getD_eq_getElem?_getD, List.getElem?_eq_getElem (show j < rnms.length from hj)]
      exact List.getElem_mem _))
    have h2 : numGo 0 (-1) s.data.toList = -1 := by
      by_cases h : numGo 0 (-1) s.data.toList = -1
      · exact h
      · exact absurd (num_out h) (by simpa using hm)
    unfold regFind regIdx
    rw [h1, h2, if_neg (fun e => hm (by rw [e]; exact inR_mem (by decide))), if_neg (fun e => hm (by rw [e]; exact inR_mem (by decide))), if_neg (fun e => hm (by rw [e]; exact inR_mem (by decide)))]
    rfl
theorem below_iter (w : World) (s : ByteArray) (pos : Nat) : Below w.heap.size w (w.iter s pos) := (Below.refl _ _).alloc (Nat.le_refl _) _
theorem regs_Find (s : ByteArray) (w : World) :
    Calls Try.prog 14 #[.string s] w fun e w' => e = .returned (.int .i64 (regFind s)) ∧ Below w.heap.size w w' := by
  by_cases h1 : s = sSp
  · subst h1; unfold sSp; go_enter Try.func14, Try.ntmps14
    go_wp2
    go_ret
    exact ⟨ret_int (by decide), Below.refl _ _⟩
  by_cases h2 : s = sLr
  · subst h2; unfold sLr; go_enter Try.func14, Try.ntmps14
    go_wp2
    go_ret
    exact ⟨ret_int (by decide), Below.refl _ _⟩
  by_cases h3 : s = sPc
  · subst h3; unfold sPc; go_enter Try.func14, Try.ntmps14
    go_wp2
    go_ret
    exact ⟨ret_int (by decide), Below.refl _ _⟩
  have HF := Lib.hid (show regFind s = numGo 0 (-1) s.data.toList by unfold regFind; rw [if_neg h1, if_neg h2, if_neg h3])
  have e2 := str_ne (l := [115, 112]) h1
  have e3 := str_ne (l := [108, 114]) h2
  have e4 := str_ne (l := [112, 99]) h3
  clear h1 h2 h3
  go_enter Try.func14, Try.ntmps14
  go_wp2_with fail
  refine (regs_number _ _).mono ?_
  rintro e w1 ⟨rfl, pos, rfl⟩
  go_wp2
  go_ret
  exact ⟨ret_int (by rw [HF.out]), below_iter _ _ _⟩
set_option maxRecDepth 100000 in
set_option maxHeartbeats 400000 in
theorem ref05_Find (s : ByteArray) (w : World) :
    Calls Try.prog 15 #[.string s] w fun e w' => e = .returned (.int .i64 (regFind s)) ∧ Below w.heap.size w w' := by
  have HF := Lib.hid (find_eq s)
  obtain ⟨r, hr⟩ : ∃ r, r = regFind s := ⟨_, rfl⟩
  rw [← hr]
  have HR := Lib.hid hr
  clear hr
  go_enter Try.func15, Try.ntmps15
  go_wp2_with (go_at_call 35; refine (ref05_names _).mono ?_; rintro e w' ⟨rfl, rfl⟩)
  go_loop [4] (fun i => ∃ k : Nat, k ≤ 19 ∧ i = .int .i64 k ∧ ∀ j, j < k → rnm j ≠ s) (fun i => 19 - (intOf i).toNat)
  case atStart => exact ⟨0, by omega, rfl, fun j h => by omega⟩
  case round =>
    obtain ⟨k, hk, rfl, hno⟩ := hrel
    have HN := Lib.hid hno
    clear hno
    by_cases hlt : k < 19
    · have hc := rnames_cell w k hlt
      cases hv : ((rnm k).toList == s.toList) with
      | true =>
        have HE := Lib.hid (Lib.idxOfS_hit rnms 19 k s hlt (Nat.le_refl _) (str_eq hv) HN.out)
        have HE2 := Lib.hid (show Lib.idxOfS rnms s = k from HE.out)
        by_cases h15 : 15 < k
        · go_wp2
          go_ret
          exact ⟨ret_int (by rw [HR.out, HF.out]; unfold regIdx; rw [HE2.out, if_pos (by omega)]), (Below.refl _ _).alloc (Nat.le_refl _) _⟩
        · go_wp2
          go_ret
          exact ⟨ret_int (by rw [HR.out, HF.out]; unfold regIdx; rw [HE2.out, if_neg (by omega)]), (Below.refl _ _).alloc (Nat.le_refl _) _⟩
      | false =>
        have HE := Lib.hid (show ∀ j, j < k + 1 → rnm j ≠ s from fun j hj => by
          by_cases e : j = k
          · subst e; intro e2; rw [e2] at hv; simp at hv
          · exact HN.out j (by omega))
        go_wp2
        go_round
        case rel => exact ⟨k + 1, by omega, by go_num, HE.out⟩
        case measure => simp [intOf]; omega
    · obtain rfl : k = 19 := by omega
      have HE := Lib.hid (show Lib.idxOfS rnms s = -1 from Lib.idxOfS_miss rnms 19 s HN.out)
      go_wp2
      go_ret
      exact ⟨ret_int (by rw [HR.out, HF.out]; unfold regIdx; rw [HE.out]; rfl), (Below.refl _ _).alloc (Nat.le_refl _) _⟩
end Go.Proofs.Ytnngmpimobolpaa
