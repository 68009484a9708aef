/- Contracts of layer 16's Digits and of its reference. -/
import Derived.Test.YtfknokclemljfaaLexRefLine
import Derived.Laws.BytesArg
namespace Go.Proofs.Ytfknokclemljfaa
open Go.RowKit Mem
set_option linter.unusedVariables false
theorem Try.infoByte : (Try.prog.info? 5).map (fun i => (i.zero, i.size, i.bytes)) = some (some (.int .u8 0), 1, 1) := by kernel_rfl
def octs (l : List Int) : List Value := l.map (Value.int .u8)
theorem octs_append (a b : List Int) : octs (a ++ b) = octs a ++ octs b := by simp [octs]
/-- A row of bytes of the call's own as a string. -/
theorem conv_own {w : World} {base n : Nat} {v : Value} {zs : List Int} (h : w.ownsRow base 5 1 v n (octs zs)) :
    Sem.run Try.prog (convert 78 9 v) w = Result.ok (Value.string (strOfNums zs)) w := by
  have hl : zs.length = n := by have := h.1; simp [octs] at this; omega
  obtain ⟨A, c, rfl, _, _⟩ := own_shape h
  have hr := Sl.of_own h
  rcases Nat.eq_zero_or_pos n with h0 | h0
  · subst h0
    obtain rfl : zs = [] := List.eq_nil_of_length_eq_zero hl
    rcases h.2 with ⟨e, _⟩ | ⟨g, cap, cur, e, _⟩
    · cases e
      exact run_convert_bytes_nil w _ _ Try.underlying78 Try.underlying5 0 0 _ Try.underlying9
    · cases e
      exact run_convert_bytes_arg w _ _ Try.underlying78 Try.underlying5 g 0 0 _ [] rfl (fun i hi => by omega) _ Try.underlying9
  · obtain ⟨g, cap, hv, _, hlt⟩ := h.form h0
    cases hv
    refine run_convert_bytes_arg w _ _ Try.underlying78 Try.underlying5 g 0 n _ zs hl (fun i hi => ?_) _ Try.underlying9
    obtain ⟨ad, u, e1, _, hx, hc⟩ := hr.get hi
    cases e1
    have : (octs zs)[i]? = some (.int .u8 (zs.getD i 0)) := by
      unfold octs
      rw [List.getElem?_map, List.getD_eq_getElem?_getD, List.getElem?_eq_getElem (by omega)]
      rfl
    rw [this] at hx
    cases hx
    have e2 : (⟨g, 0, none⟩ : Addr).add i = ⟨g, 0 + i, none⟩ := by
      unfold Addr.add; by_cases hi0 : i = 0 <;> simp [hi0]
    rw [← e2]
    exact hc
theorem octs_one (l : List Int) : ∀ u ∈ octs l, u.oneCell' = true := by
  intro u hu
  obtain ⟨z, _, rfl⟩ := List.mem_map.1 hu
  rfl
def bytesOf (zs : List Int) : Lx.Bs := zs.map fun n => UInt8.ofNat n.toNat
theorem byte_dgt (m : Nat) : UInt8.ofNat ((48 : Int) + (m : Int) % 10).toNat = Lx.dgt m := by
  unfold Lx.dgt
  rw [show ((48 : Int) + (m : Int) % 10).toNat = 48 + m % 10 by omega]
/-- At a round's head: what is left of the number, and the digits behind it. -/
structure DigAt (N m : Nat) (zs : List Int) : Prop where
  le : m ≤ N
  pos : 0 < zs.length
  digs : Lx.digs N = (if m = 0 then [] else Lx.digs m) ++ bytesOf zs
theorem DigAt.start (N : Nat) : DigAt N (N / 10) [(48 : Int) + (N : Int) % 10] := by
  refine ⟨by omega, by simp, ?_⟩
  unfold bytesOf
  rw [List.map_cons, List.map_nil, byte_dgt]
  by_cases h : N < 10
  · rw [if_pos (by omega), Lx.digs_one h]; rfl
  · rw [if_neg (by omega), Lx.digs_more h]
theorem DigAt.on {N m : Nat} {zs : List Int} (h : DigAt N m zs) (hm : 0 < m) : DigAt N (m / 10) (((48 : Int) + (m : Int) % 10) :: zs) := by
  refine ⟨by have := h.le; omega, by simp, ?_⟩
  rw [h.digs, if_neg (by omega)]
  unfold bytesOf
  rw [List.map_cons, byte_dgt]
  by_cases h : m < 10
  · rw [if_pos (by omega), Lx.digs_one h]; rfl
  · rw [if_neg (by omega), Lx.digs_more h]; simp
theorem DigAt.len {N m : Nat} {zs : List Int} (h : DigAt N m zs) (hN : N ≤ 9223372036854775807) : zs.length ≤ 19 := by
  have h1 := Lx.digs_len 18 N (by omega)
  rw [h.digs] at h1
  simp [bytesOf] at h1
  omega
set_option maxRecDepth 100000 in
set_option maxHeartbeats 1000000 in
theorem lex_Digits (N : Nat) (w : World) (hN : (N : Int) ≤ 9223372036854775807) :
    Calls Try.prog 42 #[.int .i64 N] w fun e w' => e = .returned (.string (Lx.ba (Lx.digs N))) ∧ Below w.heap.size w w' := by
  obtain ⟨i0, hi, hz0, hz1, hz2⟩ := info_parts Try.infoByte
  obtain ⟨r, hr⟩ : ∃ r, r = Lx.ba (Lx.digs N) := ⟨_, rfl⟩
  rw [← hr]
  have HR := Lib.hid hr
  clear hr
  go_enter Try.func42, Try.ntmps42
  go_wp2
  go_loopw [0, 3] (fun nv bv wr => ∃ (m : Nat) (zs : List Int), nv = .int .i64 m ∧ DigAt N m zs ∧ wr.ownsRow w.heap.size 5 1 bv zs.length (octs zs) ∧ Below w.heap.size w wr) (fun nv _ _ => (intOf nv).toNat)
  case atStart => exact ⟨N / 10, _, by go_num, DigAt.start N, ⟨rfl, .inr ⟨w.heap.size, 1, #[.int .u8 (48 + N % 10)], rfl, Nat.le_refl _, heap_alloc_new w _, Nat.le_refl _, by unfold maxLen; omega, rfl, rfl⟩⟩, (Below.refl _ _).alloc (Nat.le_refl _) _⟩
  case round =>
    obtain ⟨m, zs, rfl, hd, hown, hbel⟩ := hrel
    have hlen := hd.len (by omega)
    have hle := hd.le
    have hpos := hd.pos
    obtain ⟨g, c, rfl, hg1, hg2⟩ := hown.form hpos
    have HD := Lib.hid hd; have HO := Lib.hid hown; have HB := Lib.hid hbel
    clear hd hown hbel
    have hbs := HB.out.size
    by_cases hm : 0 < m
    · go_wp2_with (at_builtin; refine wpList_append_lies _ rfl _ _ _ rfl w.heap.size 5 i0 _ 1 1 Try.underlying78 hi hz0 hz1 hz2 rfl (by omega) (.slice (some ⟨wr.heap.size, 0, none⟩) 1 1) 1 [.int .u8 (48 + (m : Int) % 10)] rfl ⟨rfl, .inr ⟨wr.heap.size, 1, #[.int .u8 (48 + (m : Int) % 10)], rfl, hbs, heap_alloc_new wr _, Nat.le_refl _, by unfold maxLen; omega, rfl, rfl⟩⟩ ⟨g, 0, none⟩ zs.length c (octs zs) rfl (by simp [octs]) ((HO.out.alloc _).cells (g := g) rfl) (octs_one zs) hpos (by unfold maxLen; omega) (by omega) (by simp; omega) (wr.heap.size + 1) (by simp) ?_; intro g' cap wx hown1 hgrow hat hlt1)
      have HO1 := Lib.hid (show wx.ownsRow w.heap.size 5 1 (.slice (some ⟨g', 0, none⟩) (1 + zs.length) cap) (((48 : Int) + (m : Int) % 10) :: zs).length (octs (((48 : Int) + (m : Int) % 10) :: zs)) by
        rw [show (((48 : Int) + (m : Int) % 10) :: zs).length = 1 + zs.length by simp; omega]; exact hown1)
      have HB1 := Lib.hid ((HB.out.alloc hbs _).grown hgrow (by simp; omega) (fun k hk => by have e : some wr.heap.size = some k := hk; cases e; exact hbs))
      clear hown1 hgrow hat
      go_wp2
      go_roundw
      case rel => exact ⟨m / 10, _, by go_num, HD.out.on hm, HO1.out, HB1.out⟩
      case measure => simp [intOf]; omega
    · have hcv := conv_own HO.out
      go_wp2
      go_ret
      exact ⟨ret_str (by
        rw [HR.out, HD.out.digs, if_pos (by omega)]; rfl), HB.out⟩
theorem run_ten (d : Nat) (h : d < 10) (w : World) : (Instr.slice 9 (.string ⟨#[48, 49, 50, 51, 52, 53, 54, 55, 56, 57]⟩) (some (.int .i64 (d : Int))) (some (.int .i64 ((d : Int) + 1))) none).run Try.prog w = .ok (.string ⟨#[Lx.dgt d]⟩) w := by
  have : d = 0 ∨ d = 1 ∨ d = 2 ∨ d = 3 ∨ d = 4 ∨ d = 5 ∨ d = 6 ∨ d = 7 ∨ d = 8 ∨ d = 9 := by omega
  rcases this with rfl | rfl | rfl | rfl | rfl | rfl | rfl | rfl | rfl | rfl <;> rfl
theorem dgt_mod (m : Nat) : Lx.dgt (m % 10) = Lx.dgt m := by unfold Lx.dgt; rw [Nat.mod_mod]
end Go.Proofs.Ytfknokclemljfaa
