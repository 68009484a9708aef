/- Contracts of the references' Show and Same. -/
import Derived.Test.YtpkpinljbkedlaaDoorLexShowW
import Derived.Laws.StructEq
namespace Go.Proofs.YtpkpinljbkedlaaDoor
open Go.RowKit Mem
set_option linter.unusedVariables false
def tkV (k : Lx.Tk) : Value := .agg #[.int .i64 k.kind, .int .i64 k.n, .string k.text]
theorem str_self (s : ByteArray) : (s.toList == s.toList) = true := beq_self_eq_true _
theorem tok_eqG : Tryd.prog.eqGuardType Tryd.prog.depth 32 = false := by kernel_rfl
set_option maxRecDepth 100000 in
theorem tok_eq (a b : Lx.Tk) (w : World) : (Op.equalIn 10000 32 (tkV a) (tkV b)).run Tryd.prog w = .ok (a.kind == b.kind && a.n == b.n && a.text.toList == b.text.toList) w := by
  unfold tkV
  rw [run_equalIn_struct w 9999 32 _ _ (by kernel_rfl) (by kernel_rfl)]
  have hi : ∀ (x y : Int) w, (Op.equalIn (9998 + 1) 3 (.int .i64 x) (.int .i64 y)).run Tryd.prog w = .ok (x == y) w := fun x y w => run_equalIn_int w 9998 3 .i64 .i64 x y Tryd.underlying3
  have hs : ∀ (x y : ByteArray) w, (Op.equalIn (9998 + 1) 9 (.string x) (.string y)).run Tryd.prog w = .ok (x.toList == y.toList) w := fun x y w => run_equalIn_string w 9998 9 x y Tryd.underlying9
  have p0 : ∀ (x : Lx.Tk) w, (part 3 #[Value.int IntKind.i64 x.kind, Value.int IntKind.i64 x.n, Value.string x.text] 0).run Tryd.prog w = .ok (.int .i64 x.kind) w := fun x w => by simp [part, go_sem, Tryd.isAgg3, Tryd.sizeOf3]
  have p1 : ∀ (x : Lx.Tk) w, (part 3 #[Value.int IntKind.i64 x.kind, Value.int IntKind.i64 x.n, Value.string x.text] 1).run Tryd.prog w = .ok (.int .i64 x.n) w := fun x w => by simp [part, go_sem, Tryd.isAgg3, Tryd.sizeOf3]
  have p2 : ∀ (x : Lx.Tk) w, (part 9 #[Value.int IntKind.i64 x.kind, Value.int IntKind.i64 x.n, Value.string x.text] 2).run Tryd.prog w = .ok (.string x.text) w := fun x w => by simp [part, go_sem, Tryd.isAgg9, Tryd.sizeOf9]
  simp only [Program.fieldsOf, Tryd.underlying32]
  simp only [Op.eqFields]
  simp only [Sem.run_bind, Sem.run_ite, Sem.run_pure, Result.andThen_ok, p0, p1, p2, hi, hs]
  cases h1 : (a.kind == b.kind) <;> cases h2 : (a.n == b.n) <;> cases h3 : (a.text.toList == b.text.toList) <;> simp
theorem tok_same (a : Lx.Tk) (w : World) : (Op.equalIn 10000 32 (.agg #[.int .i64 a.kind, .int .i64 a.n, .string a.text]) (.agg #[.int .i64 a.kind, .int .i64 a.n, .string a.text])).run Tryd.prog w = .ok true w := by
  have := tok_eq a a w
  unfold tkV at this
  rw [this]; simp
set_option maxRecDepth 100000 in
set_option maxHeartbeats 2000000 in
theorem ref_Same (A B : Option Addr) (n c d : Nat) (ks : List Lx.Tk) (w : World) (ha : Toks w w.heap.size A n ks) (hb : Toks w w.heap.size B n ks) (hn : n ≤ 9223372036854775806) :
    Calls Tryd.prog 12 #[.slice A n c, .slice B n d] w fun e w' => e = .returned (.bool true) ∧ ∃ m, w' = w.drewN m := by
  have HA := Lib.hid ha; have HB := Lib.hid hb
  clear ha hb
  have hnn : ((n : Int) != (n : Int)) = false := by simp
  have hgd := tok_eqG
  go_enter Tryd.func12, Tryd.ntmps12
  go_wp2
  clear hnn
  go_loopw [5] (fun iv wr => ∃ (k m : Nat), iv = .int .i64 k ∧ k ≤ n ∧ wr = w.drewN m) (fun iv _ => n - (intOf iv).toNat)
  case atStart => exact ⟨0, 0, rfl, by omega, rfl⟩
  case round =>
    obtain ⟨k, m, rfl, hk, rfl⟩ := hrel
    by_cases hlt : k < n
    · obtain ⟨ad, p, t, rfl, hp, hpb, hkt, c0, c1, c2⟩ := HA.out.get hlt
      obtain ⟨bd, q, t', rfl, hq, hqb, hkt', d0, d1, d2⟩ := HB.out.get hlt
      obtain rfl : t = t' := by rw [hkt] at hkt'; exact Option.some.inj hkt'
      clear hkt hkt'
      have heq := tok_same t
      have hlt' : (k : Int) < n := by omega
      go_wp2
      go_quiet (fail)
      go_wp2
      go_roundw
      case rel => exact ⟨k + 1, _, by go_num, by omega, rfl⟩
      case measure => simp [intOf]; omega
    · go_wp2
      go_ret
      exact ⟨rfl, m, rfl⟩
theorem join_snoc (L : List (List UInt8)) (p sep : List UInt8) (h : L ≠ []) : Lib.join (L ++ [p]) sep = Lib.join L sep ++ (sep ++ p) := by
  cases L with
  | nil => exact absurd rfl h
  | cons a l =>
    rw [List.cons_append, Lib.join_cons, Lib.join_cons]
    simp [Lib.joinTail]
def ShowAt (ks : List Lx.Tk) (k : Nat) (s : ByteArray) : Prop := s = Lx.ba (Lx.show_ (ks.take k))
theorem show_one {ks : List Lx.Tk} {t : Lx.Tk} (h : ks[0]? = some t) : Lx.show_ (ks.take (0 + 1)) = Lx.text t := by
  rw [List.take_add_one, h]
  unfold Lx.show_
  simp [Lib.join_one]
theorem show_more {ks : List Lx.Tk} {t : Lx.Tk} {k : Nat} (h : ks[k]? = some t) (hk : 0 < k) : Lx.show_ (ks.take (k + 1)) = Lx.show_ (ks.take k) ++ (32 :: Lx.text t) := by
  have hl : k < ks.length := (List.getElem?_eq_some_iff.1 h).1
  unfold Lx.show_
  rw [List.take_add_one, h, List.map_append]
  have := join_snoc ((ks.take k).map Lx.text) (Lx.text t) [32] (by
    intro e
    have := congrArg List.length e
    rw [List.length_map, List.length_take] at this
    simp only [List.length_nil] at this
    omega)
  simpa using this
set_option maxRecDepth 100000 in
set_option maxHeartbeats 2000000 in
theorem ref_Show (A : Option Addr) (n c : Nat) (ks : List Lx.Tk) (w : World) (ht : Toks w w.heap.size A n ks) (hn : n ≤ 256) (hg : ∀ k ∈ ks, Lx.Good k) :
    Calls Tryd.prog 16 #[.slice A n c] w fun e w' => e = .returned (.string (Lx.ba (Lx.show_ ks))) ∧ w' = w := by
  obtain ⟨r, hr⟩ : ∃ r, r = Lx.ba (Lx.show_ ks) := ⟨_, rfl⟩
  rw [← hr]
  have HR := Lib.hid hr
  have HT := Lib.hid ht; have HG := Lib.hid hg
  have HL := Lib.hid ht.len
  clear hr ht hg
  go_enter Tryd.func16, Tryd.ntmps16
  go_wp2
  go_loop [3, 4] (fun sv iv => ∃ (k : Nat) (s : ByteArray), iv = .int .i64 k ∧ sv = .string s ∧ k ≤ n ∧ ShowAt ks k s) (fun _ iv => n - (intOf iv).toNat)
  case atStart => exact ⟨0, _, rfl, rfl, by omega, rfl⟩
  case round =>
    obtain ⟨k, s, rfl, rfl, hk, hs⟩ := hrel
    have HS : Hid (s = Lx.ba (Lx.show_ (ks.take k))) := Lib.hid hs
    clear hs
    by_cases hlt : k < n
    · obtain ⟨ad, p, t, rfl, hp, hpb, hkt, c0, c1, c2⟩ := HT.out.get hlt
      have HK := Lib.hid hkt
      have hgood := HG.out t (List.mem_of_getElem? hkt)
      have hbd := hgood.bd
      have htx := hgood.txt
      have hss : s.size ≤ 33 * 256 := by
        rw [HS.out]
        have := join_small (ks.take k) (fun x hx => HG.out x (List.mem_of_mem_take hx))
        rw [List.length_take] at this
        have e : (Lx.ba (Lx.show_ (ks.take k))).size = (Lx.show_ (ks.take k)).length := by simp [Lx.ba, ByteArray.size]
        omega
      clear hkt hgood
      obtain ⟨kind, tn, text⟩ := t
      simp only at c0 c1 c2 hbd htx
      obtain ⟨N, rfl⟩ := Int.eq_ofNat_of_zero_le hbd.1
      obtain ⟨X, hX⟩ : ∃ X, X = Lx.ba (Lx.digs N) := ⟨_, rfl⟩
      have hXs : X.size ≤ 10 := by
        have := Lx.digs_len 9 N (by omega)
        rw [hX]; simpa [Lx.ba, ByteArray.size] using this
      have HX := Lib.hid hX
      clear hX
      cases h2 : (kind == 2) with
      | true =>
        have HE := Lib.hid (show Lx.text ⟨kind, (N : Int), text⟩ = X.data.toList by rw [text_num (by simpa using h2), HX.out, ba_list]; rfl)
        by_cases h0 : 0 < k
        · have HN := Lib.hid (show s ++ ⟨#[32]⟩ ++ X = Lx.ba (Lx.show_ (ks.take (k + 1))) by
            rw [show_more HK.out h0, HE.out, HS.out]; apply ba_ext; rw [ba_app, ba_app, ba_list, ba_list]; simp)
          go_wp2_with (go_at_call 17; refine (ref_Digits N _ (by omega)).mono ?_; rintro e w ⟨rfl, rfl⟩; rw [← HX.out])
          go_round
          case rel => exact ⟨k + 1, _, by go_num, rfl, by omega, HN.out⟩
          case measure => simp [intOf]; omega
        · obtain rfl : k = 0 := by omega
          have HN := Lib.hid (show s ++ X = Lx.ba (Lx.show_ (ks.take (0 + 1))) by
            rw [show_one HK.out, HE.out, HS.out]; apply ba_ext; rw [ba_app, ba_list, ba_list]; rfl)
          go_wp2_with (go_at_call 17; refine (ref_Digits N _ (by omega)).mono ?_; rintro e w ⟨rfl, rfl⟩; rw [← HX.out])
          go_round
          case rel => exact ⟨1, _, by go_num, rfl, by omega, HN.out⟩
          case measure => simp [intOf]; omega
      | false =>
        have HE := Lib.hid (show Lx.text ⟨kind, (N : Int), text⟩ = text.data.toList by have := text_not (t := ⟨kind, (N : Int), text⟩) (by simpa using h2); rw [← ba_list (Lx.text _), this])
        by_cases h0 : 0 < k
        · have HN := Lib.hid (show s ++ ⟨#[32]⟩ ++ text = Lx.ba (Lx.show_ (ks.take (k + 1))) by
            rw [show_more HK.out h0, HE.out, HS.out]; apply ba_ext; rw [ba_app, ba_app, ba_list, ba_list]; simp)
          go_wp2
          go_round
          case rel => exact ⟨k + 1, _, by go_num, rfl, by omega, HN.out⟩
          case measure => simp [intOf]; omega
        · obtain rfl : k = 0 := by omega
          have HN := Lib.hid (show s ++ text = Lx.ba (Lx.show_ (ks.take (0 + 1))) by
            rw [show_one HK.out, HE.out, HS.out]; apply ba_ext; rw [ba_app, ba_list, ba_list]; rfl)
          go_wp2
          go_round
          case rel => exact ⟨1, _, by go_num, rfl, by omega, HN.out⟩
          case measure => simp [intOf]; omega
    · go_wp2
      go_ret
      exact ⟨ret_str (by rw [HR.out, HS.out, List.take_of_length_le (by have := HL.out; omega)]), rfl⟩
end Go.Proofs.YtpkpinljbkedlaaDoor
