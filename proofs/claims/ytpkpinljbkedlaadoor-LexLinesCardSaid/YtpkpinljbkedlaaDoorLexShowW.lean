/- Contracts of layer 16's Show and of its reference, on tokens that a line has. -/
import Derived.Test.YtpkpinljbkedlaaDoorLexDigits
namespace Go.Proofs.YtpkpinljbkedlaaDoor
open Go.RowKit Mem
set_option linter.unusedVariables false
theorem Tryd.infoStr : (Tryd.prog.info? 9).map (fun i => (i.zero, i.size, i.bytes)) = some (some (.string ⟨#[]⟩), 1, 16) := by kernel_rfl
def strs (l : List ByteArray) : List Value := l.map .string
theorem strs_append (a b : List ByteArray) : strs (a ++ b) = strs a ++ strs b := by simp [strs]
theorem ba_ext {a b : ByteArray} (h : a.data.toList = b.data.toList) : a = b := by
  cases a; cases b; simp only at h; rw [Array.toList_inj.1 h]
theorem ba_app (a b : ByteArray) : (a ++ b).data.toList = a.data.toList ++ b.data.toList := by
  rw [ByteArray.data_append, Array.toList_append]
theorem ba_list (l : Lx.Bs) : (Lx.ba l).data.toList = l := by simp [Lx.ba]
def txts (ks : List Lx.Tk) : List ByteArray := ks.map fun k => Lx.ba (Lx.text k)
theorem txts_map (ks : List Lx.Tk) : (txts ks).map (·.data.toList) = ks.map Lx.text := by
  unfold txts; rw [List.map_map]; apply List.map_congr_left; intro k _; exact ba_list _
theorem txts_snoc {ks : List Lx.Tk} {k : Nat} {t : Lx.Tk} (h : ks[k]? = some t) : txts (ks.take (k + 1)) = txts (ks.take k) ++ [Lx.ba (Lx.text t)] := by
  unfold txts; rw [List.take_add_one, h]; simp
theorem join_small : ∀ (ks : List Lx.Tk), (∀ k ∈ ks, Lx.Good k) → (Lx.show_ ks).length ≤ 33 * ks.length
  | [], _ => by simp [Lx.show_, Lib.join_nil]
  | [k], h => by
    have := (h k (by simp)).small
    have e : Lx.show_ [k] = Lx.text k := by unfold Lx.show_; rw [List.map_cons, Lib.join_cons]; simp [Lib.joinTail]
    rw [e]; simp; omega
  | k :: k2 :: ks, h => by
    have ih := join_small (k2 :: ks) (fun x hx => h x (by simp [hx]))
    have := (h k (by simp)).small
    have e : Lx.show_ (k :: k2 :: ks) = Lx.text k ++ 32 :: Lx.show_ (k2 :: ks) := by
      have := Lx.joinTail_cons k2 ks
      rw [← this]
      unfold Lx.show_; rw [List.map_cons, Lib.join_cons]
    rw [e]; simp at ih ⊢; omega
theorem text_num {t : Lx.Tk} (h : t.kind = 2) : Lx.text t = Lx.digs t.n.toNat := by unfold Lx.text; rw [if_pos h]
theorem text_not {t : Lx.Tk} (h : ¬ t.kind = 2) : Lx.ba (Lx.text t) = t.text := by
  unfold Lx.text; rw [if_neg h]; rfl
set_option maxRecDepth 100000 in
set_option maxHeartbeats 2000000 in
theorem lex_Show (A : Option Addr) (n c : Nat) (ks : List Lx.Tk) (w : World) (ht : Toks w w.heap.size A n ks) (hn : n ≤ 256) (hg : ∀ k ∈ ks, Lx.Good k) :
    Calls Tryd.prog 15 #[.slice A n c] w fun e w' => e = .returned (.string (Lx.ba (Lx.show_ ks))) ∧ Below w.heap.size w w' := by
  obtain ⟨i0, hi, hz0, hz1, hz2⟩ := info_parts Tryd.infoStr
  obtain ⟨r, hr⟩ : ∃ r, r = Lx.ba (Lx.show_ ks) := ⟨_, rfl⟩
  rw [← hr]
  have HR := Lib.hid hr
  have HT := Lib.hid ht; have HG := Lib.hid hg
  have HL := Lib.hid ht.len
  clear hr ht hg
  go_enter Tryd.func15, Tryd.ntmps15
  go_wp2
  go_loopw [3, 9] (fun v iv wr => ∃ k : Nat, iv = .int .i64 k ∧ k ≤ n ∧ wr.ownsRow w.heap.size 9 1 v k (strs (txts (ks.take k))) ∧ Below w.heap.size w wr) (fun _ iv _ => n - (intOf iv).toNat)
  case atStart => exact ⟨0, rfl, by omega, own_nil _ _ _, Below.refl _ _⟩
  case round =>
    obtain ⟨k, rfl, hk, hown, hbel⟩ := hrel
    have HO := Lib.hid hown; have HB := Lib.hid hbel
    clear hown hbel
    have hbs := HB.out.size
    by_cases hlt : k < n
    · obtain ⟨ad, p, t, rfl, hp, hpb, hkt, c0, c1, c2⟩ := ((HT.out.below HB.out).more hbs).get hlt
      have HK := Lib.hid hkt
      have hgood := HG.out t (List.mem_of_getElem? hkt)
      have hbd := hgood.bd
      have hpb2 := hpb
      clear hkt hgood
      obtain ⟨kind, tn, text⟩ := t
      simp only at c0 c1 c2 hbd
      obtain ⟨N, rfl⟩ := Int.eq_ofNat_of_zero_le hbd.1
      cases h2 : (kind == 2) with
      | true =>
        have HE := Lib.hid (show Lx.ba (Lx.text ⟨kind, (N : Int), text⟩) = Lx.ba (Lx.digs N) by rw [text_num (by simpa using h2)]; rfl)
        go_wp2_with fail
        refine (lex_Digits N _ (by omega)).mono ?_
        rintro e w2 ⟨rfl, hb2⟩
        have HB2 := Lib.hid ((HB.out.alloc hbs _).trans (hb2.mono (by simp; omega)))
        have hown2 := own_keep (HO.out.alloc _) hb2
        clear hb2
        obtain ⟨X, hX⟩ : ∃ X, X = Lx.ba (Lx.digs N) := ⟨_, rfl⟩
        rw [← hX]
        have HX := Lib.hid hX
        clear hX
        go_wp2_with (at_builtin; refine wpList_append_lies _ rfl _ _ _ rfl w.heap.size 9 i0 _ 1 16 Tryd.underlying41 hi hz0 hz1 hz2 rfl (by omega) _ k (strs (txts (ks.take k))) rfl (hown2.alloc _) ⟨w2.heap.size, 0, none⟩ 1 1 [.string X] rfl rfl (World.news_of_block (cs := #[.string X]) (t := 9) (fr := (0, 0)) (heap_alloc_new w2 _)) (by simp [Value.oneCell']) (by omega) (by unfold maxLen; omega) (by omega) (by have := HB2.out.size; simp; omega) (w2.heap.size + 1) (by simp) ?_; intro g cap wx hown1 hgrow hat hlt1)
        have hbel1 : Below w.heap.size w wx := (HB2.out.alloc HB2.out.size _).grown hgrow (by have := HB2.out.size; simp; omega) (fun k hk => ((own_block hown2) k hk).1)
        have HW := Lib.hid (show wx.ownsRow w.heap.size 9 1 (.slice (some ⟨g, 0, none⟩) (k + 1) cap) (k + 1) (strs (txts (ks.take (k + 1)))) by
          rw [txts_snoc HK.out, strs_append, HE.out, ← HX.out]; exact hown1)
        clear hown1 hgrow hat
        go_wp2
        go_roundw
        case rel => exact ⟨k + 1, by go_num, by omega, HW.out, hbel1⟩
        case measure => simp [intOf]; omega
      | false =>
        have HE := Lib.hid (text_not (t := ⟨kind, (N : Int), text⟩) (by simpa using h2))
        have HB2 := Lib.hid (HB.out.alloc hbs (.cells #[.int .i64 kind, .int .i64 (N : Int), .string text] 32))
        have hown2 := HO.out.alloc (.cells #[.int .i64 kind, .int .i64 (N : Int), .string text] 32)
        have HO2 := Lib.hid hown2
        clear hown2
        go_wp2_with (at_builtin; refine wpList_append_lies _ rfl _ _ _ rfl w.heap.size 9 i0 _ 1 16 Tryd.underlying41 hi hz0 hz1 hz2 rfl (by omega) _ k (strs (txts (ks.take k))) rfl (HO2.out.alloc _) ⟨wr.heap.size + 1, 0, none⟩ 1 1 [.string text] rfl rfl (World.news_of_block (cs := #[.string text]) (t := 9) (fr := (0, 0)) (by have := heap_alloc_new (wr.alloc (.cells #[.int .i64 kind, .int .i64 (N : Int), .string text] 32)) (.cells #[.string text] 9); simpa using this)) (by simp [Value.oneCell']) (by omega) (by unfold maxLen; omega) (by omega) (by have := HB2.out.size; simp; omega) (wr.heap.size + 1 + 1) (by simp) ?_; intro g cap wx hown1 hgrow hat hlt1)
        have hbel1 : Below w.heap.size w wx := (HB2.out.alloc HB2.out.size _).grown hgrow (by have := HB2.out.size; simp; omega) (fun k hk => ((own_block HO2.out) k hk).1)
        have HW := Lib.hid (show wx.ownsRow w.heap.size 9 1 (.slice (some ⟨g, 0, none⟩) (k + 1) cap) (k + 1) (strs (txts (ks.take (k + 1)))) by
          rw [txts_snoc HK.out, strs_append, HE.out]; exact hown1)
        clear hown1 hgrow hat
        go_wp2
        go_roundw
        case rel => exact ⟨k + 1, by go_num, by omega, HW.out, hbel1⟩
        case measure => simp [intOf]; omega
    · obtain rfl : k = n := by omega
      have hall : ks.take k = ks := List.take_of_length_le (by rw [HL.out]; exact Nat.le_refl _)
      rw [hall] at HO
      clear hall
      obtain ⟨A2, cp, rfl, hcap, _⟩ := own_shape HO.out
      have hjl : (Lib.join ((txts ks).map (·.data.toList)) [32]).length ≤ 140737488355328 := by
        rw [txts_map]
        have := join_small ks HG.out
        have h2 := HL.out
        unfold Lx.show_ at this
        omega
      have HJ := Lib.hid (show r = ⟨(Lib.join ((txts ks).map (·.data.toList)) [32]).toArray⟩ by rw [HR.out, txts_map]; rfl)
      have htl : (txts ks).length = k := by unfold txts; rw [List.length_map]; exact HL.out
      by_cases hL0 : k = 0
      · subst hL0
        have hks : ks = [] := List.eq_nil_of_length_eq_zero HL.out
        go_wp2_with fail
        refine (Tryd.strings_Join_none _ _ _ _).mono ?_
        rintro e w1 ⟨rfl, rfl⟩
        go_wp2
        go_ret
        exact ⟨ret_str (by rw [HJ.out, hks]; rfl), HB.out⟩
      · obtain ⟨g, cap, hv, hgb, hglt⟩ := HO.out.form (by omega)
        cases hv
        have HC := Lib.hid (show ∀ (j : Nat) x, (txts ks)[j]? = some x → wr.cell? ⟨g, 0 + j, none⟩ = some (.string x) from fun j x hx => by
          rw [Nat.zero_add]
          have hx' : (strs (txts ks))[j]? = some (.string x) := by unfold strs; rw [List.getElem?_map, hx]; rfl
          have hh := HO.out.cells (g := g) rfl j _ hx'
          unfold Addr.add at hh
          by_cases hj : j = 0
          · subst hj; simpa using hh
          · simpa [hj] using hh)
        have hcon := Tryd.strings_Join g 0 cp (txts ks) ⟨#[32]⟩ wr HC.out hglt (by omega) (by omega) hjl
        rw [htl] at hcon
        have HCON := Lib.hid hcon
        clear hcon hjl htl
        go_wp2_with fail
        refine HCON.out.mono ?_
        rintro e w1 ⟨rfl, hb1⟩
        go_wp2
        go_ret
        exact ⟨ret_str (by rw [HJ.out]), HB.out.trans (hb1.mono HB.out.size)⟩
end Go.Proofs.YtpkpinljbkedlaaDoor
