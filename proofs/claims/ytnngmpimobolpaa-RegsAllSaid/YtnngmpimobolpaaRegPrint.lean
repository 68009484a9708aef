/- Contracts of regs.Print and of its reference: a list's text. -/
import Derived.Test.YtnngmpimobolpaaRegFind
import Derived.Test.YtnngmpimobolpaaShelf
namespace Go.Proofs.Ytnngmpimobolpaa
open Go.RowKit Mem
set_option linter.unusedVariables false
/-- The last register of the run that begins at e. -/
def endGo (list : Int) : Nat → Nat → Nat
  | 0, e => e
  | f + 1, e => if e < 12 ∧ has list (e + 1) = true then endGo list f (e + 1) else e
def endOf (list : Int) (r : Nat) : Nat := endGo list (12 - r) r
theorem endOf_on {list : Int} {e : Nat} (h : e < 12) (h1 : has list (e + 1) = true) : endOf list e = endOf list (e + 1) := by
  unfold endOf
  rw [show 12 - e = (12 - (e + 1)) + 1 by omega]
  show (if _ then _ else _) = _
  rw [if_pos ⟨h, h1⟩]
theorem endOf_off {list : Int} {e : Nat} (h : ¬ (e < 12 ∧ has list (e + 1) = true)) : endOf list e = e := by
  unfold endOf
  cases hf : 12 - e with
  | zero => rfl
  | succ f => show (if _ then _ else _) = _; rw [if_neg h]
theorem endGo_bd (list : Int) : ∀ (f e : Nat), e ≤ endGo list f e ∧ (endGo list f e ≤ 12 ∨ endGo list f e = e)
  | 0, e => ⟨Nat.le_refl _, .inr rfl⟩
  | f + 1, e => by
    show e ≤ (if _ then _ else _) ∧ ((if _ then _ else _) ≤ 12 ∨ (if _ then _ else _) = e)
    split
    · rename_i h
      have := endGo_bd list f (e + 1)
      omega
    · exact ⟨Nat.le_refl _, .inr rfl⟩
theorem endOf_bd (list : Int) {r : Nat} (h : r < 16) : r ≤ endOf list r ∧ endOf list r < 16 := by
  have := endGo_bd list (12 - r) r
  unfold endOf; omega
/-- A run's text. -/
def piece (list : Int) (r : Nat) : ByteArray := if r < endOf list r then rnm r ++ (⟨#[45]⟩ ++ rnm (endOf list r)) else rnm r
def partsFrom (list : Int) : Nat → Nat → List ByteArray
  | 0, _ => []
  | f + 1, r => if r < 16 then (if has list r = true then piece list r :: partsFrom list f (endOf list r + 1) else partsFrom list f (r + 1)) else []
theorem parts_end (list : Int) (f r : Nat) (h : ¬ r < 16) : partsFrom list f r = [] := by
  cases f with
  | zero => rfl
  | succ f => show (if _ then _ else _) = _; rw [if_neg h]
theorem parts_no {list : Int} {f r : Nat} (h : r < 16) (h1 : has list r = false) : partsFrom list (f + 1) r = partsFrom list f (r + 1) := by
  show (if _ then (if _ then _ else _) else _) = _; rw [if_pos h, if_neg (by rw [h1]; decide)]
theorem parts_yes {list : Int} {f r : Nat} (h : r < 16) (h1 : has list r = true) : partsFrom list (f + 1) r = piece list r :: partsFrom list f (endOf list r + 1) := by
  show (if _ then (if _ then _ else _) else _) = _; rw [if_pos h, if_pos h1]
/-- A list's text. -/
def printOf (list : Int) : ByteArray := ⟨#[123]⟩ ++ ⟨(Lib.join ((partsFrom list 16 0).map (·.data.toList)) [44, 32]).toArray⟩ ++ ⟨#[125]⟩
/-- What has been done of a list, and what is to come. -/
def Done (list : Int) (r f : Nat) (L : List ByteArray) : Prop := L ++ partsFrom list f r = partsFrom list 16 0 ∧ 16 ≤ r + f ∧ r ≤ 16 ∧ L.length ≤ r
theorem Done.start (list : Int) : Done list 0 16 [] := ⟨rfl, by omega, by omega, by simp⟩
theorem Done.no {list : Int} {r f : Nat} {L : List ByteArray} (h : Done list r f L) (hr : r < 16) (h1 : has list r = false) : Done list (r + 1) (f - 1) L := by
  obtain ⟨a, b, c, d⟩ := h
  refine ⟨?_, by omega, by omega, by omega⟩
  rw [← a]
  rw [show f = (f - 1) + 1 by omega, parts_no hr h1]; simp
theorem Done.yes {list : Int} {r f : Nat} {L : List ByteArray} (h : Done list r f L) (hr : r < 16) (h1 : has list r = true) : Done list (endOf list r + 1) (f - 1) (L ++ [piece list r]) := by
  have hb := endOf_bd list hr
  obtain ⟨a, b, c, d⟩ := h
  refine ⟨?_, by omega, by omega, by simp; omega⟩
  rw [← a, show f = (f - 1) + 1 by omega, parts_yes hr h1]; simp
theorem Done.endd {list : Int} {r f : Nat} {L : List ByteArray} (h : Done list r f L) (hr : ¬ r < 16) : partsFrom list 16 0 = L := by
  rw [← h.1, parts_end list f r hr]; simp
theorem rnm_name {r : Nat} (h : r < 16) : regName (r : Int) = rnm r := regName_nat (by omega)
def strs (l : List ByteArray) : List Value := l.map Value.string
theorem strs_append (a b : List ByteArray) : strs (a ++ b) = strs a ++ strs b := by simp [strs]
theorem Try.infoStr : (Try.prog.info? 9).map (fun i => (i.zero, i.size, i.bytes)) = some (some (.string ByteArray.empty), 1, 16) := by kernel_rfl
theorem own_below {w w' : World} {base : Nat} {e : TypeId} {size n : Nat} {v : Value} {xs : List Value} (h : w.ownsRow base e size v n xs) (hb : Below w.heap.size w w') : w'.ownsRow base e size v n xs := by
  obtain ⟨h1, h2⟩ := h
  refine ⟨h1, ?_⟩
  rcases h2 with h2 | ⟨g, cap, cur, a, b, c, d⟩
  · exact .inl h2
  · refine .inr ⟨g, cap, cur, a, b, ?_, d⟩
    rw [hb.block g ?_]
    · exact c
    · rcases Nat.lt_or_ge g w.heap.size with h | h
      · exact h
      · rw [Array.getElem?_eq_none h] at c; cases c
theorem rnm_size (k : Nat) : (rnm k).size ≤ 3 := by
  by_cases h : k < 19
  · exact (by decide : ∀ k : Fin 19, (rnm k.val).size ≤ 3) ⟨k, h⟩
  · unfold rnm; rw [List.getD_eq_getElem?_getD, List.getElem?_eq_none (show rnms.length ≤ k by show 19 ≤ k; omega)]; decide
theorem piece_size (list : Int) (r : Nat) : (piece list r).size ≤ 7 := by
  have h1 := rnm_size r
  have h2 := rnm_size (endOf list r)
  unfold piece
  split
  · rw [ByteArray.size_append, ByteArray.size_append]
    have : (⟨#[45]⟩ : ByteArray).size = 1 := rfl
    omega
  · omega
theorem parts_size (list : Int) : ∀ (f r : Nat), (partsFrom list f r).length ≤ f ∧ ∀ x ∈ partsFrom list f r, x.data.toList.length ≤ 7
  | 0, r => ⟨by simp [partsFrom], fun x hx => by cases hx⟩
  | f + 1, r => by
    by_cases h : r < 16
    · cases h1 : has list r with
      | true =>
        rw [parts_yes h h1]
        have ih := parts_size list f (endOf list r + 1)
        refine ⟨by simp; omega, fun x hx => ?_⟩
        rcases List.mem_cons.1 hx with rfl | hx
        · exact piece_size list r
        · exact ih.2 x hx
      | false =>
        rw [parts_no h h1]
        have ih := parts_size list f (r + 1)
        exact ⟨by omega, ih.2⟩
    · rw [parts_end list _ r h]
      exact ⟨by simp, fun x hx => by cases hx⟩
theorem tail_len (sep : List UInt8) (n : Nat) : ∀ (l : List (List UInt8)), (∀ x ∈ l, x.length ≤ n) → (Lib.joinTail sep l).length ≤ l.length * (n + sep.length)
  | [], _ => by simp [Lib.joinTail]
  | a :: l, h => by
    have ih := tail_len sep n l (fun x hx => h x (List.mem_cons_of_mem _ hx))
    have := h a (by simp)
    have e : Lib.joinTail sep (a :: l) = (sep ++ a) ++ Lib.joinTail sep l := rfl
    rw [e, List.length_append, List.length_append, List.length_cons, Nat.succ_mul]
    omega
theorem join_len (sep : List UInt8) (l : List (List UInt8)) (n : Nat) (h : ∀ x ∈ l, x.length ≤ n) : (Lib.join l sep).length ≤ l.length * (n + sep.length) := by
  cases l with
  | nil => simp [Lib.join_nil]
  | cons a l =>
    have := tail_len sep n l (fun x hx => h x (List.mem_cons_of_mem _ hx))
    have := h a (by simp)
    rw [Lib.join_cons, List.length_append, List.length_cons, Nat.succ_mul]
    omega
theorem join_small (list : Int) : (Lib.join ((partsFrom list 16 0).map (·.data.toList)) [44, 32]).length ≤ 140737488355328 := by
  have h := parts_size list 16 0
  have := join_len [44, 32] ((partsFrom list 16 0).map (·.data.toList)) 7 (fun x hx => by
    obtain ⟨y, hy, rfl⟩ := List.mem_map.1 hx
    exact h.2 y hy)
  rw [List.length_map] at this
  have h1 := h.1
  simp only [List.length_cons, List.length_nil] at this
  omega
set_option maxRecDepth 100000 in
set_option maxHeartbeats 4000000 in
theorem regs_Print (list : Int) (w : World) :
    Calls Try.prog 24 #[.int .i64 list] w fun e w' => e = .returned (.string (printOf list)) ∧ Below w.heap.size w w' := by
  obtain ⟨i0, hi, hz0, hz1, hz2⟩ := info_parts Try.infoStr
  go_enter Try.func24, Try.ntmps24
  go_wp2
  go_loopw [3, 4] (fun v rv wr => ∃ (r f : Nat) (L : List ByteArray), rv = .int .i64 r ∧ Done list r f L ∧ wr.ownsRow w.heap.size 9 1 v L.length (strs L) ∧ Below w.heap.size w wr) (fun _ rv _ => 16 - (intOf rv).toNat)
  case atStart => exact ⟨0, 16, [], rfl, Done.start list, own_nil _ _ _, Below.refl _ _⟩
  case round =>
    obtain ⟨r, f, L, rfl, hd, hown, hbel⟩ := hrel
    have HD := Lib.hid hd; have HO := Lib.hid hown; have HB := Lib.hid hbel
    clear hd hown hbel
    have hr16 : r ≤ 16 := HD.out.2.2.1
    have e1 : bits .and .i64 (list / 2 ^ r) 1 = list / 2 ^ r % 2 := Num.and_low .i64 1 (by decide) _
    by_cases hlt : r < 16
    · cases hv : has list r with
      | false =>
        have hv0 : (list / 2 ^ r % 2 == 0) = true := by
          unfold has at hv; simp only [beq_eq_false_iff_ne] at hv; simp only [beq_iff_eq]; omega
        have HN := Lib.hid (HD.out.no hlt hv)
        go_wp2
        go_roundw
        case rel => exact ⟨r + 1, f - 1, L, by go_num, HN.out, HO.out, HB.out⟩
        case measure => simp [intOf]; omega
      | true =>
        have hv0 : (list / 2 ^ r % 2 == 0) = false := by
          unfold has at hv; simp only [beq_iff_eq] at hv; simp only [beq_eq_false_iff_ne]; omega
        have HN := Lib.hid (HD.out.yes hlt hv)
        clear hv
        go_wp2
        clear e1
        go_loop [5] (fun ev => ∃ e : Nat, ev = .int .i64 e ∧ endOf list e = endOf list r ∧ r ≤ e ∧ e < 16) (fun ev => 16 - (intOf ev).toNat)
        case atStart => exact ⟨r, rfl, rfl, by omega, by omega⟩
        case round =>
          obtain ⟨e, rfl, he, hre, he16⟩ := hrel
          have HE := Lib.hid he
          clear he
          have e2 : bits .and .i64 (list / 2 ^ (e + 1)) 1 = list / 2 ^ (e + 1) % 2 := Num.and_low .i64 1 (by decide) _
          by_cases hgo : e < 12 ∧ has list (e + 1) = true
          · obtain ⟨h12, hh⟩ := hgo
            have hh2 : (list / 2 ^ (e + 1) % 2 == 1) = true := hh
            have HE2 := Lib.hid ((endOf_on h12 hh).symm.trans HE.out)
            clear hh
            go_wp2
            go_round
            case rel => exact ⟨e + 1, by go_num, HE2.out, by omega, by omega⟩
            case measure => simp [intOf]; omega
          · have hE : endOf list r = e := by rw [← HE.out]; exact endOf_off hgo
            rw [hE] at HN
            have HP := Lib.hid (show piece list r = if r < e then rnm r ++ (⟨#[45]⟩ ++ rnm e) else rnm r by unfold piece; rw [hE])
            have hh2 : e < 12 → (list / 2 ^ (e + 1) % 2 == 1) = false := fun h => by
              cases hq : (list / 2 ^ (e + 1) % 2 == 1) with
              | true => exact absurd ⟨h, hq⟩ hgo
              | false => rfl
            clear hE HE hgo
            have s1 := rnm_size r
            have s2 := rnm_size e
            have s3 : ((⟨#[45]⟩ : ByteArray) ++ rnm e).size ≤ 4 := by
              rw [ByteArray.size_append]; have : (⟨#[45]⟩ : ByteArray).size = 1 := rfl; omega
            by_cases h12 : e < 12
            · have hh3 := hh2 h12
              clear hh2
              by_cases hgt : r < e
              · go_wp2_with fail
                refine (regs_Name _ _ (by omega) (by omega)).mono ?_
                rintro x1 w1 ⟨rfl, hb1⟩
                rw [rnm_name hlt]
                go_wp2_with fail
                refine (regs_Name _ _ (by omega) (by omega)).mono ?_
                rintro x2 w2 ⟨rfl, hb2⟩
                rw [rnm_name he16]
                have HB2 := Lib.hid ((HB.out.trans (hb1.mono HB.out.size)).trans (hb2.mono (Nat.le_trans HB.out.size hb1.size)))
                have hown2 := own_below (own_below HO.out hb1) hb2
                clear hb1 hb2
                go_wp2_with (at_builtin; refine wpList_append_lies _ rfl _ _ _ rfl w.heap.size 9 i0 _ 1 16 Try.underlying34 hi hz0 hz1 hz2 rfl (by omega) _ L.length (strs L) rfl (hown2.alloc _) ⟨w2.heap.size, 0, none⟩ 1 1 [.string (rnm r ++ (⟨#[45]⟩ ++ rnm e))] rfl rfl (World.news_of_block (cs := #[.string (rnm r ++ (⟨#[45]⟩ ++ rnm e))]) (t := 9) (fr := (0, 0)) (heap_alloc_new w2 _)) (by simp [Value.oneCell']) (by omega) (by have := HD.out.2.2.2; unfold maxLen; omega) (by have := HD.out.2.2.2; omega) (by have := HB2.out.size; simp; omega) (w2.heap.size + 1) (by simp) ?_; intro g cap wx hown1 hgrow hat hlt1)
                have hbel1 : Below w.heap.size w wx := (HB2.out.alloc HB2.out.size _).grown hgrow (by have := HB2.out.size; simp; omega) (fun k hk => ((own_block hown2) k hk).1)
                have HW := Lib.hid (show wx.ownsRow w.heap.size 9 1 (.slice (some ⟨g, 0, none⟩) (L.length + 1) cap) (L ++ [piece list r]).length (strs (L ++ [piece list r])) by
                  rw [HP.out, if_pos hgt, strs_append, List.length_append]; exact hown1)
                clear hown1 hown2 hgrow hat
                go_wp2
                go_roundw
                case rel => exact ⟨e + 1, f - 1, _, by go_num, HN.out, HW.out, hbel1⟩
                case measure => simp [intOf]; omega
              · go_wp2_with fail
                refine (regs_Name _ _ (by omega) (by omega)).mono ?_
                rintro x1 w2 ⟨rfl, hb1⟩
                rw [rnm_name hlt]
                have HB2 := Lib.hid (HB.out.trans (hb1.mono HB.out.size))
                have hown2 := own_below HO.out hb1
                clear hb1
                go_wp2_with (at_builtin; refine wpList_append_lies _ rfl _ _ _ rfl w.heap.size 9 i0 _ 1 16 Try.underlying34 hi hz0 hz1 hz2 rfl (by omega) _ L.length (strs L) rfl (hown2.alloc _) ⟨w2.heap.size, 0, none⟩ 1 1 [.string (rnm r)] rfl rfl (World.news_of_block (cs := #[.string (rnm r)]) (t := 9) (fr := (0, 0)) (heap_alloc_new w2 _)) (by simp [Value.oneCell']) (by omega) (by have := HD.out.2.2.2; unfold maxLen; omega) (by have := HD.out.2.2.2; omega) (by have := HB2.out.size; simp; omega) (w2.heap.size + 1) (by simp) ?_; intro g cap wx hown1 hgrow hat hlt1)
                have hbel1 : Below w.heap.size w wx := (HB2.out.alloc HB2.out.size _).grown hgrow (by have := HB2.out.size; simp; omega) (fun k hk => ((own_block hown2) k hk).1)
                have HW := Lib.hid (show wx.ownsRow w.heap.size 9 1 (.slice (some ⟨g, 0, none⟩) (L.length + 1) cap) (L ++ [piece list r]).length (strs (L ++ [piece list r])) by
                  rw [HP.out, if_neg hgt, strs_append, List.length_append]; exact hown1)
                clear hown1 hown2 hgrow hat
                go_wp2
                go_roundw
                case rel => exact ⟨e + 1, f - 1, _, by go_num, HN.out, HW.out, hbel1⟩
                case measure => simp [intOf]; omega
            · clear hh2
              by_cases hgt : r < e
              · go_wp2_with fail
                refine (regs_Name _ _ (by omega) (by omega)).mono ?_
                rintro x1 w1 ⟨rfl, hb1⟩
                rw [rnm_name hlt]
                go_wp2_with fail
                refine (regs_Name _ _ (by omega) (by omega)).mono ?_
                rintro x2 w2 ⟨rfl, hb2⟩
                rw [rnm_name he16]
                have HB2 := Lib.hid ((HB.out.trans (hb1.mono HB.out.size)).trans (hb2.mono (Nat.le_trans HB.out.size hb1.size)))
                have hown2 := own_below (own_below HO.out hb1) hb2
                clear hb1 hb2
                go_wp2_with (at_builtin; refine wpList_append_lies _ rfl _ _ _ rfl w.heap.size 9 i0 _ 1 16 Try.underlying34 hi hz0 hz1 hz2 rfl (by omega) _ L.length (strs L) rfl (hown2.alloc _) ⟨w2.heap.size, 0, none⟩ 1 1 [.string (rnm r ++ (⟨#[45]⟩ ++ rnm e))] rfl rfl (World.news_of_block (cs := #[.string (rnm r ++ (⟨#[45]⟩ ++ rnm e))]) (t := 9) (fr := (0, 0)) (heap_alloc_new w2 _)) (by simp [Value.oneCell']) (by omega) (by have := HD.out.2.2.2; unfold maxLen; omega) (by have := HD.out.2.2.2; omega) (by have := HB2.out.size; simp; omega) (w2.heap.size + 1) (by simp) ?_; intro g cap wx hown1 hgrow hat hlt1)
                have hbel1 : Below w.heap.size w wx := (HB2.out.alloc HB2.out.size _).grown hgrow (by have := HB2.out.size; simp; omega) (fun k hk => ((own_block hown2) k hk).1)
                have HW := Lib.hid (show wx.ownsRow w.heap.size 9 1 (.slice (some ⟨g, 0, none⟩) (L.length + 1) cap) (L ++ [piece list r]).length (strs (L ++ [piece list r])) by
                  rw [HP.out, if_pos hgt, strs_append, List.length_append]; exact hown1)
                clear hown1 hown2 hgrow hat
                go_wp2
                go_roundw
                case rel => exact ⟨e + 1, f - 1, _, by go_num, HN.out, HW.out, hbel1⟩
                case measure => simp [intOf]; omega
              · go_wp2_with fail
                refine (regs_Name _ _ (by omega) (by omega)).mono ?_
                rintro x1 w2 ⟨rfl, hb1⟩
                rw [rnm_name hlt]
                have HB2 := Lib.hid (HB.out.trans (hb1.mono HB.out.size))
                have hown2 := own_below HO.out hb1
                clear hb1
                go_wp2_with (at_builtin; refine wpList_append_lies _ rfl _ _ _ rfl w.heap.size 9 i0 _ 1 16 Try.underlying34 hi hz0 hz1 hz2 rfl (by omega) _ L.length (strs L) rfl (hown2.alloc _) ⟨w2.heap.size, 0, none⟩ 1 1 [.string (rnm r)] rfl rfl (World.news_of_block (cs := #[.string (rnm r)]) (t := 9) (fr := (0, 0)) (heap_alloc_new w2 _)) (by simp [Value.oneCell']) (by omega) (by have := HD.out.2.2.2; unfold maxLen; omega) (by have := HD.out.2.2.2; omega) (by have := HB2.out.size; simp; omega) (w2.heap.size + 1) (by simp) ?_; intro g cap wx hown1 hgrow hat hlt1)
                have hbel1 : Below w.heap.size w wx := (HB2.out.alloc HB2.out.size _).grown hgrow (by have := HB2.out.size; simp; omega) (fun k hk => ((own_block hown2) k hk).1)
                have HW := Lib.hid (show wx.ownsRow w.heap.size 9 1 (.slice (some ⟨g, 0, none⟩) (L.length + 1) cap) (L ++ [piece list r]).length (strs (L ++ [piece list r])) by
                  rw [HP.out, if_neg hgt, strs_append, List.length_append]; exact hown1)
                clear hown1 hown2 hgrow hat
                go_wp2
                go_roundw
                case rel => exact ⟨e + 1, f - 1, _, by go_num, HN.out, HW.out, hbel1⟩
                case measure => simp [intOf]; omega
    · have HE := Lib.hid (HD.out.endd hlt)
      have HJ := Lib.hid (show printOf list = ⟨#[123]⟩ ++ ⟨(Lib.join (L.map (·.data.toList)) [44, 32]).toArray⟩ ++ ⟨#[125]⟩ by unfold printOf; rw [HE.out])
      clear e1
      have hlen : L.length ≤ 16 := by have := HD.out.2.2.2; omega
      have hjl : (Lib.join (L.map (·.data.toList)) [44, 32]).length ≤ 140737488355328 := by
        rw [← HE.out]; exact join_small list
      obtain ⟨A, cp, rfl, hcap, _⟩ := own_shape HO.out
      by_cases hL0 : L.length = 0
      · obtain rfl : L = [] := List.eq_nil_of_length_eq_zero hL0
        go_wp2_with fail
        refine (Try.strings_Join_none _ _ _ _).mono ?_
        rintro e w1 ⟨rfl, rfl⟩
        go_wp2
        go_ret
        exact ⟨ret_str (by rw [HJ.out]; rfl), HB.out⟩
      · obtain ⟨g, cap, hv, hgb, hglt⟩ := HO.out.form (by omega)
        cases hv
        have HC := Lib.hid (show ∀ (j : Nat) x, L[j]? = some x → wr.cell? ⟨g, 0 + j, none⟩ = some (.string x) from fun j x hx => by
          rw [Nat.zero_add]
          have hx' : (strs L)[j]? = some (.string x) := by unfold strs; rw [List.getElem?_map, hx]; rfl
          have hh := HO.out.cells (g := g) rfl j _ hx'
          unfold Addr.add at hh
          by_cases hj : j = 0
          · subst hj; simpa using hh
          · simpa [hj] using hh)
        go_wp2_with fail
        refine (Try.strings_Join g 0 _ L _ _ HC.out hglt (by omega) hcap hjl).mono ?_
        rintro e w1 ⟨rfl, hb1⟩
        go_wp2
        go_ret
        exact ⟨ret_str (by rw [HJ.out]), HB.out.trans (hb1.mono HB.out.size)⟩
/-- The text so far. -/
def accOf (L : List ByteArray) : ByteArray := ⟨#[123]⟩ ++ ⟨(Lib.join (L.map (·.data.toList)) [44, 32]).toArray⟩
theorem acc_nil : accOf [] = ⟨#[123]⟩ := by decide
theorem join_snoc (L : List (List UInt8)) (p sep : List UInt8) (h : L ≠ []) : Lib.join (L ++ [p]) sep = Lib.join L sep ++ (sep ++ p) := by
  cases L with
  | nil => exact absurd rfl h
  | cons a l =>
    rw [List.cons_append, Lib.join_cons, Lib.join_cons]
    simp [Lib.joinTail]
theorem ba_ext {a b : ByteArray} (h : a.data.toList = b.data.toList) : a = b := by
  cases a; cases b; simp only at h; rw [Array.toList_inj.1 h]
theorem ba_app (a b : ByteArray) : (a ++ b).data.toList = a.data.toList ++ b.data.toList := by
  rw [ByteArray.data_append, Array.toList_append]
theorem acc_one (p : ByteArray) : accOf ([] ++ [p]) = ⟨#[123]⟩ ++ p := by
  unfold accOf
  apply ba_ext
  rw [ba_app, ba_app]
  simp [Lib.join_one]
theorem acc_snoc (L : List ByteArray) (p : ByteArray) (h : L ≠ []) : accOf (L ++ [p]) = (accOf L ++ ⟨#[44, 32]⟩) ++ p := by
  unfold accOf
  apply ba_ext
  simp only [ba_app, List.map_append, List.map_cons, List.map_nil]
  rw [join_snoc _ _ _ (by simpa using h)]
  simp
theorem acc_more (L : List ByteArray) (h : L ≠ []) (hx : ∀ x ∈ L, x.data.toList ≠ []) : accOf L ≠ ⟨#[123]⟩ := by
  cases L with
  | nil => exact absurd rfl h
  | cons a l =>
    intro e
    have := congrArg (fun b : ByteArray => b.data.toList.length) e
    unfold accOf at this
    simp only [ba_app, List.map_cons, Lib.join_cons, List.length_append] at this
    have h1 := hx a (by simp)
    have h2 : 0 < a.data.toList.length := List.length_pos_iff.2 h1
    simp only [List.length_cons, List.length_nil] at this
    omega
theorem rnm_pos {k : Nat} (h : k < 16) : (rnm k).data.toList ≠ [] := by
  intro e
  have := (by decide : ∀ k : Fin 16, (rnm k.val).data.toList.length ≠ 0) ⟨k, h⟩
  rw [e] at this; exact this rfl
theorem piece_pos (list : Int) {r : Nat} (h : r < 16) : (piece list r).data.toList ≠ [] := by
  have h1 := rnm_pos h
  unfold piece
  split
  · rw [ba_app]; simp only [ne_eq, List.append_eq_nil_iff, not_and]; intro e; exact absurd e h1
  · exact h1
def Full (L : List ByteArray) : Prop := ∀ x ∈ L, x.data.toList ≠ []
theorem Full.add {L : List ByteArray} (h : Full L) (list : Int) {r : Nat} (hr : r < 16) : Full (L ++ [piece list r]) := by
  intro x hx
  rcases List.mem_append.1 hx with hx | hx
  · exact h x hx
  · rw [List.mem_singleton.1 hx]; exact piece_pos list hr
/-- The text before a run. -/
def beforeOf (L : List ByteArray) : ByteArray := if L = [] then ⟨#[123]⟩ else accOf L ++ ⟨#[44, 32]⟩
theorem acc_add (L : List ByteArray) (p : ByteArray) : accOf (L ++ [p]) = beforeOf L ++ p := by
  unfold beforeOf
  by_cases h : L = []
  · subst h; rw [if_pos rfl]; exact acc_one p
  · rw [if_neg h]; exact acc_snoc L p h
theorem val_str {a b : ByteArray} (h : a = b) : Value.string a = .string b := by rw [h]
theorem acc_small {list : Int} {r f : Nat} {L : List ByteArray} (h : Done list r f L) : (accOf L).size ≤ 145 := by
  have hs := parts_size list 16 0
  rw [← h.1] at hs
  have hl : L.length ≤ 16 := by have := h.2.2; omega
  have hj := join_len [44, 32] (L.map (·.data.toList)) 7 (fun x hx => by
    obtain ⟨y, hy, rfl⟩ := List.mem_map.1 hx
    exact hs.2 y (List.mem_append_left _ hy))
  unfold accOf
  rw [ByteArray.size_append]
  rw [List.length_map] at hj
  have h1 : (⟨#[123]⟩ : ByteArray).size = 1 := rfl
  have h2 : (⟨(Lib.join (L.map (·.data.toList)) [44, 32]).toArray⟩ : ByteArray).size = (Lib.join (L.map (·.data.toList)) [44, 32]).length := by simp [ByteArray.size]
  simp only [List.length_cons, List.length_nil] at hj
  omega
theorem before_nil : beforeOf [] = ⟨#[123]⟩ := rfl
theorem before_more {L : List ByteArray} (h : L ≠ []) : beforeOf L = accOf L ++ ⟨#[44, 32]⟩ := if_neg h
set_option maxRecDepth 100000 in
set_option maxHeartbeats 4000000 in
theorem ref05_Print (list : Int) (w : World) :
    Calls Try.prog 25 #[.int .i64 list] w fun e w' => e = .returned (.string (printOf list)) ∧ Below w.heap.size w w' := by
  go_enter Try.func25, Try.ntmps25
  go_wp2
  go_loopw [3, 4] (fun sv rv wr => ∃ (r f : Nat) (L : List ByteArray), sv = .string (accOf L) ∧ rv = .int .i64 r ∧ Done list r f L ∧ Full L ∧ Below w.heap.size w wr) (fun _ rv _ => 16 - (intOf rv).toNat)
  case atStart => exact ⟨0, 16, [], by rw [acc_nil], rfl, Done.start list, (fun x hx => by cases hx), Below.refl _ _⟩
  case round =>
    obtain ⟨r, f, L, rfl, rfl, hd, hf, hbel⟩ := hrel
    have HD := Lib.hid hd; have HF := Lib.hid hf; have HB := Lib.hid hbel
    clear hd hf hbel
    have hr16 : r ≤ 16 := HD.out.2.2.1
    have z1 := acc_small HD.out
    by_cases hlt : r < 16
    · have z2 := rnm_size r
      cases hv : has list r with
      | false =>
        have HN := Lib.hid (HD.out.no hlt hv)
        go_wp2_with (go_at_call 38; refine (ref_Has _ _ _ hlt).mono ?_; rintro e w' ⟨rfl, rfl⟩)
        go_roundw
        case rel => exact ⟨r + 1, f - 1, L, rfl, by go_num, HN.out, HF.out, HB.out⟩
        case measure => simp [intOf]; omega
      | true =>
        have HN := Lib.hid (HD.out.yes hlt hv)
        by_cases hL : L = []
        · subst hL
          rw [acc_nil]
          have HX0 := Lib.hid (show (⟨#[123]⟩ : ByteArray) ++ rnm r = beforeOf [] ++ rnm r by rw [before_nil])
          have HX := Lib.hid (show ∀ y : ByteArray, ((⟨#[123]⟩ : ByteArray) ++ rnm r) ++ y = beforeOf [] ++ (rnm r ++ y) from fun y => by rw [before_nil, ByteArray.append_assoc])
          have z3 : ((⟨#[123]⟩ : ByteArray) ++ rnm r).size ≤ 200 := by
            rw [ByteArray.size_append]; have : (⟨#[123]⟩ : ByteArray).size = 1 := rfl; omega
          go_wp2_with (go_at_call 38; refine (ref_Has _ _ _ hlt).mono ?_; rintro e w' ⟨rfl, rfl⟩)
          clear hv
          refine (ref05_Name _ _ (by omega) (by omega)).mono ?_
          rintro x1 w1 ⟨rfl, hb1⟩
          rw [rnm_name hlt]
          have HB1 := Lib.hid (HB.out.trans (hb1.mono HB.out.size))
          clear hb1
          go_wp2
          go_loop [5] (fun ev => ∃ e : Nat, ev = .int .i64 e ∧ endOf list e = endOf list r ∧ r ≤ e ∧ e < 16) (fun ev => 16 - (intOf ev).toNat)
          case atStart => exact ⟨r, rfl, rfl, by omega, by omega⟩
          case round =>
            obtain ⟨e, rfl, he, hre, he16⟩ := hrel
            have HE := Lib.hid he
            clear he
            by_cases hgo : e < 12 ∧ has list (e + 1) = true
            · obtain ⟨h12, hh⟩ := hgo
              have HE2 := Lib.hid ((endOf_on h12 hh).symm.trans HE.out)
              go_wp2_with (go_at_call 38; refine (ref_Has list (e + 1) _ (by omega)).mono ?_; rintro e w' ⟨rfl, rfl⟩)
              go_round
              case rel => exact ⟨e + 1, by go_num, HE2.out, by omega, by omega⟩
              case measure => simp [intOf]; omega
            · have hE : endOf list r = e := by rw [← HE.out]; exact endOf_off hgo
              rw [hE] at HN
              have HP := Lib.hid (show piece list r = if r < e then rnm r ++ (⟨#[45]⟩ ++ rnm e) else rnm r by unfold piece; rw [hE])
              have hh2 : e < 12 → has list (e + 1) = false := fun h => by
                cases hq : has list (e + 1) with
                | true => exact absurd ⟨h, hq⟩ hgo
                | false => rfl
              clear hE HE hgo
              have s1 := rnm_size e
              have s2 : ((⟨#[45]⟩ : ByteArray) ++ rnm e).size ≤ 4 := by
                rw [ByteArray.size_append]; have : (⟨#[45]⟩ : ByteArray).size = 1 := rfl; omega
              by_cases h12 : e < 12
              · have hh3 := hh2 h12
                clear hh2
                by_cases hgt : r < e
                · go_wp2_with (go_at_call 38; refine (ref_Has list (e + 1) _ (by omega)).mono ?_; rintro e w' ⟨rfl, rfl⟩)
                  refine (ref05_Name _ _ (by omega) (by omega)).mono ?_
                  rintro x2 w2 ⟨rfl, hb2⟩
                  rw [rnm_name he16]
                  have HB2 := Lib.hid (HB1.out.trans (hb2.mono HB1.out.size))
                  clear hb2
                  go_wp2
                  go_roundw
                  case rel => exact ⟨e + 1, f - 1, _, by rw [acc_add, HP.out, if_pos hgt]; exact val_str (HX.out _), by go_num, HN.out, HF.out.add list hlt, HB2.out⟩
                  case measure => simp [intOf]; omega
                · go_wp2_with (go_at_call 38; refine (ref_Has list (e + 1) _ (by omega)).mono ?_; rintro e w' ⟨rfl, rfl⟩)
                  obtain rfl : e = r := by omega
                  go_roundw
                  case rel => exact ⟨e + 1, f - 1, _, by rw [acc_add, HP.out, if_neg hgt]; exact val_str HX0.out, by go_num, HN.out, HF.out.add list hlt, HB1.out⟩
                  case measure => simp [intOf]; omega
              · clear hh2
                by_cases hgt : r < e
                · go_wp2_with fail
                  refine (ref05_Name _ _ (by omega) (by omega)).mono ?_
                  rintro x2 w2 ⟨rfl, hb2⟩
                  rw [rnm_name he16]
                  have HB2 := Lib.hid (HB1.out.trans (hb2.mono HB1.out.size))
                  clear hb2
                  go_wp2
                  go_roundw
                  case rel => exact ⟨e + 1, f - 1, _, by rw [acc_add, HP.out, if_pos hgt]; exact val_str (HX.out _), by go_num, HN.out, HF.out.add list hlt, HB2.out⟩
                  case measure => simp [intOf]; omega
                · go_wp2_with fail
                  obtain rfl : e = r := by omega
                  go_roundw
                  case rel => exact ⟨e + 1, f - 1, _, by rw [acc_add, HP.out, if_neg hgt]; exact val_str HX0.out, by go_num, HN.out, HF.out.add list hlt, HB1.out⟩
                  case measure => simp [intOf]; omega
        · have hne := str_ne (l := [123]) (acc_more L hL HF.out)
          have HX0 := Lib.hid (show (accOf L ++ ⟨#[44, 32]⟩) ++ rnm r = beforeOf L ++ rnm r by rw [before_more hL])
          have HX := Lib.hid (show ∀ y : ByteArray, ((accOf L ++ ⟨#[44, 32]⟩) ++ rnm r) ++ y = beforeOf L ++ (rnm r ++ y) from fun y => by rw [before_more hL, ByteArray.append_assoc])
          have z3 : (accOf L ++ (⟨#[44, 32]⟩ : ByteArray)).size ≤ 147 := by
            rw [ByteArray.size_append]; have : (⟨#[44, 32]⟩ : ByteArray).size = 2 := rfl; omega
          have z4 : ((accOf L ++ (⟨#[44, 32]⟩ : ByteArray)) ++ rnm r).size ≤ 200 := by
            rw [ByteArray.size_append]; omega
          clear hL
          go_wp2_with (go_at_call 38; refine (ref_Has _ _ _ hlt).mono ?_; rintro e w' ⟨rfl, rfl⟩)
          clear hv
          refine (ref05_Name _ _ (by omega) (by omega)).mono ?_
          rintro x1 w1 ⟨rfl, hb1⟩
          rw [rnm_name hlt]
          have HB1 := Lib.hid (HB.out.trans (hb1.mono HB.out.size))
          clear hb1
          go_wp2
          go_loop [5] (fun ev => ∃ e : Nat, ev = .int .i64 e ∧ endOf list e = endOf list r ∧ r ≤ e ∧ e < 16) (fun ev => 16 - (intOf ev).toNat)
          case atStart => exact ⟨r, rfl, rfl, by omega, by omega⟩
          case round =>
            obtain ⟨e, rfl, he, hre, he16⟩ := hrel
            have HE := Lib.hid he
            clear he
            by_cases hgo : e < 12 ∧ has list (e + 1) = true
            · obtain ⟨h12, hh⟩ := hgo
              have HE2 := Lib.hid ((endOf_on h12 hh).symm.trans HE.out)
              go_wp2_with (go_at_call 38; refine (ref_Has list (e + 1) _ (by omega)).mono ?_; rintro e w' ⟨rfl, rfl⟩)
              go_round
              case rel => exact ⟨e + 1, by go_num, HE2.out, by omega, by omega⟩
              case measure => simp [intOf]; omega
            · have hE : endOf list r = e := by rw [← HE.out]; exact endOf_off hgo
              rw [hE] at HN
              have HP := Lib.hid (show piece list r = if r < e then rnm r ++ (⟨#[45]⟩ ++ rnm e) else rnm r by unfold piece; rw [hE])
              have hh2 : e < 12 → has list (e + 1) = false := fun h => by
                cases hq : has list (e + 1) with
                | true => exact absurd ⟨h, hq⟩ hgo
                | false => rfl
              clear hE HE hgo
              have s1 := rnm_size e
              have s2 : ((⟨#[45]⟩ : ByteArray) ++ rnm e).size ≤ 4 := by
                rw [ByteArray.size_append]; have : (⟨#[45]⟩ : ByteArray).size = 1 := rfl; omega
              by_cases h12 : e < 12
              · have hh3 := hh2 h12
                clear hh2
                by_cases hgt : r < e
                · go_wp2_with (go_at_call 38; refine (ref_Has list (e + 1) _ (by omega)).mono ?_; rintro e w' ⟨rfl, rfl⟩)
                  refine (ref05_Name _ _ (by omega) (by omega)).mono ?_
                  rintro x2 w2 ⟨rfl, hb2⟩
                  rw [rnm_name he16]
                  have HB2 := Lib.hid (HB1.out.trans (hb2.mono HB1.out.size))
                  clear hb2
                  go_wp2
                  go_roundw
                  case rel => exact ⟨e + 1, f - 1, _, by rw [acc_add, HP.out, if_pos hgt]; exact val_str (HX.out _), by go_num, HN.out, HF.out.add list hlt, HB2.out⟩
                  case measure => simp [intOf]; omega
                · go_wp2_with (go_at_call 38; refine (ref_Has list (e + 1) _ (by omega)).mono ?_; rintro e w' ⟨rfl, rfl⟩)
                  obtain rfl : e = r := by omega
                  go_roundw
                  case rel => exact ⟨e + 1, f - 1, _, by rw [acc_add, HP.out, if_neg hgt]; exact val_str HX0.out, by go_num, HN.out, HF.out.add list hlt, HB1.out⟩
                  case measure => simp [intOf]; omega
              · clear hh2
                by_cases hgt : r < e
                · go_wp2_with fail
                  refine (ref05_Name _ _ (by omega) (by omega)).mono ?_
                  rintro x2 w2 ⟨rfl, hb2⟩
                  rw [rnm_name he16]
                  have HB2 := Lib.hid (HB1.out.trans (hb2.mono HB1.out.size))
                  clear hb2
                  go_wp2
                  go_roundw
                  case rel => exact ⟨e + 1, f - 1, _, by rw [acc_add, HP.out, if_pos hgt]; exact val_str (HX.out _), by go_num, HN.out, HF.out.add list hlt, HB2.out⟩
                  case measure => simp [intOf]; omega
                · go_wp2_with fail
                  obtain rfl : e = r := by omega
                  go_roundw
                  case rel => exact ⟨e + 1, f - 1, _, by rw [acc_add, HP.out, if_neg hgt]; exact val_str HX0.out, by go_num, HN.out, HF.out.add list hlt, HB1.out⟩
                  case measure => simp [intOf]; omega
    · have HE := Lib.hid (HD.out.endd hlt)
      have HJ := Lib.hid (show printOf list = accOf L ++ ⟨#[125]⟩ by unfold printOf; rw [HE.out]; rfl)
      go_wp2
      go_ret
      exact ⟨ret_str (by rw [HJ.out]), HB.out⟩
end Go.Proofs.Ytnngmpimobolpaa
