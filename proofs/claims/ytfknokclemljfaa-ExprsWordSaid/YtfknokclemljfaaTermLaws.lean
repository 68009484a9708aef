/- The laws of layer 17 that are asked: walks. -/
import Derived.Test.YtfknokclemljfaaTermAwake
import Derived.Test.YtfknokclemljfaaTermFew
import Derived.Test.YtfknokclemljfaaTermRefEval
namespace Go.Proofs.Ytfknokclemljfaa
open Go.RowKit Mem
set_option linter.unusedVariables false
def TrueB (w : World) (e : Ending) (w' : World) : Prop := e = .returned (.bool true) ∧ Below w.heap.size w w'
set_option maxRecDepth 100000 in
set_option maxHeartbeats 4000000 in
theorem law_ExprsEvals (k : Nat) (t : Tm) (names : List ByteArray) (vals : List Int) (A AN AV : Option Addr) (c nN cN nV cV : Nat) (w : World) (hl : Lies w w.heap.size k t (tmCells t A c)) (hN : Nms w w.heap.size AN nN names) (hV : Ints w w.heap.size AV nV vals) (hn1 : nN ≤ 9223372036854775807) (hn2 : nV ≤ 9223372036854775807) :
    Calls Try.prog 3 #[tmV t A c, .slice AN nN cN, .slice AV nV cV] w (TrueB w) := by
  have hb0 : Below w.heap.size w (w.alloc (.cells #[.int .i64 t.op, .int .i64 t.n, .string t.name, .slice A t.args.length c] 24)) := (Below.refl _ _).alloc (Nat.le_refl _) _
  have L0 := Lib.hid (heap_alloc_new w (.cells #[.int .i64 t.op, .int .i64 t.n, .string t.name, .slice A t.args.length c] 24))
  have HF := Lib.hid (few_any k t A c _ (hl.on hb0))
  have HE := Lib.hid (fun w1 (hb : Below w.heap.size w w1) => ex_Eval k t names vals A AN AV c nN cN nV cV w1 (hl.on hb) (hN.on hb) (ints_on hV hb) hn1 hn2)
  have HR := Lib.hid (fun w1 (hb : Below w.heap.size w w1) => ref_Eval k t names vals A AN AV c nN cN nV cV w1 (hl.on hb) (hN.on hb) (ints_on hV hb) hn1 hn2)
  have HB0 := Lib.hid hb0
  obtain ⟨r1, hr1⟩ : ∃ r, r = (evalR k t names vals).1 := ⟨_, rfl⟩
  obtain ⟨r2, hr2⟩ : ∃ r, r = (evalR k t names vals).2 := ⟨_, rfl⟩
  unfold EvalPost at HE HR
  rw [← hr1, ← hr2] at HE HR
  have hN0 : 0 ≤ (nN : Int) := by omega
  clear hl hN hV hb0 hr1 hr2 hn2
  unfold tmV at HF HE HR ⊢
  go_enter Try.func3, Try.ntmps3
  go_wp2_with fail
  refine HF.out.mono ?_
  rintro e w1 ⟨b, rfl, hb⟩
  have HB1 := Lib.hid (HB0.out.trans (hb.mono HB0.out.size))
  have L1 := Lib.hid ((hb.block w.heap.size (by simp)).trans L0.out)
  have hz1 : w.heap.size < w1.heap.size := by have := hb.size; simp at this; omega
  clear hb
  cases b with
  | false =>
    go_wp2_with fail
    refine (law17_awake w1).mono ?_
    rintro e w2 ⟨rfl, hb⟩
    go_wp2
    go_ret
    exact ⟨rfl, HB1.out.trans (hb.mono HB1.out.size)⟩
  | true =>
    by_cases hbig : 1000 < nN
    · go_wp2_with fail
      refine (law17_awake w1).mono ?_
      rintro e w2 ⟨rfl, hb⟩
      go_wp2
      go_ret
      exact ⟨rfl, HB1.out.trans (hb.mono HB1.out.size)⟩
    · obtain ⟨x0, x1, x2, x3, _⟩ := box_facts L1.out
      go_wp2_with fail
      refine (HE.out w1 HB1.out).mono ?_
      rintro e w2 ⟨rfl, hb⟩
      have HB2 := Lib.hid (HB1.out.trans (hb.mono HB1.out.size))
      obtain ⟨x0, x1, x2, x3, _⟩ := box_facts ((hb.block w.heap.size hz1).trans L1.out)
      clear hb
      go_wp2_with fail
      refine (HR.out w2 HB2.out).mono ?_
      rintro e w3 ⟨rfl, hb⟩
      have HB3 := Lib.hid (HB2.out.trans (hb.mono HB2.out.size))
      clear hb x0 x1 x2 x3
      go_wp2_with fail
      refine (law17_awake w3).mono ?_
      rintro e w4 ⟨rfl, hb⟩
      have HB4 := Lib.hid (HB3.out.trans (hb.mono HB3.out.size))
      clear hb
      go_wp2
      go_ret
      exact ⟨rfl, HB4.out⟩
def numT (v : Int) : Tm := .mk 1 v e0 []
def sumT (v u : Int) : Tm := .mk 6 0 e0 [.mk 5 0 e0 [numT v, numT u], numT u]
def notT (v : Int) : Tm := .mk 4 0 e0 [.mk 4 0 e0 [numT v]]
theorem num_formed {d : Nat} {v : Int} (h : In32 v) : formedF (d + 1) (numT v) = true := by
  have h0 := h.1; have h1 := h.2
  unfold formedF
  rw [show formB (numT v) = true from (form_num (t := numT v) rfl).trans (by simp only [decide_eq_true_eq]; exact ⟨rfl, rfl, h0, h1⟩)]
  rfl
theorem num_val {d : Nat} {v : Int} (h : In32 v) : valF [] [] (d + 1) (numT v) = some v := by
  show some (u32 v) = some v
  have h0 := h.1; have h1 := h.2
  unfold u32
  rw [Int.emod_eq_of_lt h0 h1]
theorem sum_val {v u : Int} (hv : In32 v) (hu : In32 u) : evalR 3 (sumT v u) [] [] = (v, 0) := by
  have hd : deepF 16 (sumT v u) = false := rfl
  have hf1 : formedF 2 (.mk 5 0 e0 [numT v, numT u]) = true := by
    show (formB (.mk 5 0 e0 [numT v, numT u]) && (formedF 1 (numT v) && (formedF 1 (numT u) && true))) = true
    rw [num_formed hv, num_formed hu]; rfl
  have hf : formedF 3 (sumT v u) = true := by
    show (formB (sumT v u) && (formedF 2 (.mk 5 0 e0 [numT v, numT u]) && (formedF 2 (numT u) && true))) = true
    rw [hf1, num_formed hu]; rfl
  have e1 : valF [] [] 2 (.mk 5 0 e0 [numT v, numT u]) = some (u32 (v + u)) := by
    show binO 5 (valF [] [] 1 (numT v)) (valF [] [] 1 (numT u)) = _
    rw [num_val hv, num_val hu]; rfl
  have e2 : valF [] [] 3 (sumT v u) = some v := by
    show binO 6 (valF [] [] 2 (.mk 5 0 e0 [numT v, numT u])) (valF [] [] 2 (numT u)) = _
    rw [e1, num_val hu]
    show some (u32 (u32 (v + u) - u)) = some v
    have h0 := hv.1; have h1 := hv.2; have h2 := hu.1; have h3 := hu.2
    unfold u32
    congr 1
    omega
  unfold evalR
  rw [if_neg (by rw [hd]; decide), if_neg (by rw [hf]; decide), e2]
theorem not_val {v : Int} (hv : In32 v) : evalR 3 (notT v) [] [] = (v, 0) := by
  have hd : deepF 16 (notT v) = false := rfl
  have hf1 : formedF 2 (.mk 4 0 e0 [numT v]) = true := by
    show (formB (.mk 4 0 e0 [numT v]) && (formedF 1 (numT v) && true)) = true
    rw [num_formed hv]; rfl
  have hf : formedF 3 (notT v) = true := by
    show (formB (notT v) && (formedF 2 (.mk 4 0 e0 [numT v]) && true)) = true
    rw [hf1]; rfl
  have e1 : valF [] [] 2 (.mk 4 0 e0 [numT v]) = some (4294967295 - v) := by
    show (valF [] [] 1 (numT v)).map (unV 4) = _
    rw [num_val hv]; rfl
  have e2 : valF [] [] 3 (notT v) = some v := by
    show (valF [] [] 2 (.mk 4 0 e0 [numT v])).map (unV 4) = _
    rw [e1]
    show some (4294967295 - (4294967295 - v)) = some v
    congr 1
    omega
  unfold evalR
  rw [if_neg (by rw [hd]; decide), if_neg (by rw [hf]; decide), e2]
theorem eval_bd {d : Nat} {t : Tm} {names : List ByteArray} {vals : List Int} : In32 (evalR d t names vals).1 := by
  unfold evalR
  split
  · exact ⟨by decide, by decide⟩
  · split
    · exact ⟨by decide, by decide⟩
    · split
      · exact ⟨by decide, by decide⟩
      · rename_i v hv
        exact val_bd hv
theorem mk_ok {op n : Int} {l : List Tm} (ho : -9223372036854775808 ≤ op ∧ op ≤ 9223372036854775807) (hn : -9223372036854775808 ≤ n ∧ n ≤ 9223372036854775807) (hl : l.length ≤ 9223372036854775807) : (Tm.mk op n e0 l).ok :=
  ⟨ho, hn, by show e0.size ≤ _; decide, hl⟩
theorem num_ok {v : Int} (h : In32 v) : (numT v).ok := mk_ok (by decide) ⟨by have := h.1; omega, by have := h.2; omega⟩ (by decide)
theorem sum_lies {w : World} {b1 b2 B : Nat} {v u : Int} {T : TypeId} (hv : In32 v) (hu : In32 u) (h1 : b1 < B) (h2 : b2 < B)
    (l1 : w.heap[b1]? = some (.cells #[.int .i64 1, .int .i64 v, .string ⟨#[]⟩, .slice none 0 0, .int .i64 1, .int .i64 u, .string ⟨#[]⟩, .slice none 0 0] T (0, 0)))
    (l2 : w.heap[b2]? = some (.cells #[.int .i64 5, .int .i64 0, .string ⟨#[]⟩, .slice (some ⟨b1, 0, none⟩) 2 2, .int .i64 1, .int .i64 u, .string ⟨#[]⟩, .slice none 0 0] T (0, 0))) :
    Lies w B 3 (sumT v u) (tmCells (sumT v u) (some ⟨b2, 0, none⟩) 2) := by
  have n1 : LiesF w (fun _ => True) B 1 (numT v) (tmCells (numT v) none 0) := LiesF.leaf (num_ok hv)
  have n2 : LiesF w (fun _ => True) B 1 (numT u) (tmCells (numT u) none 0) := LiesF.leaf (num_ok hu)
  have a1 := LiesF.two (op := 5) (n := 0) (nm := e0) (c' := 2) n1 n2 (mk_ok (by decide) (by decide) (by simp)) trivial h1 (Nat.le_refl _) (cell_of_row _ _ 0 _ _ _ l1) (cell_of_row _ _ 1 _ _ _ l1) (cell_of_row _ _ 2 _ _ _ l1) (cell_of_row _ _ 3 _ _ _ l1) (cell_of_row _ _ 4 _ _ _ l1) (cell_of_row _ _ 5 _ _ _ l1) (cell_of_row _ _ 6 _ _ _ l1) (cell_of_row _ _ 7 _ _ _ l1)
  exact (LiesF.two (op := 6) (n := 0) (nm := e0) (c' := 2) a1 (n2.deeper (by omega)) (mk_ok (by decide) (by decide) (by simp)) trivial h2 (Nat.le_refl _) (cell_of_row _ _ 0 _ _ _ l2) (cell_of_row _ _ 1 _ _ _ l2) (cell_of_row _ _ 2 _ _ _ l2) (cell_of_row _ _ 3 _ _ _ l2) (cell_of_row _ _ 4 _ _ _ l2) (cell_of_row _ _ 5 _ _ _ l2) (cell_of_row _ _ 6 _ _ _ l2) (cell_of_row _ _ 7 _ _ _ l2)).lies
theorem not_lies {w : World} {b1 b2 B : Nat} {v : Int} {T : TypeId} (hv : In32 v) (h1 : b1 < B) (h2 : b2 < B)
    (l1 : w.heap[b1]? = some (.cells #[.int .i64 1, .int .i64 v, .string ⟨#[]⟩, .slice none 0 0] T (0, 0)))
    (l2 : w.heap[b2]? = some (.cells #[.int .i64 4, .int .i64 0, .string ⟨#[]⟩, .slice (some ⟨b1, 0, none⟩) 1 1] T (0, 0))) :
    Lies w B 3 (notT v) (tmCells (notT v) (some ⟨b2, 0, none⟩) 1) := by
  have n1 : LiesF w (fun _ => True) B 1 (numT v) (tmCells (numT v) none 0) := LiesF.leaf (num_ok hv)
  have a1 := LiesF.one (op := 4) (n := 0) (nm := e0) (c' := 1) n1 (mk_ok (by decide) (by decide) (by simp)) trivial h1 (Nat.le_refl _) (cell_of_row _ _ 0 _ _ _ l1) (cell_of_row _ _ 1 _ _ _ l1) (cell_of_row _ _ 2 _ _ _ l1) (cell_of_row _ _ 3 _ _ _ l1)
  exact (LiesF.one (op := 4) (n := 0) (nm := e0) (c' := 1) a1 (mk_ok (by decide) (by decide) (by simp)) trivial h2 (Nat.le_refl _) (cell_of_row _ _ 0 _ _ _ l2) (cell_of_row _ _ 1 _ _ _ l2) (cell_of_row _ _ 2 _ _ _ l2) (cell_of_row _ _ 3 _ _ _ l2)).lies
theorem eight_gen (w : World) (o1 o2 o3 o4 o5 o6 o7 o8 : Obj) (W : World) (hW : W = ((((((((w.alloc o1).alloc o2).alloc o3).alloc o4).alloc o5).alloc o6).alloc o7).alloc o8)) :
    Below w.heap.size w W ∧ W.heap[w.heap.size + 1 + 1]? = some o3 ∧ W.heap[w.heap.size + 1 + 1 + 1]? = some o4 ∧ W.heap[w.heap.size + 1 + 1 + 1 + 1 + 1]? = some o6 ∧
    W.heap[w.heap.size + 1 + 1 + 1 + 1 + 1 + 1]? = some o7 ∧ W.heap[w.heap.size + 1 + 1 + 1 + 1 + 1 + 1 + 1]? = some o8 ∧ W.heap.size = w.heap.size + 8 := by
  have hs : ∀ (w : World) (o : Obj), (w.alloc o).heap.size = w.heap.size + 1 := fun w o => by simp
  have hb : Below w.heap.size w W := by
    rw [hW]
    exact ((((((((Below.refl _ _).alloc (Nat.le_refl _) _).alloc (by rw [hs]; omega) _).alloc (by rw [hs, hs]; omega) _).alloc (by rw [hs, hs, hs]; omega) _).alloc (by rw [hs, hs, hs, hs]; omega) _).alloc (by rw [hs, hs, hs, hs, hs]; omega) _).alloc (by rw [hs, hs, hs, hs, hs, hs]; omega) _).alloc (by rw [hs, hs, hs, hs, hs, hs, hs]; omega) _
  subst hW
  refine ⟨hb, ?_, ?_, ?_, ?_, ?_, ?_⟩
  · rw [Below.heap_alloc _ _ _ (by simp only [hs]; omega), Below.heap_alloc _ _ _ (by simp only [hs]; omega), Below.heap_alloc _ _ _ (by simp only [hs]; omega), Below.heap_alloc _ _ _ (by simp only [hs]; omega), Below.heap_alloc _ _ _ (by simp only [hs]; omega)]
    rw [show w.heap.size + 1 + 1 = ((w.alloc o1).alloc o2).heap.size by rw [hs, hs]]; exact heap_alloc_new _ _
  · rw [Below.heap_alloc _ _ _ (by simp only [hs]; omega), Below.heap_alloc _ _ _ (by simp only [hs]; omega), Below.heap_alloc _ _ _ (by simp only [hs]; omega), Below.heap_alloc _ _ _ (by simp only [hs]; omega)]
    rw [show w.heap.size + 1 + 1 + 1 = (((w.alloc o1).alloc o2).alloc o3).heap.size by rw [hs, hs, hs]]; exact heap_alloc_new _ _
  · rw [Below.heap_alloc _ _ _ (by simp only [hs]; omega), Below.heap_alloc _ _ _ (by simp only [hs]; omega)]
    rw [show w.heap.size + 1 + 1 + 1 + 1 + 1 = (((((w.alloc o1).alloc o2).alloc o3).alloc o4).alloc o5).heap.size by rw [hs, hs, hs, hs, hs]]; exact heap_alloc_new _ _
  · rw [Below.heap_alloc _ _ _ (by simp only [hs]; omega)]
    rw [show w.heap.size + 1 + 1 + 1 + 1 + 1 + 1 = ((((((w.alloc o1).alloc o2).alloc o3).alloc o4).alloc o5).alloc o6).heap.size by rw [hs, hs, hs, hs, hs, hs]]; exact heap_alloc_new _ _
  · rw [show w.heap.size + 1 + 1 + 1 + 1 + 1 + 1 + 1 = (((((((w.alloc o1).alloc o2).alloc o3).alloc o4).alloc o5).alloc o6).alloc o7).heap.size by rw [hs, hs, hs, hs, hs, hs, hs]]; exact heap_alloc_new _ _
  · simp only [hs]
theorem eight_facts (w4 : World) (v u : Int) (W : World) (hW : W = ((((((((w4.alloc (.cells #[.int .i64 1, .int .i64 v, .string ⟨#[]⟩, .slice none 0 0] 24)).alloc (.cells #[.int .i64 1, .int .i64 u, .string ⟨#[]⟩, .slice none 0 0] 24)).alloc (.cells #[.int .i64 1, .int .i64 v, .string ⟨#[]⟩, .slice none 0 0, .int .i64 1, .int .i64 u, .string ⟨#[]⟩, .slice none 0 0] 24)).alloc (.cells #[.int .i64 5, .int .i64 0, .string ⟨#[]⟩, .slice (some ⟨w4.heap.size + 1 + 1, 0, none⟩) 2 2, .int .i64 1, .int .i64 u, .string ⟨#[]⟩, .slice none 0 0] 24)).alloc (.cells #[.int .i64 6, .int .i64 0, .string ⟨#[]⟩, .slice (some ⟨w4.heap.size + 1 + 1 + 1, 0, none⟩) 2 2] 24)).alloc (.cells #[.int .i64 1, .int .i64 v, .string ⟨#[]⟩, .slice none 0 0] 24)).alloc (.cells #[.int .i64 4, .int .i64 0, .string ⟨#[]⟩, .slice (some ⟨w4.heap.size + 1 + 1 + 1 + 1 + 1, 0, none⟩) 1 1] 24)).alloc (.cells #[.int .i64 4, .int .i64 0, .string ⟨#[]⟩, .slice (some ⟨w4.heap.size + 1 + 1 + 1 + 1 + 1 + 1, 0, none⟩) 1 1] 24))) :
    Below w4.heap.size w4 W ∧ W.heap[w4.heap.size + 1 + 1]? = some (.cells #[.int .i64 1, .int .i64 v, .string ⟨#[]⟩, .slice none 0 0, .int .i64 1, .int .i64 u, .string ⟨#[]⟩, .slice none 0 0] 24) ∧ W.heap[w4.heap.size + 1 + 1 + 1]? = some (.cells #[.int .i64 5, .int .i64 0, .string ⟨#[]⟩, .slice (some ⟨w4.heap.size + 1 + 1, 0, none⟩) 2 2, .int .i64 1, .int .i64 u, .string ⟨#[]⟩, .slice none 0 0] 24) ∧ W.heap[w4.heap.size + 1 + 1 + 1 + 1 + 1]? = some (.cells #[.int .i64 1, .int .i64 v, .string ⟨#[]⟩, .slice none 0 0] 24) ∧
    W.heap[w4.heap.size + 1 + 1 + 1 + 1 + 1 + 1]? = some (.cells #[.int .i64 4, .int .i64 0, .string ⟨#[]⟩, .slice (some ⟨w4.heap.size + 1 + 1 + 1 + 1 + 1, 0, none⟩) 1 1] 24) ∧ W.heap[w4.heap.size + 1 + 1 + 1 + 1 + 1 + 1 + 1]? = some (.cells #[.int .i64 4, .int .i64 0, .string ⟨#[]⟩, .slice (some ⟨w4.heap.size + 1 + 1 + 1 + 1 + 1 + 1, 0, none⟩) 1 1] 24) ∧ W.heap.size = w4.heap.size + 8 := by
  exact eight_gen w4 _ _ _ _ _ _ _ _ W hW
theorem bne0 {z : Int} (h : z ≠ 0) : (z != 0) = true := by simpa using h
theorem abc_nms {w : World} {b B : Nat} (hb : b < B) (l : w.heap[b]? = some (.cells #[.string ⟨#[97]⟩, .string ⟨#[98]⟩, .string ⟨#[99]⟩] 9 (0, 0))) : Nms w B (some ⟨b, 0, none⟩) 3 [⟨#[97]⟩, ⟨#[98]⟩, ⟨#[99]⟩] := by
  refine ⟨rfl, fun _ => ⟨⟨b, 0, none⟩, rfl, hb, fun j u hu => ?_⟩⟩
  match j, hu with
  | 0, hu => cases hu; exact cell_of_row _ _ 0 _ _ _ l
  | 1, hu => cases hu; exact cell_of_row _ _ 1 _ _ _ l
  | 2, hu => cases hu; exact cell_of_row _ _ 2 _ _ _ l
set_option maxRecDepth 100000 in
set_option maxHeartbeats 8000000 in
theorem law_ExprsWord (k k2 : Nat) (t x : Tm) (vals : List Int) (A A2 AV : Option Addr) (c c2 nV cV : Nat) (w : World) (hl : Lies w w.heap.size k t (tmCells t A c)) (hx : Lies w w.heap.size k2 x (tmCells x A2 c2)) (hV : Ints w w.heap.size AV nV vals) (hn2 : nV ≤ 9223372036854775807) :
    Calls Try.prog 4 #[tmV t A c, tmV x A2 c2, .slice AV nV cV] w (TrueB w) := by
  have hb0 : Below w.heap.size w ((w.alloc (.cells #[.int .i64 t.op, .int .i64 t.n, .string t.name, .slice A t.args.length c] 24)).alloc (.cells #[.int .i64 x.op, .int .i64 x.n, .string x.name, .slice A2 x.args.length c2] 24)) := ((Below.refl _ _).alloc (Nat.le_refl _) _).alloc (by simp) _
  have L0 := Lib.hid ((Below.heap_alloc (w.alloc (.cells #[.int .i64 t.op, .int .i64 t.n, .string t.name, .slice A t.args.length c] 24)) (.cells #[.int .i64 x.op, .int .i64 x.n, .string x.name, .slice A2 x.args.length c2] 24) w.heap.size (by simp)).trans (heap_alloc_new w (.cells #[.int .i64 t.op, .int .i64 t.n, .string t.name, .slice A t.args.length c] 24)))
  have hx0 := heap_alloc_new (w.alloc (.cells #[.int .i64 t.op, .int .i64 t.n, .string t.name, .slice A t.args.length c] 24)) (.cells #[.int .i64 x.op, .int .i64 x.n, .string x.name, .slice A2 x.args.length c2] 24)
  rw [show (w.alloc (.cells #[.int .i64 t.op, .int .i64 t.n, .string t.name, .slice A t.args.length c] 24)).heap.size = w.heap.size + 1 by simp] at hx0
  have X0 := Lib.hid hx0
  have HF := Lib.hid (few_any k t A c _ (hl.on hb0))
  have HF2 := Lib.hid (fun w1 (hb : Below w.heap.size w w1) => few_any k2 x A2 c2 w1 (hx.on hb))
  have HE := Lib.hid (fun AN names w1 (hb : Below w.heap.size w w1) (hN : Nms w1 w1.heap.size AN 3 names) => ex_Eval k t names vals A AN AV c 3 3 nV cV w1 (hl.on hb) hN (ints_on hV hb) (by omega) hn2)
  have HE2 := Lib.hid (fun AN names w1 (hb : Below w.heap.size w w1) (hN : Nms w1 w1.heap.size AN 3 names) => ex_Eval k2 x names vals A2 AN AV c2 3 3 nV cV w1 (hx.on hb) hN (ints_on hV hb) (by omega) hn2)
  have HB0 := Lib.hid hb0
  clear hl hx hV hb0 hn2 hx0
  unfold tmV at HF HF2 HE HE2 ⊢
  go_enter Try.func4, Try.ntmps4
  go_wp2_with fail
  refine HF.out.mono ?_
  rintro e w1 ⟨b, rfl, hb⟩
  have HB1 := Lib.hid (HB0.out.trans (hb.mono HB0.out.size))
  have L1 := Lib.hid ((hb.block w.heap.size (by simp; omega)).trans L0.out)
  have X1 := Lib.hid ((hb.block (w.heap.size + 1) (by simp)).trans X0.out)
  have hz1 : w.heap.size + 1 < w1.heap.size := by have := hb.size; simp at this; omega
  clear hb
  cases b with
  | false =>
    go_wp2_with fail
    refine (law17_awake w1).mono ?_
    rintro e w2 ⟨rfl, hb⟩
    go_wp2
    go_ret
    exact ⟨rfl, HB1.out.trans (hb.mono HB1.out.size)⟩
  | true =>
    obtain ⟨y0, y1, y2, y3, _⟩ := box_facts X1.out
    go_wp2_with fail
    refine (HF2.out w1 HB1.out).mono ?_
    rintro e w2 ⟨b, rfl, hb⟩
    have HB2 := Lib.hid (HB1.out.trans (hb.mono HB1.out.size))
    have L2 := Lib.hid ((hb.block w.heap.size (by omega)).trans L1.out)
    have X2 := Lib.hid ((hb.block (w.heap.size + 1) hz1).trans X1.out)
    have hz2 : w.heap.size + 1 < w2.heap.size := Nat.lt_of_lt_of_le hz1 hb.size
    clear hb y0 y1 y2 y3
    cases b with
    | false =>
      go_wp2_with fail
      refine (law17_awake w2).mono ?_
      rintro e w3 ⟨rfl, hb⟩
      go_wp2
      go_ret
      exact ⟨rfl, HB2.out.trans (hb.mono HB2.out.size)⟩
    | true =>
      have hb3 : Below w2.heap.size w2 (w2.alloc (.cells #[.string ⟨#[97]⟩, .string ⟨#[98]⟩, .string ⟨#[99]⟩] 9)) := (Below.refl _ _).alloc (Nat.le_refl _) _
      have HN3 := Lib.hid (abc_nms (B := (w2.alloc (.cells #[.string ⟨#[97]⟩, .string ⟨#[98]⟩, .string ⟨#[99]⟩] 9)).heap.size) (by simp) (heap_alloc_new w2 (.cells #[.string ⟨#[97]⟩, .string ⟨#[98]⟩, .string ⟨#[99]⟩] 9)))
      have HB3 := Lib.hid (HB2.out.trans (hb3.mono HB2.out.size))
      have L3 := Lib.hid ((hb3.block w.heap.size (by omega)).trans L2.out)
      have X3 := Lib.hid ((hb3.block (w.heap.size + 1) hz2).trans X2.out)
      have HC3 := Lib.hid (HE.out _ _ _ HB3.out HN3.out)
      have hz3 : w.heap.size + 1 < (w2.alloc (.cells #[.string ⟨#[97]⟩, .string ⟨#[98]⟩, .string ⟨#[99]⟩] 9)).heap.size := by simp; omega
      have HZ3 := Lib.hid hz3
      obtain ⟨names, hnames⟩ : ∃ l : List ByteArray, l = [⟨#[97]⟩, ⟨#[98]⟩, ⟨#[99]⟩] := ⟨_, rfl⟩
      rw [← hnames] at HC3 HN3
      have HBD1 := Lib.hid (eval_bd (d := k) (t := t) (names := names) (vals := vals))
      have HBD2 := Lib.hid (eval_bd (d := k2) (t := x) (names := names) (vals := vals))
      obtain ⟨v, hv⟩ : ∃ r, r = (evalR k t names vals).1 := ⟨_, rfl⟩
      obtain ⟨f, hf⟩ : ∃ r, r = (evalR k t names vals).2 := ⟨_, rfl⟩
      obtain ⟨u, hu⟩ : ∃ r, r = (evalR k2 x names vals).1 := ⟨_, rfl⟩
      obtain ⟨g, hg⟩ : ∃ r, r = (evalR k2 x names vals).2 := ⟨_, rfl⟩
      unfold EvalPost at HC3 HE2
      rw [← hv, ← hf] at HC3
      rw [← hv] at HBD1
      rw [← hu] at HBD2
      have HE3 := Lib.hid (show ∀ w1, Below w.heap.size w w1 → Nms w1 w1.heap.size (some ⟨w2.heap.size, 0, none⟩) 3 names → _ from fun w1 h1 h2 => HE2.out _ names w1 h1 h2)
      rw [← hu, ← hg] at HE3
      clear hb3 hz3 hnames hv hf hu hg HE2 HE
      obtain ⟨x0, x1, x2, x3, _⟩ := box_facts L2.out
      have hz20 : w.heap.size < w2.heap.size := by omega
      go_wp2_with fail
      refine HC3.out.mono ?_
      rintro e w3 ⟨rfl, hb⟩
      have HN4 := Lib.hid (HN3.out.on hb)
      have HB4 := Lib.hid (HB3.out.trans (hb.mono HB3.out.size))
      have X4 := Lib.hid ((hb.block (w.heap.size + 1) HZ3.out).trans X3.out)
      obtain ⟨y0, y1, y2, y3, _⟩ := box_facts X4.out
      clear hb x0 x1 x2 x3
      go_wp2_with fail
      refine (HE3.out w3 HB4.out HN4.out).mono ?_
      rintro e w4 ⟨rfl, hb⟩
      have HB5 := Lib.hid (HB4.out.trans (hb.mono HB4.out.size))
      have v0 := HBD1.out.1; have v1 := HBD1.out.2; have u0 := HBD2.out.1; have u1 := HBD2.out.2
      clear hb y0 y1 y2 y3
      by_cases hf : f = 0
      · by_cases hg : g = 0
        · subst hf; subst hg
          obtain ⟨W8, hW8⟩ : ∃ W8, W8 = ((((((((w4.alloc (.cells #[.int .i64 1, .int .i64 v, .string ⟨#[]⟩, .slice none 0 0] 24)).alloc (.cells #[.int .i64 1, .int .i64 u, .string ⟨#[]⟩, .slice none 0 0] 24)).alloc (.cells #[.int .i64 1, .int .i64 v, .string ⟨#[]⟩, .slice none 0 0, .int .i64 1, .int .i64 u, .string ⟨#[]⟩, .slice none 0 0] 24)).alloc (.cells #[.int .i64 5, .int .i64 0, .string ⟨#[]⟩, .slice (some ⟨w4.heap.size + 1 + 1, 0, none⟩) 2 2, .int .i64 1, .int .i64 u, .string ⟨#[]⟩, .slice none 0 0] 24)).alloc (.cells #[.int .i64 6, .int .i64 0, .string ⟨#[]⟩, .slice (some ⟨w4.heap.size + 1 + 1 + 1, 0, none⟩) 2 2] 24)).alloc (.cells #[.int .i64 1, .int .i64 v, .string ⟨#[]⟩, .slice none 0 0] 24)).alloc (.cells #[.int .i64 4, .int .i64 0, .string ⟨#[]⟩, .slice (some ⟨w4.heap.size + 1 + 1 + 1 + 1 + 1, 0, none⟩) 1 1] 24)).alloc (.cells #[.int .i64 4, .int .i64 0, .string ⟨#[]⟩, .slice (some ⟨w4.heap.size + 1 + 1 + 1 + 1 + 1 + 1, 0, none⟩) 1 1] 24)) := ⟨_, rfl⟩
          obtain ⟨hb8, l3, l4, l6, l7, l8, hz8⟩ := eight_facts w4 v u W8 hW8
          have HL8 := Lib.hid (sum_lies (B := W8.heap.size) HBD1.out HBD2.out (by omega) (by omega) l3 l4)
          have HL9 := Lib.hid (not_lies (B := W8.heap.size) HBD1.out (by omega) (by omega) l6 l7)
          have HB8 := Lib.hid (HB5.out.trans (hb8.mono HB5.out.size))
          have LL8 := Lib.hid l8
          have HSV := Lib.hid (sum_val HBD1.out HBD2.out)
          have HNV := Lib.hid (not_val HBD1.out)
          have hz8' : w4.heap.size + 1 + 1 + 1 + 1 + 1 + 1 + 1 < W8.heap.size := by omega
          clear hb8 l3 l4 l6 l7 l8 hz8
          go_wp2_with fail
          rw [← hW8]
          clear hW8
          refine (ex_Eval 3 (sumT v u) [] [] (some ⟨w4.heap.size + 1 + 1 + 1, 0, none⟩) none none 2 0 0 0 0 _ HL8.out Nms.nil Ints.nil (by omega) (by omega)).mono ?_
          rintro e w5 ⟨rfl, hb⟩
          rw [HSV.out]
          have HB6 := Lib.hid (HB8.out.trans (hb.mono HB8.out.size))
          have HL5 := Lib.hid (HL9.out.on hb)
          obtain ⟨z0, z1, z2, z3, _⟩ := box_facts ((hb.block _ hz8').trans LL8.out)
          clear hb
          go_wp2_with fail
          refine (ex_Eval 3 (notT v) [] [] (some ⟨w4.heap.size + 1 + 1 + 1 + 1 + 1 + 1, 0, none⟩) none none 1 0 0 0 0 _ HL5.out Nms.nil Ints.nil (by omega) (by omega)).mono ?_
          rintro e w6 ⟨rfl, hb⟩
          rw [HNV.out]
          have HB7 := Lib.hid (HB6.out.trans (hb.mono HB6.out.size))
          clear hb z0 z1 z2 z3
          go_wp2_with fail
          refine (law17_awake w6).mono ?_
          rintro e w7 ⟨rfl, hb⟩
          have HB9 := Lib.hid (HB7.out.trans (hb.mono HB7.out.size))
          clear hb
          go_wp2
          go_ret
          exact ⟨rfl, HB9.out⟩
        · have hg' := bne0 hg
          clear hg
          subst hf
          go_wp2_with fail
          refine (law17_awake w4).mono ?_
          rintro e w5 ⟨rfl, hb⟩
          go_wp2
          go_ret
          exact ⟨rfl, HB5.out.trans (hb.mono HB5.out.size)⟩
      · have hf' := bne0 hf
        clear hf
        go_wp2_with fail
        refine (law17_awake w4).mono ?_
        rintro e w5 ⟨rfl, hb⟩
        go_wp2
        go_ret
        exact ⟨rfl, HB5.out.trans (hb.mono HB5.out.size)⟩
end Go.Proofs.Ytfknokclemljfaa
