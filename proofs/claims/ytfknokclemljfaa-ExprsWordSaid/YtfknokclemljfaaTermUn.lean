/- Contract of the reader's unary. -/
import Derived.Test.YtfknokclemljfaaTermOp
import Derived.Test.YtfknokclemljfaaTermForm
namespace Go.Proofs.Ytfknokclemljfaa
open Go.RowKit Mem
set_option linter.unusedVariables false
/-- A term was read: its value, and the reader behind it. -/
def TmPost (g : Nat) (A : Option Addr) (n c : Nat) (ks : List Lx.Tk) (t : Tm) (j : Nat) (w : World) (e : Ending) (w' : World) : Prop :=
  ∃ (A' : Option Addr) (c' d : Nat), e = .returned (tmV t A' c') ∧ LiesF w' (fun k => w.heap.size ≤ k) w'.heap.size d t (tmCells t A' c') ∧ Mv g w w' ∧ Rdr w' g A n c ks j
abbrev box0 (T : TypeId) : Obj := .cells #[.int .i64 0, .int .i64 0, .string ⟨#[]⟩, .slice none 0 0] T (0, 0)
section
variable {w w1 : World} {g n c i j : Nat} {A : Option Addr} {ks : List Lx.Tk}
theorem take_yes {s : ByteArray} (hs : isSign ks i s = true) (h : Rdr w g A n c ks i) (hi : i ≤ n) (hn : n ≤ 9223372036854775807) : Calls Try.prog 46 #[.pointer (some ⟨g, 0, none⟩), .string s] w (MvPost (.bool true) g A n c ks (i + 1) w) := by
  have := rd_take g A n c ks i s w h hi hn
  rw [hs, if_pos rfl] at this; exact this
theorem take_no {s : ByteArray} (hs : isSign ks i s = false) (h : Rdr w g A n c ks i) (hi : i ≤ n) (hn : n ≤ 9223372036854775807) : Calls Try.prog 46 #[.pointer (some ⟨g, 0, none⟩), .string s] w (MvPost (.bool false) g A n c ks i w) := by
  have := rd_take g A n c ks i s w h hi hn
  rw [hs, if_neg (by decide)] at this; exact this
/-- What a box holds, cell by cell. -/
theorem box_facts {b : Nat} {a0 a1 a2 a3 : Value} {T : TypeId} (h : w.heap[b]? = some (.cells #[a0, a1, a2, a3] T (0, 0))) :
    w.cell? ⟨b, 0, none⟩ = some a0 ∧ w.cell? ⟨b, 1, none⟩ = some a1 ∧ w.cell? ⟨b, 2, none⟩ = some a2 ∧ w.cell? ⟨b, 3, none⟩ = some a3 ∧
    w.frozen? ⟨b, 0, none⟩ = false ∧ w.frozen? ⟨b, 1, none⟩ = false ∧ w.frozen? ⟨b, 2, none⟩ = false ∧ w.frozen? ⟨b, 3, none⟩ = false :=
  ⟨cell_of_row _ _ 0 _ _ _ h, cell_of_row _ _ 1 _ _ _ h, cell_of_row _ _ 2 _ _ _ h, cell_of_row _ _ 3 _ _ _ h, frozen_of_row _ _ 0 _ _ h, frozen_of_row _ _ 1 _ _ h, frozen_of_row _ _ 2 _ _ h, frozen_of_row _ _ 3 _ _ h⟩
end
abbrev put4 (w : World) (b : Nat) (u0 u1 u2 u3 : Value) : World := (((w.setCell ⟨b, 0, none⟩ u0).setCell ⟨b, 1, none⟩ u1).setCell ⟨b, 2, none⟩ u2).setCell ⟨b, 3, none⟩ u3
section
variable {w w1 w2 : World} {g n c i j b : Nat} {A : Option Addr} {ks : List Lx.Tk} {u0 u1 u2 u3 : Value}
theorem below_put4 {B : Nat} {a : World} (h : Below B a w) (hB : B ≤ b) : Below B a (put4 w b u0 u1 u2 u3) := (((h.setCell (p := ⟨b, 0, none⟩) hB _).setCell (p := ⟨b, 1, none⟩) hB _).setCell (p := ⟨b, 2, none⟩) hB _).setCell (p := ⟨b, 3, none⟩) hB _
theorem Mv.put4 (h : Mv g w w2) (hb : w.heap.size ≤ b) (hg : g < w.heap.size) : Mv g w (put4 w2 b u0 u1 u2 u3) :=
  ⟨below_put4 h.low (by omega), fun k hk hkg => (set4_other (by omega)).trans (h.block k hk hkg)⟩
theorem Mv.alloc (h : Mv g w w2) (hg : g < w.heap.size) (o : Obj) : Mv g w (w2.alloc o) :=
  h.trans (Mv.of_below ((Below.refl _ _).alloc (Nat.le_refl _) _) (Nat.lt_of_lt_of_le hg h.size))
theorem Rdr.put4 (h : Rdr w g A n c ks i) (hb : g < b) : Rdr (put4 w b u0 u1 u2 u3) g A n c ks i :=
  have e : (Go.Proofs.Ytfknokclemljfaa.put4 w b u0 u1 u2 u3).heap[g]? = w.heap[g]? := set4_other (by omega)
  ⟨h.toks.below (below_put4 (Below.refl _ _) (Nat.le_of_lt hb)), by rw [set4_size]; exact h.lt, (World.cell?_of_block (w := w) (a := ⟨g, 0, none⟩) e).trans h.c0, (World.cell?_of_block (w := w) (a := ⟨g, 1, none⟩) e).trans h.c1, (World.frozen?_of_block (w := w) (a := ⟨g, 1, none⟩) e).trans h.fz⟩
theorem LiesF.put4 {K : Nat → Prop} {B d : Nat} {t : Tm} {cs : List Value} (h : LiesF w K B d t cs) (hb : ¬ K b) : LiesF (put4 w b u0 u1 u2 u3) K B d t cs :=
  h.keep (fun p h1 _ => World.cell?_of_block (w := w) (set4_other (fun e => hb (by rw [← e]; exact h1)))) (fun _ _ h => h) (Nat.le_refl _)
theorem LiesF.alloc {K : Nat → Prop} {d : Nat} {t : Tm} {cs : List Value} (h : LiesF w K w.heap.size d t cs) (o : Obj) : LiesF (w.alloc o) K (w.alloc o).heap.size d t cs :=
  h.keep (fun p _ h2 => World.cell?_alloc_lt w o p h2) (fun _ _ h => h) (by simp)
end
/-- The world behind a sign ahead of a term. -/
theorem pre_done {g n c j d c' : Nat} {A A' : Option Addr} {ks : List Lx.Tk} {x : Tm} {op : Int} {w w1 w2 : World} {T : TypeId} {a0 a1 a2 a3 : Value} (hop : 3 ≤ op ∧ op ≤ 4) (hgl : g < w.heap.size) (hz1 : w.heap.size < w1.heap.size) (hm : Mv g w w2) (hz2 : w1.heap.size ≤ w2.heap.size) (hr : Rdr w2 g A n c ks j)
    (hl : LiesF w2 (fun k => w1.heap.size ≤ k) w2.heap.size d x (tmCells x A' c')) (l2 : w2.heap[w.heap.size]? = some (.cells #[a0, a1, a2, a3] T (0, 0))) (W : World)
    (hW : W = (put4 w2 w.heap.size (.int .i64 op) (.int .i64 0) (.string ⟨#[]⟩) (.slice (some ⟨w2.heap.size, 0, none⟩) 1 1)).alloc (.cells #[.int .i64 x.op, .int .i64 x.n, .string x.name, .slice A' x.args.length c'] T)) :
    W.heap[w.heap.size]? = some (.cells #[.int .i64 op, .int .i64 0, .string ⟨#[]⟩, .slice (some ⟨w2.heap.size, 0, none⟩) 1 1] T (0, 0)) ∧
    LiesF W (fun k => w.heap.size ≤ k) W.heap.size (d + 1) (.mk op 0 e0 [x]) (tmCells (.mk op 0 e0 [x]) (some ⟨w2.heap.size, 0, none⟩) 1) ∧ Mv g w W ∧ Rdr W g A n c ks j := by
  obtain ⟨V, hV⟩ : ∃ V, V = put4 w2 w.heap.size (.int .i64 op) (.int .i64 0) (.string ⟨#[]⟩) (.slice (some ⟨w2.heap.size, 0, none⟩) 1 1) := ⟨_, rfl⟩
  have hvz : V.heap.size = w2.heap.size := by rw [hV]; exact set4_size
  have hvm : Mv g w V := by rw [hV]; exact hm.put4 (Nat.le_refl _) hgl
  have hvr : Rdr V g A n c ks j := by rw [hV]; exact hr.put4 hgl
  have hvl : LiesF V (fun k => w1.heap.size ≤ k) V.heap.size d x (tmCells x A' c') := by rw [hvz, hV]; exact hl.put4 (by omega)
  have hv0 : V.heap[w.heap.size]? = some (.cells #[.int .i64 op, .int .i64 0, .string ⟨#[]⟩, .slice (some ⟨w2.heap.size, 0, none⟩) 1 1] T (0, 0)) := by rw [hV]; exact set4 l2
  rw [← hV] at hW
  subst hW
  have hn := heap_alloc_new V (.cells #[.int .i64 x.op, .int .i64 x.n, .string x.name, .slice A' x.args.length c'] T)
  obtain ⟨c0, c1, c2, c3, _⟩ := box_facts hn
  have hxo := hl.lies.form.1
  have hok : (Tm.mk op 0 e0 [x]).ok := ⟨⟨by show _ ≤ op; omega, by show op ≤ _; omega⟩, by simp [Tm.n], by show e0.size ≤ _; decide, by simp [Tm.args]⟩
  rw [hvz] at c0 c1 c2 c3
  refine ⟨(Below.heap_alloc V _ _ (by omega)).trans hv0, ?_, hvm.alloc hgl _, hvr.on ((Below.refl _ _).alloc (Nat.le_refl _) _)⟩
  exact ((hvl.alloc _).keep (fun _ _ _ => rfl) (fun k _ hk => by show w.heap.size ≤ k; omega) (Nat.le_refl _)).one hok (by show w.heap.size ≤ w2.heap.size; omega) (by simp; omega) (Nat.le_refl _) c0 c1 c2 c3
set_option maxRecDepth 100000 in
set_option maxHeartbeats 2000000 in
theorem un_neg (g : Nat) (A : Option Addr) (n c : Nat) (ks : List Lx.Tk) (i j : Nat) (x : Tm) (w : World) (h : Rdr w g A n c ks i) (hi : i ≤ n) (hn : n ≤ 9223372036854775807) (hs : isSign ks i ⟨#[45]⟩ = true)
    (HX : ∀ w1, Rdr w1 g A n c ks (i + 1) → Calls Try.prog 38 #[.pointer (some ⟨g, 0, none⟩)] w1 (TmPost g A n c ks x j w1)) :
    Calls Try.prog 38 #[.pointer (some ⟨g, 0, none⟩)] w (TmPost g A n c ks (.mk 3 0 e0 [x]) j w) := by
  have hgl := h.lt
  have hb0 : Below w.heap.size w (w.alloc (box0 24)) := (Below.refl _ _).alloc (Nat.le_refl _) _
  have HT := Lib.hid (take_yes hs (h.on hb0) hi hn)
  have HXX := Lib.hid HX
  have HM0 := Lib.hid (Mv.of_below hb0 hgl)
  have L0 := Lib.hid (heap_alloc_new w (box0 24))
  clear h hi hn hs HX hb0
  go_enter Try.func38, Try.ntmps38
  go_wp2_with fail
  refine HT.out.mono ?_
  rintro e w1 ⟨rfl, hm1, hr1⟩
  have HM1 := Lib.hid hm1; have HR1 := Lib.hid hr1
  have L1 := Lib.hid ((hm1.block w.heap.size (by simp) (by omega)).trans L0.out)
  have hz1 := HM1.out.size
  rw [show (w.alloc (box0 24)).heap.size = w.heap.size + 1 by simp] at hz1
  clear hm1 hr1
  go_wp2_with fail
  refine (HXX.out w1 HR1.out).mono ?_
  rintro e w2 ⟨A', c', d, rfl, hl, hm2, hr2⟩
  have HM2 := Lib.hid hm2; have HR2 := Lib.hid hr2; have HL := Lib.hid hl
  have hz2 := HM2.out.size
  have L2 := Lib.hid ((hm2.block w.heap.size (by omega) (by omega)).trans L1.out)
  obtain ⟨x0, x1, x2, x3, f0, f1, f2, f3⟩ := box_facts L2.out
  have hzz : w.heap.size < w2.heap.size := by omega
  have HZ := Lib.hid (show w.heap.size < w1.heap.size by omega); have HZ2 := Lib.hid hz2
  clear hm2 hr2 hl hz1 hz2
  go_wp2
  obtain ⟨hw0, hwl, hwm, hwr⟩ := pre_done (op := 3) (by omega) hgl HZ.out (HM0.out.trans (HM1.out.trans HM2.out)) HZ2.out HR2.out HL.out L2.out _ rfl
  generalize World.alloc _ _ = W at hw0 hwl hwm hwr ⊢
  obtain ⟨y0, y1, y2, y3, _⟩ := box_facts hw0
  refine bodyPost_ret (v := .agg #[.int .i64 3, .int .i64 0, .string ⟨#[]⟩, .slice (some ⟨w2.heap.size, 0, none⟩) 1 1]) (by simp [results, Try.results38, go_sem, y0, y1, y2, y3]) rfl ⟨_, _, _, rfl, hwl, hwm, hwr⟩
set_option maxRecDepth 100000 in
set_option maxHeartbeats 2000000 in
theorem un_not (g : Nat) (A : Option Addr) (n c : Nat) (ks : List Lx.Tk) (i j : Nat) (x : Tm) (w : World) (h : Rdr w g A n c ks i) (hi : i ≤ n) (hn : n ≤ 9223372036854775807) (hs0 : isSign ks i ⟨#[45]⟩ = false) (hs : isSign ks i ⟨#[126]⟩ = true)
    (HX : ∀ w1, Rdr w1 g A n c ks (i + 1) → Calls Try.prog 38 #[.pointer (some ⟨g, 0, none⟩)] w1 (TmPost g A n c ks x j w1)) :
    Calls Try.prog 38 #[.pointer (some ⟨g, 0, none⟩)] w (TmPost g A n c ks (.mk 4 0 e0 [x]) j w) := by
  have hgl := h.lt
  have hb0 : Below w.heap.size w (w.alloc (box0 24)) := (Below.refl _ _).alloc (Nat.le_refl _) _
  have HT0 := Lib.hid (take_no hs0 (h.on hb0) hi hn)
  have HT := Lib.hid (fun w1 (h1 : Rdr w1 g A n c ks i) => take_yes hs h1 hi hn)
  have HXX := Lib.hid HX
  have HM0 := Lib.hid (Mv.of_below hb0 hgl)
  have L0 := Lib.hid (heap_alloc_new w (box0 24))
  clear h hi hn hs hs0 HX hb0
  go_enter Try.func38, Try.ntmps38
  go_wp2_with fail
  refine HT0.out.mono ?_
  rintro e wa ⟨rfl, hma, hra⟩
  have HMA := Lib.hid (HM0.out.trans hma); have HRA := Lib.hid hra
  have LA := Lib.hid ((hma.block w.heap.size (by simp) (by omega)).trans L0.out)
  have hza := hma.size
  rw [show (w.alloc (box0 24)).heap.size = w.heap.size + 1 by simp] at hza
  clear hma hra
  go_wp2_with fail
  refine (HT.out wa HRA.out).mono ?_
  rintro e w1 ⟨rfl, hm1, hr1⟩
  have HM1 := Lib.hid hm1; have HR1 := Lib.hid hr1
  have L1 := Lib.hid ((hm1.block w.heap.size (by omega) (by omega)).trans LA.out)
  have hz1 := HM1.out.size
  clear hm1 hr1
  go_wp2_with fail
  refine (HXX.out w1 HR1.out).mono ?_
  rintro e w2 ⟨A', c', d, rfl, hl, hm2, hr2⟩
  have HM2 := Lib.hid hm2; have HR2 := Lib.hid hr2; have HL := Lib.hid hl
  have hz2 := HM2.out.size
  have L2 := Lib.hid ((hm2.block w.heap.size (by omega) (by omega)).trans L1.out)
  obtain ⟨x0, x1, x2, x3, f0, f1, f2, f3⟩ := box_facts L2.out
  have hzz : w.heap.size < w2.heap.size := by omega
  have HZ := Lib.hid (show w.heap.size < w1.heap.size by omega); have HZ2 := Lib.hid hz2
  clear hm2 hr2 hl hz1 hz2 hza
  go_wp2
  obtain ⟨hw0, hwl, hwm, hwr⟩ := pre_done (op := 4) (by omega) hgl HZ.out (HMA.out.trans (HM1.out.trans HM2.out)) HZ2.out HR2.out HL.out L2.out _ rfl
  generalize World.alloc _ _ = W at hw0 hwl hwm hwr ⊢
  obtain ⟨y0, y1, y2, y3, _⟩ := box_facts hw0
  refine bodyPost_ret (v := .agg #[.int .i64 4, .int .i64 0, .string ⟨#[]⟩, .slice (some ⟨w2.heap.size, 0, none⟩) 1 1]) (by simp [results, Try.results38, go_sem, y0, y1, y2, y3]) rfl ⟨_, _, _, rfl, hwl, hwm, hwr⟩
/-- The world behind a term in brackets: its box is loaded, the result's stored. -/
theorem put_done {g n c j d c' : Nat} {A A' : Option Addr} {ks : List Lx.Tk} {x : Tm} {K : Nat → Prop} {w w2 : World} {T : TypeId} {a0 a1 a2 a3 : Value} (hgl : g < w.heap.size) (hz2 : w.heap.size < w2.heap.size) (hm : Mv g w w2) (hr : Rdr w2 g A n c ks j)
    (hl : LiesF w2 K w2.heap.size d x (tmCells x A' c')) (hK : ∀ k, k < w2.heap.size → K k → w.heap.size < k) (l2 : w2.heap[w.heap.size]? = some (.cells #[a0, a1, a2, a3] T (0, 0))) (W : World)
    (hW : W = put4 w2 w.heap.size (.int .i64 x.op) (.int .i64 x.n) (.string x.name) (.slice A' x.args.length c')) :
    W.heap[w.heap.size]? = some (.cells #[.int .i64 x.op, .int .i64 x.n, .string x.name, .slice A' x.args.length c'] T (0, 0)) ∧
    LiesF W (fun k => w.heap.size ≤ k) W.heap.size d x (tmCells x A' c') ∧ Mv g w W ∧ Rdr W g A n c ks j := by
  have hvz : W.heap.size = w2.heap.size := by rw [hW]; exact set4_size
  refine ⟨by rw [hW]; exact set4 l2, ?_, by rw [hW]; exact hm.put4 (Nat.le_refl _) hgl, by rw [hW]; exact hr.put4 hgl⟩
  rw [hvz, hW]
  exact (hl.keep (K' := fun k => w.heap.size < k) (fun _ _ _ => rfl) hK (Nat.le_refl _)).put4 (Nat.lt_irrefl _) |>.keep (fun _ _ _ => rfl) (fun k _ (hk : w.heap.size < k) => Nat.le_of_lt hk) (Nat.le_refl _)
set_option maxRecDepth 100000 in
set_option maxHeartbeats 4000000 in
theorem un_par (g : Nat) (A : Option Addr) (n c : Nat) (ks : List Lx.Tk) (i j : Nat) (x : Tm) (w : World) (h : Rdr w g A n c ks i) (hi : i ≤ n) (hj : j ≤ n) (hn : n ≤ 9223372036854775807) (hs0 : isSign ks i ⟨#[45]⟩ = false) (hs1 : isSign ks i ⟨#[126]⟩ = false) (hs : isSign ks i ⟨#[40]⟩ = true) (hs2 : isSign ks j ⟨#[41]⟩ = true)
    (HX : ∀ w1, Rdr w1 g A n c ks (i + 1) → Calls Try.prog 27 #[.pointer (some ⟨g, 0, none⟩), .int .i64 1] w1 (TmPost g A n c ks x j w1)) :
    Calls Try.prog 38 #[.pointer (some ⟨g, 0, none⟩)] w (TmPost g A n c ks x (j + 1) w) := by
  have hgl := h.lt
  have hb0 : Below w.heap.size w (w.alloc (box0 24)) := (Below.refl _ _).alloc (Nat.le_refl _) _
  have HT0 := Lib.hid (take_no hs0 (h.on hb0) hi hn)
  have HT1 := Lib.hid (fun w1 (h1 : Rdr w1 g A n c ks i) => take_no hs1 h1 hi hn)
  have HT := Lib.hid (fun w1 (h1 : Rdr w1 g A n c ks i) => take_yes hs h1 hi hn)
  have HT2 := Lib.hid (fun w1 (h1 : Rdr w1 g A n c ks j) => take_yes hs2 h1 hj hn)
  have HXX := Lib.hid HX
  have HM0 := Lib.hid (Mv.of_below hb0 hgl)
  have L0 := Lib.hid (heap_alloc_new w (box0 24))
  clear h hi hj hn hs hs0 hs1 hs2 HX hb0
  go_enter Try.func38, Try.ntmps38
  go_wp2_with fail
  refine HT0.out.mono ?_
  rintro e wa ⟨rfl, hma, hra⟩
  have HMA := Lib.hid (HM0.out.trans hma); have HRA := Lib.hid hra
  have LA := Lib.hid ((hma.block w.heap.size (by simp) (by omega)).trans L0.out)
  have hza := hma.size
  rw [show (w.alloc (box0 24)).heap.size = w.heap.size + 1 by simp] at hza
  clear hma hra
  go_wp2_with fail
  refine (HT1.out wa HRA.out).mono ?_
  rintro e wb ⟨rfl, hm1, hr1⟩
  have HMB := Lib.hid (HMA.out.trans hm1); have HRB := Lib.hid hr1
  have LB := Lib.hid ((hm1.block w.heap.size (by omega) (by omega)).trans LA.out)
  have hzb := hm1.size
  clear hm1 hr1
  go_wp2_with fail
  refine (HT.out wb HRB.out).mono ?_
  rintro e w1 ⟨rfl, hm1, hr1⟩
  have HM1 := Lib.hid (HMB.out.trans hm1); have HR1 := Lib.hid hr1
  have L1 := Lib.hid ((hm1.block w.heap.size (by omega) (by omega)).trans LB.out)
  have hz1 := hm1.size
  clear hm1 hr1
  go_wp2_with fail
  refine (HXX.out w1 HR1.out).mono ?_
  rintro e w2 ⟨A', c', d, rfl, hl, hm2, hr2⟩
  have HM2 := Lib.hid (HM1.out.trans hm2); have HR2 := Lib.hid hr2; have HL := Lib.hid hl
  have L2 := Lib.hid ((hm2.block w.heap.size (by omega) (by omega)).trans L1.out)
  have hz2 := hm2.size
  clear hm2 hr2 hl
  have hbx : Below w2.heap.size w2 (w2.alloc (.cells #[.int .i64 x.op, .int .i64 x.n, .string x.name, .slice A' x.args.length c'] 24)) := (Below.refl _ _).alloc (Nat.le_refl _) _
  have HBX := Lib.hid hbx
  have HT3 := Lib.hid (HT2.out _ (HR2.out.on hbx))
  have LX := Lib.hid (heap_alloc_new w2 (.cells #[.int .i64 x.op, .int .i64 x.n, .string x.name, .slice A' x.args.length c'] 24))
  clear hbx
  go_wp2_with fail
  refine HT3.out.mono ?_
  rintro e w3 ⟨rfl, hm3, hr3⟩
  have hz3 := hm3.size
  rw [show (w2.alloc (.cells #[.int .i64 x.op, .int .i64 x.n, .string x.name, .slice A' x.args.length c'] 24)).heap.size = w2.heap.size + 1 by simp] at hz3
  have L3 := Lib.hid ((hm3.block w.heap.size (by simp; omega) (by omega)).trans ((HBX.out.block w.heap.size (by omega)).trans L2.out))
  have LX3 := Lib.hid ((hm3.block w2.heap.size (by simp) (by omega)).trans LX.out)
  have HL3 := Lib.hid ((HL.out.alloc (.cells #[.int .i64 x.op, .int .i64 x.n, .string x.name, .slice A' x.args.length c'] 24)).mv hm3 (by show ¬ w1.heap.size ≤ g; omega))
  have HR3 := Lib.hid hr3
  have HM3 := Lib.hid ((HM2.out.alloc hgl (.cells #[.int .i64 x.op, .int .i64 x.n, .string x.name, .slice A' x.args.length c'] 24)).trans hm3)
  obtain ⟨x0, x1, x2, x3, f0, f1, f2, f3⟩ := box_facts L3.out
  obtain ⟨v0, v1, v2, v3, _⟩ := box_facts LX3.out
  have hzz : w.heap.size < w3.heap.size := by omega
  have hzx : w2.heap.size < w3.heap.size := by omega
  have hne : w.heap.size ≠ w2.heap.size := by omega
  have HZ := Lib.hid (show w.heap.size < w1.heap.size by omega)
  clear hm3 hr3 hz1 hz2 hz3 hza hzb
  go_wp2
  obtain ⟨hw0, hwl, hwm, hwr⟩ := put_done hgl hzz HM3.out HR3.out HL3.out (fun k _ (hk : w1.heap.size ≤ k) => Nat.lt_of_lt_of_le HZ.out hk) L3.out _ rfl
  unfold put4 at hw0 hwl hwm hwr
  generalize World.setCell _ _ _ = W at hw0 hwl hwm hwr ⊢
  obtain ⟨y0, y1, y2, y3, _⟩ := box_facts hw0
  refine bodyPost_ret (v := .agg #[.int .i64 x.op, .int .i64 x.n, .string x.name, .slice A' x.args.length c']) (by simp [results, Try.results38, go_sem, y0, y1, y2, y3]) rfl ⟨_, _, _, rfl, hwl, hwm, hwr⟩
/-- The world behind a leaf: the result's box is stored. -/
theorem leaf_done {g n c j : Nat} {A : Option Addr} {ks : List Lx.Tk} {op z : Int} {nm : ByteArray} {w w2 : World} {T : TypeId} {a0 a1 a2 a3 : Value} (hop : 1 ≤ op ∧ op ≤ 2) (hz : 0 ≤ z ∧ z ≤ 9223372036854775807) (hnm : nm.size ≤ 9223372036854775807) (hgl : g < w.heap.size) (hm : Mv g w w2) (hr : Rdr w2 g A n c ks j)
    (l2 : w2.heap[w.heap.size]? = some (.cells #[a0, a1, a2, a3] T (0, 0))) (W : World)
    (hW : W = put4 w2 w.heap.size (.int .i64 op) (.int .i64 z) (.string nm) (.slice none 0 0)) :
    W.heap[w.heap.size]? = some (.cells #[.int .i64 op, .int .i64 z, .string nm, .slice none 0 0] T (0, 0)) ∧
    LiesF W (fun k => w.heap.size ≤ k) W.heap.size 1 (.mk op z nm []) (tmCells (.mk op z nm []) none 0) ∧ Mv g w W ∧ Rdr W g A n c ks j :=
  ⟨by rw [hW]; exact set4 l2, LiesF.leaf ⟨⟨by show _ ≤ op; omega, by show op ≤ _; omega⟩, ⟨by show _ ≤ z; omega, hz.2⟩, hnm, by show 0 ≤ _; omega⟩, by rw [hW]; exact hm.put4 (Nat.le_refl _) hgl, by rw [hW]; exact hr.put4 hgl⟩
set_option maxRecDepth 100000 in
set_option maxHeartbeats 4000000 in
theorem un_num (g : Nat) (A : Option Addr) (n c : Nat) (ks : List Lx.Tk) (i : Nat) (w : World) (h : Rdr w g A n c ks i) (hi : i < n) (hn : n ≤ 9223372036854775807) (hs0 : isSign ks i ⟨#[45]⟩ = false) (hs1 : isSign ks i ⟨#[126]⟩ = false) (hs2 : isSign ks i ⟨#[40]⟩ = false)
    (hk : (tkAt ks i).kind = 2) (hf : formV 1 (tkAt ks i).n e0 0 = true) :
    Calls Try.prog 38 #[.pointer (some ⟨g, 0, none⟩)] w (TmPost g A n c ks (.mk 1 (tkAt ks i).n e0 []) (i + 1) w) := by
  have hgl := h.lt
  have hb0 : Below w.heap.size w (w.alloc (box0 24)) := (Below.refl _ _).alloc (Nat.le_refl _) _
  have HT0 := Lib.hid (take_no hs0 (h.on hb0) (Nat.le_of_lt hi) hn)
  have HT1 := Lib.hid (fun w1 (h1 : Rdr w1 g A n c ks i) => take_no hs1 h1 (Nat.le_of_lt hi) hn)
  have HT2 := Lib.hid (fun w1 (h1 : Rdr w1 g A n c ks i) => take_no hs2 h1 (Nat.le_of_lt hi) hn)
  have HTK := Lib.hid (fun w1 (h1 : Rdr w1 g A n c ks i) => rd_token g A n c ks i w1 h1 (by omega) hn)
  have HM0 := Lib.hid (Mv.of_below hb0 hgl)
  have L0 := Lib.hid (heap_alloc_new w (box0 24))
  obtain ⟨k, hkk⟩ : ∃ k, k = tkAt ks i := ⟨_, rfl⟩
  rw [← hkk] at hk hf HTK ⊢
  obtain ⟨kd, kn, kt⟩ := k
  simp only at hk hf
  subst hk
  have HNB := Lib.hid (show 0 ≤ kn ∧ kn ≤ 9223372036854775807 by
    unfold formV at hf; rw [if_pos rfl] at hf; simp only [decide_eq_true_eq] at hf; omega)
  have HF := Lib.hid hf
  obtain ⟨z, hz⟩ : ∃ z : Int, z = (i : Int) := ⟨_, rfl⟩
  have hi0 : 0 ≤ z := by omega
  have hi1 : z ≤ 9223372036854775806 := by omega
  have HZI := Lib.hid hz
  unfold TokPost tkV at HTK
  simp only at HTK
  clear h hi hn hs2 hs0 hs1 hb0 hkk hf hz
  go_enter Try.func38, Try.ntmps38
  go_wp2_with fail
  refine HT0.out.mono ?_
  rintro e wa ⟨rfl, hma, hra⟩
  have HMA := Lib.hid (HM0.out.trans hma); have HRA := Lib.hid hra
  have LA := Lib.hid ((hma.block w.heap.size (by simp) (by omega)).trans L0.out)
  have hza := hma.size
  rw [show (w.alloc (box0 24)).heap.size = w.heap.size + 1 by simp] at hza
  clear hma hra
  go_wp2_with fail
  refine (HT1.out wa HRA.out).mono ?_
  rintro e wb ⟨rfl, hm1, hr1⟩
  have HMB := Lib.hid (HMA.out.trans hm1); have HRB := Lib.hid hr1
  have LB := Lib.hid ((hm1.block w.heap.size (by omega) (by omega)).trans LA.out)
  have hzb := hm1.size
  clear hm1 hr1
  go_wp2_with fail
  refine (HT2.out wb HRB.out).mono ?_
  rintro e w1 ⟨rfl, hm1, hr1⟩
  have HM1 := Lib.hid (HMB.out.trans hm1); have HR1 := Lib.hid hr1
  have L1 := Lib.hid ((hm1.block w.heap.size (by omega) (by omega)).trans LB.out)
  have hz1 := hm1.size
  clear hm1 hr1
  go_wp2_with fail
  refine (HTK.out w1 HR1.out).mono ?_
  rintro e w2 ⟨rfl, hb2⟩
  have hz2 := hb2.size
  have HR2 := Lib.hid (HR1.out.on hb2)
  have HM2 := Lib.hid (HM1.out.trans (Mv.of_below hb2 HR1.out.lt))
  have L2 := Lib.hid ((hb2.block w.heap.size (by omega)).trans L1.out)
  have c1 := HR2.out.c1
  rw [← HZI.out] at c1
  have fz := HR2.out.fz
  have hgz := HR2.out.lt
  have HZW := Lib.hid (show w.heap.size < w2.heap.size by omega)
  clear hb2 hz1 hz2 hza hzb
  have HV1 := Lib.hid ((HR2.out).set (i + 1))
  have HVM := Lib.hid (HM2.out.trans (Mv.set (.int .i64 ((i + 1 : Nat) : Int))))
  rw [show ((i + 1 : Nat) : Int) = z + 1 by rw [HZI.out]; rfl] at HV1 HVM
  have HLV := Lib.hid ((Below.heap_setCell w2 ⟨g, 1, none⟩ (.int .i64 (z + 1)) w.heap.size (by simp; omega)).trans L2.out)
  have HVZ := Lib.hid (show (w2.setCell ⟨g, 1, none⟩ (.int .i64 (z + 1))).heap.size = w2.heap.size by simp)
  obtain ⟨V, hV⟩ : ∃ V, V = w2.setCell ⟨g, 1, none⟩ (.int .i64 (z + 1)) := ⟨_, rfl⟩
  rw [← hV] at HV1 HVM HLV HVZ
  go_wp2_with fail
  rw [← hV]
  clear hV c1 fz
  have hbV : Below V.heap.size V ((V.alloc (.cells #[.int .i64 2, .int .i64 kn, .string kt] 55)).alloc (.cells #[.int .i64 1, .int .i64 kn, .string ⟨#[]⟩, .slice none 0 0] 24)) := ((Below.refl _ _).alloc (Nat.le_refl _) _).alloc (by simp) _
  have hvn := heap_alloc_new (V.alloc (.cells #[.int .i64 2, .int .i64 kn, .string kt] 55)) (.cells #[.int .i64 1, .int .i64 kn, .string ⟨#[]⟩, .slice none 0 0] 24)
  have hvs : (V.alloc (.cells #[.int .i64 2, .int .i64 kn, .string kt] 55)).heap.size = w2.heap.size + 1 := by rw [← HVZ.out]; simp
  rw [hvs] at hvn
  have hvs2 : ((V.alloc (.cells #[.int .i64 2, .int .i64 kn, .string kt] 55)).alloc (.cells #[.int .i64 1, .int .i64 kn, .string ⟨#[]⟩, .slice none 0 0] 24)).heap.size = w2.heap.size + 2 := by rw [← HVZ.out]; simp
  have HBV := Lib.hid hbV; have HVN := Lib.hid hvn; have HVS2 := Lib.hid hvs2
  clear hbV hvn hvs hvs2
  refine (ex_form 1 kn ⟨#[]⟩ none 0 0 _ (by decide)).mono ?_
  rintro e w3 ⟨rfl, hb3⟩
  rw [show formV 1 kn ⟨#[]⟩ 0 = true from HF.out]
  have hz3 := hb3.size
  rw [HVS2.out] at hz3
  have L3 := Lib.hid ((hb3.block w.heap.size (by rw [HVS2.out]; have := HZW.out; omega)).trans ((HBV.out.block w.heap.size (by rw [HVZ.out]; exact HZW.out)).trans HLV.out))
  have E3 := Lib.hid ((hb3.block (w2.heap.size + 1) (by rw [HVS2.out]; omega)).trans HVN.out)
  have HR3 := Lib.hid ((HV1.out.on HBV.out).on hb3)
  have HM3 := Lib.hid (HVM.out.trans (Mv.of_below (HBV.out.trans (hb3.mono HBV.out.size)) HV1.out.lt))
  obtain ⟨x0, x1, x2, x3, f0, f1, f2, f3⟩ := box_facts L3.out
  obtain ⟨v0, v1, v2, v3, _⟩ := box_facts E3.out
  have hzz : w.heap.size < w3.heap.size := by have := HZW.out; omega
  have hzx : w2.heap.size + 1 < w3.heap.size := by omega
  have hne : w.heap.size ≠ w2.heap.size + 1 := by have := HZW.out; omega
  clear hb3 hz3 hgz
  go_wp2
  obtain ⟨hw0, hwl, hwm, hwr⟩ := leaf_done (op := 1) (z := kn) (nm := ⟨#[]⟩) (by decide) HNB.out (by decide) hgl HM3.out HR3.out L3.out _ rfl
  unfold put4 at hw0 hwl hwm hwr
  generalize World.setCell _ _ _ = W at hw0 hwl hwm hwr ⊢
  obtain ⟨y0, y1, y2, y3, _⟩ := box_facts hw0
  refine bodyPost_ret (v := .agg #[.int .i64 1, .int .i64 kn, .string ⟨#[]⟩, .slice none 0 0]) (by simp [results, Try.results38, go_sem, y0, y1, y2, y3]) rfl ⟨_, _, _, rfl, hwl, hwm, hwr⟩
set_option maxRecDepth 100000 in
set_option maxHeartbeats 4000000 in
theorem un_ref (g : Nat) (A : Option Addr) (n c : Nat) (ks : List Lx.Tk) (i : Nat) (w : World) (h : Rdr w g A n c ks i) (hi : i < n) (hn : n ≤ 9223372036854775807) (hs0 : isSign ks i ⟨#[45]⟩ = false) (hs1 : isSign ks i ⟨#[126]⟩ = false) (hs2 : isSign ks i ⟨#[40]⟩ = false)
    (hk : (tkAt ks i).kind = 1) (hf : formV 2 0 (tkAt ks i).text 0 = true) :
    Calls Try.prog 38 #[.pointer (some ⟨g, 0, none⟩)] w (TmPost g A n c ks (.mk 2 0 (tkAt ks i).text []) (i + 1) w) := by
  have hgl := h.lt
  have hb0 : Below w.heap.size w (w.alloc (box0 24)) := (Below.refl _ _).alloc (Nat.le_refl _) _
  have HT0 := Lib.hid (take_no hs0 (h.on hb0) (Nat.le_of_lt hi) hn)
  have HT1 := Lib.hid (fun w1 (h1 : Rdr w1 g A n c ks i) => take_no hs1 h1 (Nat.le_of_lt hi) hn)
  have HT2 := Lib.hid (fun w1 (h1 : Rdr w1 g A n c ks i) => take_no hs2 h1 (Nat.le_of_lt hi) hn)
  have HTK := Lib.hid (fun w1 (h1 : Rdr w1 g A n c ks i) => rd_token g A n c ks i w1 h1 (by omega) hn)
  have HM0 := Lib.hid (Mv.of_below hb0 hgl)
  have L0 := Lib.hid (heap_alloc_new w (box0 24))
  obtain ⟨k, hkk⟩ : ∃ k, k = tkAt ks i := ⟨_, rfl⟩
  rw [← hkk] at hk hf HTK ⊢
  obtain ⟨kd, kn, kt⟩ := k
  simp only at hk hf
  subst hk
  have HNB := Lib.hid (show kt.size ≤ 9223372036854775807 by
    unfold formV at hf; rw [if_neg (by decide), if_pos rfl, Bool.and_eq_true] at hf
    have h2 := hf.2
    unfold nameB at h2; rw [Bool.and_eq_true, decide_eq_true_eq, list_size] at h2; omega)
  have HF := Lib.hid hf
  obtain ⟨z, hz⟩ : ∃ z : Int, z = (i : Int) := ⟨_, rfl⟩
  have hi0 : 0 ≤ z := by omega
  have hi1 : z ≤ 9223372036854775806 := by omega
  have HZI := Lib.hid hz
  unfold TokPost tkV at HTK
  simp only at HTK
  clear h hi hn hs2 hs0 hs1 hb0 hkk hf hz
  go_enter Try.func38, Try.ntmps38
  go_wp2_with fail
  refine HT0.out.mono ?_
  rintro e wa ⟨rfl, hma, hra⟩
  have HMA := Lib.hid (HM0.out.trans hma); have HRA := Lib.hid hra
  have LA := Lib.hid ((hma.block w.heap.size (by simp) (by omega)).trans L0.out)
  have hza := hma.size
  rw [show (w.alloc (box0 24)).heap.size = w.heap.size + 1 by simp] at hza
  clear hma hra
  go_wp2_with fail
  refine (HT1.out wa HRA.out).mono ?_
  rintro e wb ⟨rfl, hm1, hr1⟩
  have HMB := Lib.hid (HMA.out.trans hm1); have HRB := Lib.hid hr1
  have LB := Lib.hid ((hm1.block w.heap.size (by omega) (by omega)).trans LA.out)
  have hzb := hm1.size
  clear hm1 hr1
  go_wp2_with fail
  refine (HT2.out wb HRB.out).mono ?_
  rintro e w1 ⟨rfl, hm1, hr1⟩
  have HM1 := Lib.hid (HMB.out.trans hm1); have HR1 := Lib.hid hr1
  have L1 := Lib.hid ((hm1.block w.heap.size (by omega) (by omega)).trans LB.out)
  have hz1 := hm1.size
  clear hm1 hr1
  go_wp2_with fail
  refine (HTK.out w1 HR1.out).mono ?_
  rintro e w2 ⟨rfl, hb2⟩
  have hz2 := hb2.size
  have HR2 := Lib.hid (HR1.out.on hb2)
  have HM2 := Lib.hid (HM1.out.trans (Mv.of_below hb2 HR1.out.lt))
  have L2 := Lib.hid ((hb2.block w.heap.size (by omega)).trans L1.out)
  have c1 := HR2.out.c1
  rw [← HZI.out] at c1
  have fz := HR2.out.fz
  have hgz := HR2.out.lt
  have HZW := Lib.hid (show w.heap.size < w2.heap.size by omega)
  clear hb2 hz1 hz2 hza hzb
  have HV1 := Lib.hid ((HR2.out).set (i + 1))
  have HVM := Lib.hid (HM2.out.trans (Mv.set (.int .i64 ((i + 1 : Nat) : Int))))
  rw [show ((i + 1 : Nat) : Int) = z + 1 by rw [HZI.out]; rfl] at HV1 HVM
  have HLV := Lib.hid ((Below.heap_setCell w2 ⟨g, 1, none⟩ (.int .i64 (z + 1)) w.heap.size (by simp; omega)).trans L2.out)
  have HVZ := Lib.hid (show (w2.setCell ⟨g, 1, none⟩ (.int .i64 (z + 1))).heap.size = w2.heap.size by simp)
  obtain ⟨V, hV⟩ : ∃ V, V = w2.setCell ⟨g, 1, none⟩ (.int .i64 (z + 1)) := ⟨_, rfl⟩
  rw [← hV] at HV1 HVM HLV HVZ
  go_wp2_with fail
  rw [← hV]
  clear hV c1 fz
  have hbV : Below V.heap.size V ((V.alloc (.cells #[.int .i64 1, .int .i64 kn, .string kt] 55)).alloc (.cells #[.int .i64 2, .int .i64 0, .string kt, .slice none 0 0] 24)) := ((Below.refl _ _).alloc (Nat.le_refl _) _).alloc (by simp) _
  have hvn := heap_alloc_new (V.alloc (.cells #[.int .i64 1, .int .i64 kn, .string kt] 55)) (.cells #[.int .i64 2, .int .i64 0, .string kt, .slice none 0 0] 24)
  have hvs : (V.alloc (.cells #[.int .i64 1, .int .i64 kn, .string kt] 55)).heap.size = w2.heap.size + 1 := by rw [← HVZ.out]; simp
  rw [hvs] at hvn
  have hvs2 : ((V.alloc (.cells #[.int .i64 1, .int .i64 kn, .string kt] 55)).alloc (.cells #[.int .i64 2, .int .i64 0, .string kt, .slice none 0 0] 24)).heap.size = w2.heap.size + 2 := by rw [← HVZ.out]; simp
  have HBV := Lib.hid hbV; have HVN := Lib.hid hvn; have HVS2 := Lib.hid hvs2
  clear hbV hvn hvs hvs2
  refine (ex_form 2 0 kt none 0 0 _ HNB.out).mono ?_
  rintro e w3 ⟨rfl, hb3⟩
  rw [HF.out]
  have hz3 := hb3.size
  rw [HVS2.out] at hz3
  have L3 := Lib.hid ((hb3.block w.heap.size (by rw [HVS2.out]; have := HZW.out; omega)).trans ((HBV.out.block w.heap.size (by rw [HVZ.out]; exact HZW.out)).trans HLV.out))
  have E3 := Lib.hid ((hb3.block (w2.heap.size + 1) (by rw [HVS2.out]; omega)).trans HVN.out)
  have HR3 := Lib.hid ((HV1.out.on HBV.out).on hb3)
  have HM3 := Lib.hid (HVM.out.trans (Mv.of_below (HBV.out.trans (hb3.mono HBV.out.size)) HV1.out.lt))
  obtain ⟨x0, x1, x2, x3, f0, f1, f2, f3⟩ := box_facts L3.out
  obtain ⟨v0, v1, v2, v3, _⟩ := box_facts E3.out
  have hzz : w.heap.size < w3.heap.size := by have := HZW.out; omega
  have hzx : w2.heap.size + 1 < w3.heap.size := by omega
  have hne : w.heap.size ≠ w2.heap.size + 1 := by have := HZW.out; omega
  clear hb3 hz3 hgz
  go_wp2
  obtain ⟨hw0, hwl, hwm, hwr⟩ := leaf_done (op := 2) (z := 0) (nm := kt) (by decide) (by decide) HNB.out hgl HM3.out HR3.out L3.out _ rfl
  unfold put4 at hw0 hwl hwm hwr
  generalize World.setCell _ _ _ = W at hw0 hwl hwm hwr ⊢
  obtain ⟨y0, y1, y2, y3, _⟩ := box_facts hw0
  refine bodyPost_ret (v := .agg #[.int .i64 2, .int .i64 0, .string kt, .slice none 0 0]) (by simp [results, Try.results38, go_sem, y0, y1, y2, y3]) rfl ⟨_, _, _, rfl, hwl, hwm, hwr⟩
end Go.Proofs.Ytfknokclemljfaa
