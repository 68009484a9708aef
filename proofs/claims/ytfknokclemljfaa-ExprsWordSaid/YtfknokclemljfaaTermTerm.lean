/- Contract of the reader's term and unary: whatever is read. -/
import Derived.Test.YtfknokclemljfaaTermUn
import Derived.Deep.RegionHeld3
import Derived.IntWalk
namespace Go.Proofs.Ytfknokclemljfaa
open Go.RowKit Mem
set_option linter.unusedVariables false
def UnAt (g : Nat) (A : Option Addr) (n c : Nat) (ks : List Lx.Tk) (f : Nat) : Prop := ∀ (i : Nat) (t : Tm) (j : Nat) (w : World), rd ks f .un i = some (t, j) → Rdr w g A n c ks i → i ≤ n →
  Calls Try.prog 38 #[.pointer (some ⟨g, 0, none⟩)] w (TmPost g A n c ks t j w)
def TermAt (g : Nat) (A : Option Addr) (n c : Nat) (ks : List Lx.Tk) (f : Nat) : Prop := ∀ (l i : Nat) (t : Tm) (j : Nat) (w : World), 1 ≤ l → l ≤ 6 → rd ks f (.term l) i = some (t, j) → Rdr w g A n c ks i → i ≤ n →
  Calls Try.prog 27 #[.pointer (some ⟨g, 0, none⟩), .int .i64 l] w (TmPost g A n c ks t j w)
theorem not_true {b : Bool} (h : ¬ b = true) : b = false := by simpa using h
theorem un_step (g : Nat) (A : Option Addr) (n c : Nat) (ks : List Lx.Tk) (f : Nat) (hn : n ≤ 9223372036854775807) (hU : UnAt g A n c ks f) (hT : TermAt g A n c ks f) : UnAt g A n c ks (f + 1) := by
  intro i t j w h hr hi
  have hlen := hr.toks.len
  unfold rd at h
  split at h
  · rename_i hs
    cases hx : rd ks f .un (i + 1) with
    | none => rw [hx] at h; cases h
    | some y =>
      rw [hx] at h
      obtain ⟨x, m⟩ := y
      cases h
      exact un_neg g A n c ks i j x w hr hi hn hs (fun w1 h1 => hU (i + 1) x j w1 hx h1 (by have := sign_lt hs; omega))
  · rename_i hs0
    split at h
    · rename_i hs
      cases hx : rd ks f .un (i + 1) with
      | none => rw [hx] at h; cases h
      | some y =>
        rw [hx] at h
        obtain ⟨x, m⟩ := y
        cases h
        exact un_not g A n c ks i j x w hr hi hn (not_true hs0) hs (fun w1 h1 => hU (i + 1) x j w1 hx h1 (by have := sign_lt hs; omega))
    · rename_i hs1
      split at h
      · rename_i hs
        split at h
        · cases h
        · rename_i x m hx
          split at h
          · rename_i hs2
            cases h
            have h1 := (rd_fwd hx (by have := sign_lt hs; omega)).1
            exact un_par g A n c ks i m t w hr hi (by omega) hn (not_true hs0) (not_true hs1) hs hs2 (fun w1 h1 => hT 1 (i + 1) t m w1 (by omega) (by omega) hx h1 (by have := sign_lt hs; omega))
          · cases h
      · rename_i hs2
        split at h
        · rename_i hk
          split at h
          · rename_i hf
            cases h
            exact un_num g A n c ks i w hr (by have := kind_lt (.inr hk); omega) hn (not_true hs0) (not_true hs1) (not_true hs2) hk hf
          · cases h
        · split at h
          · rename_i hk
            split at h
            · rename_i hf
              cases h
              exact un_ref g A n c ks i w hr (by have := kind_lt (.inl hk); omega) hn (not_true hs0) (not_true hs1) (not_true hs2) hk hf
            · cases h
          · cases h
set_option maxRecDepth 100000 in
set_option maxHeartbeats 2000000 in
theorem term_top (g : Nat) (A : Option Addr) (n c : Nat) (ks : List Lx.Tk) (f : Nat) (hU : UnAt g A n c ks f) (i : Nat) (t : Tm) (j : Nat) (w : World) (h : rd ks f .un i = some (t, j)) (hr : Rdr w g A n c ks i) (hi : i ≤ n) :
    Calls Try.prog 27 #[.pointer (some ⟨g, 0, none⟩), .int .i64 6] w (TmPost g A n c ks t j w) := by
  have hgl := hr.lt
  have hb0 : Below w.heap.size w (w.alloc (box0 24)) := (Below.refl _ _).alloc (Nat.le_refl _) _
  have HX := Lib.hid (hU i t j _ h (hr.on hb0) hi)
  have HM0 := Lib.hid (Mv.of_below hb0 hgl)
  have L0 := Lib.hid (heap_alloc_new w (box0 24))
  clear h hr hi hb0 hU
  go_enter Try.func27, Try.ntmps27
  go_wp2_with fail
  refine HX.out.mono ?_
  rintro e w2 ⟨A', c', d, rfl, hl, hm2, hr2⟩
  have HM2 := Lib.hid (HM0.out.trans hm2); have HR2 := Lib.hid hr2; have HL := Lib.hid hl
  have L2 := Lib.hid ((hm2.block w.heap.size (by simp) (by omega)).trans L0.out)
  have hz2 := hm2.size
  rw [show (w.alloc (box0 24)).heap.size = w.heap.size + 1 by simp] at hz2
  obtain ⟨x0, x1, x2, x3, f0, f1, f2, f3⟩ := box_facts L2.out
  have hzz : w.heap.size < w2.heap.size := by omega
  clear hm2 hr2 hl hz2
  go_wp2
  obtain ⟨hw0, hwl, hwm, hwr⟩ := put_done hgl hzz HM2.out HR2.out HL.out (fun k _ (hk : (w.alloc (box0 24)).heap.size ≤ k) => by simp at hk; omega) L2.out _ rfl
  unfold put4 at hw0 hwl hwm hwr
  generalize World.setCell _ _ _ = W at hw0 hwl hwm hwr ⊢
  obtain ⟨y0, y1, y2, y3, _⟩ := box_facts hw0
  refine bodyPost_ret (v := .agg #[.int .i64 t.op, .int .i64 t.n, .string t.name, .slice A' t.args.length c']) (by simp [results, Try.results27, go_sem, y0, y1, y2, y3]) rfl ⟨_, _, _, rfl, hwl, hwm, hwr⟩
/-- Where the reader of block g is. -/
def atOf (g : Nat) (w : World) : Nat := match w.cell? ⟨g, 1, none⟩ with
  | some (.int _ z) => z.toNat
  | _ => 0
theorem atOf_rdr {w : World} {g n c i : Nat} {A : Option Addr} {ks : List Lx.Tk} (h : Rdr w g A n c ks i) : atOf g w = i := by unfold atOf; rw [h.c1]; simp
/-- What holds at the head of term's loop. -/
structure TermHd (g : Nat) (A : Option Addr) (n c : Nat) (ks : List Lx.Tk) (f l : Nat) (t : Tm) (j b5 : Nat) (w : World) (o : Int) (wr : World) (f' : Nat) (e : Tm) (A' : Option Addr) (c' d k : Nat) : Prop where
  le : f' ≤ f
  rd : rd ks f' (.loop l e) k = some (t, j)
  op : o = opAt ks l k
  kn : k ≤ n
  rdr : Rdr wr g A n c ks (OpAfter ks l k)
  mv : Mv g w wr
  x0 : wr.heap[w.heap.size]? = some (box0 24)
  x5 : wr.heap[b5]? = some (.cells #[.int .i64 e.op, .int .i64 e.n, .string e.name, .slice A' e.args.length c'] 24 (0, 0))
  lies : LiesF wr (fun k => w.heap.size < k ∧ k ≠ b5) wr.heap.size d e (tmCells e A' c')
  hb5 : w.heap.size < b5 ∧ b5 < wr.heap.size
theorem loop_stop {ks : List Lx.Tk} {f l k j : Nat} {e t : Tm} (h : rd ks f (.loop l e) k = some (t, j)) (ho : opAt ks l k = 0) : t = e ∧ j = k := by
  cases f with
  | zero => cases h
  | succ f => unfold rd at h; rw [if_pos ho] at h; cases h; exact ⟨rfl, rfl⟩
theorem loop_next {ks : List Lx.Tk} {f l k j : Nat} {e t : Tm} (h : rd ks f (.loop l e) k = some (t, j)) (ho : opAt ks l k ≠ 0) :
    ∃ f' x m, f = f' + 1 ∧ rd ks f' (.term (l + 1)) (k + 1) = some (x, m) ∧ rd ks f' (.loop l (.mk (opAt ks l k) 0 e0 [e, x])) m = some (t, j) := by
  cases f with
  | zero => cases h
  | succ f =>
    unfold rd at h
    rw [if_neg ho] at h
    split at h
    · cases h
    · rename_i x m hx
      exact ⟨f, x, m, rfl, hx, h⟩
theorem Rdr.drew {w : World} {g n c i : Nat} {A : Option Addr} {ks : List Lx.Tk} (h : Rdr w g A n c ks i) : Rdr w.drew g A n c ks i := ⟨h.toks.drewN 1, h.lt, h.c0, h.c1, h.fz⟩
theorem op_bd (ks : List Lx.Tk) (l i : Nat) : 0 ≤ opAt ks l i ∧ opAt ks l i ≤ 11 := by
  unfold opAt
  repeat' split
  all_goals decide
abbrev cells8 (e x : Tm) (A A4 : Option Addr) (c c4 : Nat) (T : TypeId) : Obj := .cells #[.int .i64 e.op, .int .i64 e.n, .string e.name, .slice A e.args.length c, .int .i64 x.op, .int .i64 x.n, .string x.name, .slice A4 x.args.length c4] T (0, 0)
/-- The world behind a part of two more: a block of both, the box of the sum. -/
theorem pair_done {g n c m b5 d1 d4 c1 c4 : Nat} {A A1 A4 : Option Addr} {ks : List Lx.Tk} {e x : Tm} {o : Int} {w wr w4 : World} {T : TypeId} (ho : 0 ≤ o ∧ o ≤ 11) (hgl : g < w.heap.size) (hb5 : w.heap.size < b5 ∧ b5 < wr.heap.size) (hm : Mv g w wr) (hm4 : Mv g wr.drew w4) (hr : Rdr w4 g A n c ks m)
    (x0 : wr.heap[w.heap.size]? = some (box0 T)) (x5 : wr.heap[b5]? = some (.cells #[.int .i64 e.op, .int .i64 e.n, .string e.name, .slice A1 e.args.length c1] T (0, 0)))
    (hl : LiesF wr (fun k => w.heap.size < k ∧ k ≠ b5) wr.heap.size d1 e (tmCells e A1 c1)) (hl4 : LiesF w4 (fun k => wr.drew.heap.size ≤ k) w4.heap.size d4 x (tmCells x A4 c4)) (W : World)
    (hW : W = put4 (w4.alloc (cells8 e x A1 A4 c1 c4 T)) b5 (.int .i64 o) (.int .i64 0) (.string ⟨#[]⟩) (.slice (some ⟨w4.heap.size, 0, none⟩) 2 2)) :
    Mv g w W ∧ Rdr W g A n c ks m ∧ W.heap[w.heap.size]? = some (box0 T) ∧ W.heap[b5]? = some (.cells #[.int .i64 o, .int .i64 0, .string ⟨#[]⟩, .slice (some ⟨w4.heap.size, 0, none⟩) 2 2] T (0, 0)) ∧
    LiesF W (fun k => w.heap.size < k ∧ k ≠ b5) W.heap.size (max d1 d4 + 1) (.mk o 0 e0 [e, x]) (tmCells (.mk o 0 e0 [e, x]) (some ⟨w4.heap.size, 0, none⟩) 2) ∧ b5 < W.heap.size := by
  have hz4 : wr.heap.size ≤ w4.heap.size := hm4.size
  have hmd : Mv g wr wr.drew := Mv.of_below (Below.drew (Below.refl _ _)) (by have := hm.size; omega)
  have hm1 : Mv g w (w4.alloc (cells8 e x A1 A4 c1 c4 T)) := ((hm.trans hmd).trans hm4).alloc hgl _
  have hr1 : Rdr (w4.alloc (cells8 e x A1 A4 c1 c4 T)) g A n c ks m := hr.on ((Below.refl _ _).alloc (Nat.le_refl _) _)
  have hWz : W.heap.size = w4.heap.size + 1 := by rw [hW, set4_size]; simp
  have hn := heap_alloc_new w4 (cells8 e x A1 A4 c1 c4 T)
  have hn' : W.heap[w4.heap.size]? = some (cells8 e x A1 A4 c1 c4 T) := by rw [hW, set4_other (by omega)]; exact hn
  have y5 : (w4.alloc (cells8 e x A1 A4 c1 c4 T)).heap[b5]? = some (.cells #[.int .i64 e.op, .int .i64 e.n, .string e.name, .slice A1 e.args.length c1] T (0, 0)) :=
    (Below.heap_alloc _ _ _ (by omega)).trans ((hm4.block b5 hb5.2 (by omega)).trans x5)
  have y0 : (w4.alloc (cells8 e x A1 A4 c1 c4 T)).heap[w.heap.size]? = some (box0 T) :=
    (Below.heap_alloc _ _ _ (by omega)).trans ((hm4.block w.heap.size (Nat.lt_trans hb5.1 hb5.2) (by omega)).trans x0)
  have hle : LiesF W (fun k => w.heap.size < k ∧ k ≠ b5) W.heap.size d1 e (tmCells e A1 c1) := by
    have h1 : LiesF wr.drew (fun k => w.heap.size < k ∧ k ≠ b5) wr.drew.heap.size d1 e (tmCells e A1 c1) := LiesF.keep (w := wr) (w' := wr.drew) (fun _ _ _ => rfl) (fun _ _ h => h) (Nat.le_refl _) hl
    have h2 := ((h1.mv hm4 (fun h => absurd h.1 (by omega))).alloc (cells8 e x A1 A4 c1 c4 T)).put4 (b := b5) (u0 := .int .i64 o) (u1 := .int .i64 0) (u2 := .string ⟨#[]⟩) (u3 := .slice (some ⟨w4.heap.size, 0, none⟩) 2 2) (fun h => h.2 rfl)
    rw [← hW] at h2
    exact h2.keep (fun _ _ _ => rfl) (fun _ _ h => h) (by rw [hWz]; simp)
  have hlx : LiesF W (fun k => w.heap.size < k ∧ k ≠ b5) W.heap.size d4 x (tmCells x A4 c4) := by
    have hd : wr.drew.heap.size = wr.heap.size := rfl
    have h2 := (hl4.alloc (cells8 e x A1 A4 c1 c4 T)).put4 (b := b5) (u0 := .int .i64 o) (u1 := .int .i64 0) (u2 := .string ⟨#[]⟩) (u3 := .slice (some ⟨w4.heap.size, 0, none⟩) 2 2) (by rw [hd]; omega)
    rw [← hW] at h2
    exact h2.keep (fun _ _ _ => rfl) (fun k _ h => by rw [hd] at h; exact ⟨by omega, by omega⟩) (by rw [hWz]; simp)
  have hok : (Tm.mk o 0 e0 [e, x]).ok := ⟨⟨by show _ ≤ o; omega, by show o ≤ _; omega⟩, by simp [Tm.n], by show e0.size ≤ _; decide, by simp [Tm.args]⟩
  refine ⟨by rw [hW]; exact hm1.put4 (by omega) hgl, by rw [hW]; exact hr1.put4 (by omega), by rw [hW, set4_other (by omega)]; exact y0, by rw [hW]; exact set4 y5, ?_, by omega⟩
  exact (hle.deeper (Nat.le_max_left d1 d4)).two (hlx.deeper (Nat.le_max_right d1 d4)) hok ⟨by omega, by omega⟩ (by omega) (Nat.le_refl _) (cell_of_row _ _ 0 _ _ _ hn') (cell_of_row _ _ 1 _ _ _ hn') (cell_of_row _ _ 2 _ _ _ hn') (cell_of_row _ _ 3 _ _ _ hn') (cell_of_row _ _ 4 _ _ _ hn') (cell_of_row _ _ 5 _ _ _ hn') (cell_of_row _ _ 6 _ _ _ hn') (cell_of_row _ _ 7 _ _ _ hn')
theorem heap_drew (w : World) (k : Nat) : w.drew.heap[k]? = w.heap[k]? := rfl
set_option maxRecDepth 100000 in
set_option maxHeartbeats 4000000 in
theorem term_lvl (g : Nat) (A : Option Addr) (n c : Nat) (ks : List Lx.Tk) (f : Nat) (hn : n ≤ 9223372036854775807) (hT : ∀ f', f' ≤ f → TermAt g A n c ks f') (l i : Nat) (t : Tm) (j : Nat) (w : World) (h1 : 1 ≤ l) (h5 : l ≤ 5)
    (e : Tm) (k : Nat) (he : rd ks f (.term (l + 1)) i = some (e, k)) (h : rd ks f (.loop l e) k = some (t, j)) (hr : Rdr w g A n c ks i) (hi : i ≤ n) :
    Calls Try.prog 27 #[.pointer (some ⟨g, 0, none⟩), .int .i64 l] w (TmPost g A n c ks t j w) := by
  have hgl := hr.lt
  have hlen := hr.toks.len
  have hkn : k ≤ n := by have := (rd_fwd he (by omega)).1; omega
  have hb0 : Below w.heap.size w (w.alloc (box0 24)) := (Below.refl _ _).alloc (Nat.le_refl _) _
  have HX := Lib.hid (hT f (Nat.le_refl _) (l + 1) i e k _ (by omega) (by omega) he (hr.on hb0) hi)
  have HTT := Lib.hid hT
  have HOP := Lib.hid (fun k w1 (h2 : Rdr w1 g A n c ks k) (h3 : k ≤ n) => rd_op g A n c ks k l w1 h2 h3 hn h1 h5)
  have HM0 := Lib.hid (Mv.of_below hb0 hgl)
  have L0 := Lib.hid (heap_alloc_new w (box0 24))
  have HH := Lib.hid h
  have HLEN := Lib.hid hlen
  obtain ⟨lv, hlv⟩ : ∃ lv : Int, lv = (l : Int) := ⟨_, rfl⟩
  have hl1 : 1 ≤ lv := by omega
  have hl6 : lv ≠ 6 := by omega
  have hl5 : lv ≤ 5 := by omega
  have HLV := Lib.hid hlv
  have HL15 := Lib.hid (And.intro h1 h5)
  have HKN := Lib.hid hkn
  rw [show ((l + 1 : Nat) : Int) = lv + 1 by omega] at HX
  rw [← hlv] at HOP ⊢
  clear h he hr hi hb0 hT hlv h1 h5 hlen hn hkn
  go_enter Try.func27, Try.ntmps27
  go_wp2_with fail
  refine HX.out.mono ?_
  rintro e' w1 ⟨A', c', d, rfl, hl, hm1, hr1⟩
  have HM1 := Lib.hid (HM0.out.trans hm1)
  have L1 := Lib.hid ((hm1.block w.heap.size (by simp) (by omega)).trans L0.out)
  have hz1 := hm1.size
  rw [show (w.alloc (box0 24)).heap.size = w.heap.size + 1 by simp] at hz1
  have HL := Lib.hid (hl.keep (K' := fun k => w.heap.size < k ∧ k ≠ w1.heap.size) (fun _ _ _ => rfl) (fun k hk h2 => by simp at h2; exact ⟨by omega, by omega⟩) (Nat.le_refl _))
  have hbx : Below w1.heap.size w1 (w1.alloc (.cells #[.int .i64 e.op, .int .i64 e.n, .string e.name, .slice A' e.args.length c'] 24)) := (Below.refl _ _).alloc (Nat.le_refl _) _
  have HBX := Lib.hid hbx
  have HRX := Lib.hid (hr1.on hbx)
  have LX := Lib.hid (heap_alloc_new w1 (.cells #[.int .i64 e.op, .int .i64 e.n, .string e.name, .slice A' e.args.length c'] 24))
  have LX0 := Lib.hid ((HBX.out.block w.heap.size (by omega)).trans L1.out)
  have HLX := Lib.hid (HL.out.alloc (.cells #[.int .i64 e.op, .int .i64 e.n, .string e.name, .slice A' e.args.length c'] 24))
  have HMX := Lib.hid (HM1.out.alloc hgl (.cells #[.int .i64 e.op, .int .i64 e.n, .string e.name, .slice A' e.args.length c'] 24))
  clear hl hm1 hr1 hbx
  go_wp2_with fail
  refine (HOP.out k _ HRX.out HKN.out).mono ?_
  rintro e' w2 ⟨rfl, hm2, hr2⟩
  have hz2 : w1.heap.size + 1 ≤ w2.heap.size := by have := hm2.size; simpa using this
  have HD := Lib.hid (show TermHd g A n c ks f l t j w1.heap.size w (opAt ks l k) w2 f e A' c' d k from
    ⟨Nat.le_refl _, HH.out, rfl, HKN.out, hr2, HMX.out.trans hm2, (hm2.block w.heap.size (by simp; omega) (by omega)).trans LX0.out, (hm2.block w1.heap.size (by simp) (by omega)).trans LX.out, HLX.out.mv hm2 (fun h => absurd h.1 (by omega)), ⟨by omega, by omega⟩⟩)
  have hgb : g < w1.heap.size := by omega
  obtain ⟨b5, hb5⟩ : ∃ b5, b5 = w1.heap.size := ⟨_, rfl⟩
  rw [← hb5] at HD hgb
  have HB5 := Lib.hid hb5
  clear hm2 hr2 hz1 hz2
  go_wp2
  rw [← hb5]
  clear hb5
  go_loopw [6] (fun ov wr => ∃ (o : Int) (f' : Nat) (e : Tm) (A' : Option Addr) (c' d k : Nat), ov = .int .i64 o ∧ TermHd g A n c ks f l t j b5 w o wr f' e A' c' d k) (fun _ wr => n + 1 - atOf g wr)
  case atStart => exact ⟨_, _, _, _, _, _, _, rfl, HD.out⟩
  case round =>
    obtain ⟨o, f', e1, A1, c1, d1, k1, rfl, hd⟩ := hrel
    have HD1 := Lib.hid hd
    clear HD hd
    obtain ⟨x0, x1, x2, x3, f0, f1, f2, f3⟩ := box_facts HD1.out.x5
    obtain ⟨y0, y1, y2, y3, g0, g1, g2, g3⟩ := box_facts HD1.out.x0
    have hzz : w.heap.size < wr.heap.size := Nat.lt_trans HD1.out.hb5.1 HD1.out.hb5.2
    have hz5 : b5 < wr.heap.size := HD1.out.hb5.2
    by_cases ho : o = 0
    · subst ho
      go_wp2
      obtain ⟨rfl, rfl⟩ := loop_stop HD1.out.rd HD1.out.op.symm
      have hrd := HD1.out.rdr
      rw [show OpAfter ks l j = j by unfold OpAfter; rw [← HD1.out.op, if_pos rfl]] at hrd
      obtain ⟨hw0, hwl, hwm, hwr⟩ := put_done hgl hzz HD1.out.mv hrd HD1.out.lies (fun k _ hk => hk.1) HD1.out.x0 _ rfl
      unfold put4 at hw0 hwl hwm hwr
      clear x0 x1 x2 x3 f0 f1 f2 f3 y0 y1 y2 y3 g0 g1 g2 g3
      generalize World.setCell _ _ _ = W at hw0 hwl hwm hwr ⊢
      obtain ⟨y0, y1, y2, y3, _⟩ := box_facts hw0
      refine bodyPost_ret (v := .agg #[.int .i64 t.op, .int .i64 t.n, .string t.name, .slice A1 t.args.length c1]) (by simp [results, Try.results27, go_sem, y0, y1, y2, y3]) rfl ⟨_, _, _, rfl, hwl, hwm, hwr⟩
    · have ho' : (o != 0) = true := by simpa using ho
      have HO := Lib.hid ho
      obtain ⟨f2', x, m, hf2, hx, hlp⟩ := loop_next HD1.out.rd (by rw [← HD1.out.op]; exact ho)
      have hrd := HD1.out.rdr
      rw [show OpAfter ks l k1 = k1 + 1 by unfold OpAfter; rw [← HD1.out.op, if_neg ho]] at hrd
      have hk1 : k1 < n := by have := op_lt (ks := ks) (l := l) (i := k1) (by rw [← HD1.out.op]; exact ho); have := HLEN.out; omega
      have HK1 := Lib.hid hk1
      have HCC := Lib.hid (HTT.out f2' (by have := HD1.out.le; omega) (l + 1) (k1 + 1) x m wr.drew (by omega) (by have := HL15.out.2; omega) hx hrd.drew (by omega))
      rw [show ((l + 1 : Nat) : Int) = lv + 1 by have := HLV.out; omega] at HCC
      have HF2 := Lib.hid hf2; have HXM := Lib.hid hx; have HLP := Lib.hid hlp; have HRD := Lib.hid hrd
      clear ho hf2 hx hlp hrd hk1 y0 y1 y2 y3 g0 g1 g2 g3
      have hgb5 : b5 ≠ g := by omega
      have z0 : wr.drew.cell? ⟨b5, 0, none⟩ = some (.int .i64 e1.op) := x0
      have z1 : wr.drew.cell? ⟨b5, 1, none⟩ = some (.int .i64 e1.n) := x1
      have z2 : wr.drew.cell? ⟨b5, 2, none⟩ = some (.string e1.name) := x2
      have z3 : wr.drew.cell? ⟨b5, 3, none⟩ = some (.slice A1 e1.args.length c1) := x3
      go_wp2
      have hwrap : IntKind.i64.wrap (lv + 1) = lv + 1 := IntWalk.i64_in _ (by omega)
      go_region_with (first | (go_at_call 27; refine HCC.out.mono ?_; rintro e' w4 ⟨A4, c4, d4, rfl, hl4, hm4, hr4⟩; have L4 := Lib.hid ((hm4.block b5 hz5 hgb5).trans HD1.out.x5); obtain ⟨v0, v1, v2, v3, v4, v5, v6, v7⟩ := box_facts L4.out; have LA := Lib.hid ((Below.heap_alloc w4 (.cells #[.int .i64 e1.op, .int .i64 e1.n, .string e1.name, .slice A1 e1.args.length c1, .int .i64 x.op, .int .i64 x.n, .string x.name, .slice A4 x.args.length c4] 24) b5 (Nat.lt_of_lt_of_le hz5 hm4.size)).trans L4.out); obtain ⟨a0, a1, a2, a3, a4, a5, a6, a7⟩ := box_facts LA.out; have HL4 := Lib.hid hl4; have HM4 := Lib.hid hm4; have HR4 := Lib.hid hr4; clear hl4 hm4 hr4))
      all_goals
        obtain ⟨hwm, hwr, hw0, hw5, hwl, hwz⟩ := pair_done (o := o) (by rw [HD1.out.op]; exact op_bd _ _ _) hgl HD1.out.hb5 HD1.out.mv HM4.out HR4.out HD1.out.x0 HD1.out.x5 HD1.out.lies HL4.out _ rfl
        unfold put4 cells8 at hwm hwr hw0 hw5 hwl hwz
        generalize World.setCell _ _ _ = W at hwm hwr hw0 hw5 hwl hwz ⊢
        clear x0 x1 x2 x3 f0 f1 f2 f3 z0 z1 z2 z3 v0 v1 v2 v3 v4 v5 v6 v7 a0 a1 a2 a3 a4 a5 a6 a7 hwrap
        have hmf := (rd_fwd HXM.out (by have := HLEN.out; have := HK1.out; omega)).2
        have hmn := (rd_fwd HXM.out (by have := HLEN.out; have := HK1.out; omega)).1
        have HMF := Lib.hid (show k1 + 1 < m from hmf); have HMN := Lib.hid (show m ≤ n by have := HLEN.out; omega)
        have HWM := Lib.hid hwm; have HWR := Lib.hid hwr; have HW0 := Lib.hid hw0; have HW5 := Lib.hid hw5; have HWL := Lib.hid hwl
        clear hmf hmn hwm hwr hw0 hw5 hwl
        go_wp2_with fail
        refine (HOP.out m W HWR.out HMN.out).mono ?_
        rintro e' w6 ⟨rfl, hm6, hr6⟩
        have HM6 := Lib.hid hm6; have HR6 := Lib.hid hr6
        have HD6 := Lib.hid (show TermHd g A n c ks f l t j b5 w (opAt ks l m) w6 f2' (.mk o 0 e0 [e1, x]) (some ⟨w4.heap.size, 0, none⟩) 2 (max d1 d4 + 1) m from
          ⟨by have := HD1.out.le; have := HF2.out; omega, by rw [HD1.out.op]; exact HLP.out, rfl, HMN.out, hr6, HWM.out.trans hm6, (hm6.block w.heap.size (by have := HD1.out.hb5; omega) (by omega)).trans HW0.out, (hm6.block b5 hwz hgb5).trans HW5.out, HWL.out.mv hm6 (fun h => absurd h.1 (by omega)), ⟨HD1.out.hb5.1, Nat.lt_of_lt_of_le hwz hm6.size⟩⟩)
        clear hm6 hr6
        go_wp2
        go_roundw
        case rel => exact ⟨_, _, _, _, _, _, _, rfl, HD6.out⟩
        case measure =>
          rw [atOf_rdr HR6.out, atOf_rdr HRD.out]
          have h1 := HMF.out; have h2 := HK1.out
          unfold OpAfter
          split <;> omega
/-- What unary and term read. -/
theorem rd_all (g : Nat) (A : Option Addr) (n c : Nat) (ks : List Lx.Tk) (hn : n ≤ 9223372036854775807) : ∀ (f f' : Nat), f' ≤ f → UnAt g A n c ks f' ∧ TermAt g A n c ks f'
  | 0, f', hf => by
    obtain rfl : f' = 0 := by omega
    exact ⟨fun i t j w h => by simp [rd] at h, fun l i t j w _ _ h => by simp [rd] at h⟩
  | f + 1, f', hf => by
    have ih := rd_all g A n c ks hn f
    by_cases he : f' ≤ f
    · exact ih f' he
    · obtain rfl : f' = f + 1 := by omega
      refine ⟨un_step g A n c ks f hn (ih f (Nat.le_refl _)).1 (ih f (Nat.le_refl _)).2, fun l i t j w h1 h6 h hr hi => ?_⟩
      unfold rd at h
      split at h
      · rename_i hl
        subst hl
        exact term_top g A n c ks f (ih f (Nat.le_refl _)).1 i t j w h hr hi
      · split at h
        · cases h
        · rename_i e k he
          exact term_lvl g A n c ks f hn (fun f' hf' => (ih f' hf').2) l i t j w h1 (by omega) e k he h hr hi
end Go.Proofs.Ytfknokclemljfaa
