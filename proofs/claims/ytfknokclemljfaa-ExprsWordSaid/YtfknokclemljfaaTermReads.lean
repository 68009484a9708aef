/- Contract of Read where a term is read. -/
import Derived.Test.YtfknokclemljfaaTermTerm
import Derived.Test.YtfknokclemljfaaTermEval
import Derived.StillTailTactics
namespace Go.Proofs.Ytfknokclemljfaa
open Go.RowKit Mem
set_option linter.unusedVariables false
theorem read_idle (p q r : Addr) (w : World) :
    CallsD Try.prog 26 #[.pointer (some p), .pointer (some q), .pointer (some r)] .returning w fun e u' w' => e = .returned (.tuple #[]) ∧ u' = .returning ∧ w' = w := by
  refine callsD_of_wpS Try.func26 rfl fun c₀ cs hu => ?_
  apply wpS_seq
  apply wpS_region
  simp [wpOpsS, go_sem, recoverD, hu, Try.ntmps26, Exit.thenS]
  refine wpS_of_wp ?_
  have e : (#[Value.pointer (some p), Value.pointer (some q), Value.pointer (some r)] ++ ((Array.replicate 10 undef).setIfInBounds 1 Value.nilIface).setIfInBounds 0 Value.nilIface) = #[Value.pointer (some p), Value.pointer (some q), Value.pointer (some r), Value.nilIface, Value.nilIface, undef, undef, undef, undef, undef, undef, undef, undef] := rfl
  rw [e]
  clear e
  go_wp2
  cases c₀
  simp_all [bodyPostS, results, Try.results26]
/-- A term was read of tokens. -/
def ReadPost (t : Tm) (j : Nat) (w : World) (e : Ending) (w' : World) : Prop :=
  ∃ (A' : Option Addr) (c' d : Nat), e = .returned (.tuple #[tmV t A' c', .int .i64 j, .int .i64 0]) ∧ Lies w' w'.heap.size d t (tmCells t A' c') ∧ Below w.heap.size w w'
/-- The world behind the three results. -/
theorem read_done {w w2 : World} {t : Tm} {A' : Option Addr} {c' d j : Nat} {T : TypeId} {y z : Value} (hb : Below w.heap.size w w2) (l2 : w2.heap[w.heap.size]? = some (.cells #[.int .i64 t.op, .int .i64 t.n, .string t.name, .slice A' t.args.length c'] T (0, 0)))
    (hl : LiesF w2 (fun k => w.heap.size + 1 + 1 + 1 < k) w2.heap.size d t (tmCells t A' c')) (v1 : w2.cell? ⟨w.heap.size + 1, 0, none⟩ = some y) (e1 : w2.cell? ⟨w.heap.size + 1 + 1, 0, none⟩ = some z) :
    Below w.heap.size w ((((put4 w2 w.heap.size (.int .i64 t.op) (.int .i64 t.n) (.string t.name) (.slice A' t.args.length c')).setCell ⟨w.heap.size + 1, 0, none⟩ (.int .i64 j)).setCell ⟨w.heap.size + 1 + 1, 0, none⟩ (.int .i64 0)).drew) ∧
    ((((put4 w2 w.heap.size (.int .i64 t.op) (.int .i64 t.n) (.string t.name) (.slice A' t.args.length c')).setCell ⟨w.heap.size + 1, 0, none⟩ (.int .i64 j)).setCell ⟨w.heap.size + 1 + 1, 0, none⟩ (.int .i64 0)).drew).cell? ⟨w.heap.size, 0, none⟩ = some (.int .i64 t.op) ∧
    ((((put4 w2 w.heap.size (.int .i64 t.op) (.int .i64 t.n) (.string t.name) (.slice A' t.args.length c')).setCell ⟨w.heap.size + 1, 0, none⟩ (.int .i64 j)).setCell ⟨w.heap.size + 1 + 1, 0, none⟩ (.int .i64 0)).drew).cell? ⟨w.heap.size, 1, none⟩ = some (.int .i64 t.n) ∧
    ((((put4 w2 w.heap.size (.int .i64 t.op) (.int .i64 t.n) (.string t.name) (.slice A' t.args.length c')).setCell ⟨w.heap.size + 1, 0, none⟩ (.int .i64 j)).setCell ⟨w.heap.size + 1 + 1, 0, none⟩ (.int .i64 0)).drew).cell? ⟨w.heap.size, 2, none⟩ = some (.string t.name) ∧
    ((((put4 w2 w.heap.size (.int .i64 t.op) (.int .i64 t.n) (.string t.name) (.slice A' t.args.length c')).setCell ⟨w.heap.size + 1, 0, none⟩ (.int .i64 j)).setCell ⟨w.heap.size + 1 + 1, 0, none⟩ (.int .i64 0)).drew).cell? ⟨w.heap.size, 3, none⟩ = some (.slice A' t.args.length c') ∧
    ((((put4 w2 w.heap.size (.int .i64 t.op) (.int .i64 t.n) (.string t.name) (.slice A' t.args.length c')).setCell ⟨w.heap.size + 1, 0, none⟩ (.int .i64 j)).setCell ⟨w.heap.size + 1 + 1, 0, none⟩ (.int .i64 0)).drew).cell? ⟨w.heap.size + 1, 0, none⟩ = some (.int .i64 j) ∧
    ((((put4 w2 w.heap.size (.int .i64 t.op) (.int .i64 t.n) (.string t.name) (.slice A' t.args.length c')).setCell ⟨w.heap.size + 1, 0, none⟩ (.int .i64 j)).setCell ⟨w.heap.size + 1 + 1, 0, none⟩ (.int .i64 0)).drew).cell? ⟨w.heap.size + 1 + 1, 0, none⟩ = some (.int .i64 0) ∧
    Lies ((((put4 w2 w.heap.size (.int .i64 t.op) (.int .i64 t.n) (.string t.name) (.slice A' t.args.length c')).setCell ⟨w.heap.size + 1, 0, none⟩ (.int .i64 j)).setCell ⟨w.heap.size + 1 + 1, 0, none⟩ (.int .i64 0)).drew) ((((put4 w2 w.heap.size (.int .i64 t.op) (.int .i64 t.n) (.string t.name) (.slice A' t.args.length c')).setCell ⟨w.heap.size + 1, 0, none⟩ (.int .i64 j)).setCell ⟨w.heap.size + 1 + 1, 0, none⟩ (.int .i64 0)).drew).heap.size d t (tmCells t A' c') := by
  obtain ⟨V, hV⟩ : ∃ V, V = put4 w2 w.heap.size (.int .i64 t.op) (.int .i64 t.n) (.string t.name) (.slice A' t.args.length c') := ⟨_, rfl⟩
  have hbv : Below w.heap.size w V := by rw [hV]; exact below_put4 hb (Nat.le_refl _)
  have lv : V.heap[w.heap.size]? = some (.cells #[.int .i64 t.op, .int .i64 t.n, .string t.name, .slice A' t.args.length c'] T (0, 0)) := by rw [hV]; exact set4 l2
  have hlv : LiesF V (fun k => w.heap.size + 1 + 1 + 1 < k) V.heap.size d t (tmCells t A' c') := by
    rw [hV, set4_size]; exact hl.put4 (by omega)
  have v1' : V.cell? ⟨w.heap.size + 1, 0, none⟩ = some y := by rw [hV, World.cell?_of_block (w := w2) (set4_other (by show _ + 1 ≠ _; omega))]; exact v1
  have e1' : V.cell? ⟨w.heap.size + 1 + 1, 0, none⟩ = some z := by rw [hV, World.cell?_of_block (w := w2) (set4_other (by show _ + 1 + 1 ≠ _; omega))]; exact e1
  rw [← hV]
  clear hV hb l2 hl v1 e1
  obtain ⟨U, hU⟩ : ∃ U, U = (V.setCell ⟨w.heap.size + 1, 0, none⟩ (.int .i64 j)).setCell ⟨w.heap.size + 1 + 1, 0, none⟩ (.int .i64 0) := ⟨_, rfl⟩
  have hbu : Below w.heap.size w U := by rw [hU]; exact (hbv.setCell (by show _ ≤ _ + 1; omega) _).setCell (by show _ ≤ _ + 1 + 1; omega) _
  have hoth : ∀ k, k ≠ w.heap.size + 1 → k ≠ w.heap.size + 1 + 1 → U.heap[k]? = V.heap[k]? := fun k h1 h2 => by rw [hU, Below.heap_setCell _ _ _ _ h2, Below.heap_setCell _ _ _ _ h1]
  have lu := (hoth w.heap.size (by omega) (by omega)).trans lv
  have u1 : U.cell? ⟨w.heap.size + 1, 0, none⟩ = some (.int .i64 j) := by rw [hU, World.cell?_setCell_other _ _ _ _ (by simp)]; exact World.cell?_setCell_same _ _ _ v1'
  have u2 : U.cell? ⟨w.heap.size + 1 + 1, 0, none⟩ = some (.int .i64 0) := by rw [hU]; exact World.cell?_setCell_same _ _ _ (by rw [World.cell?_setCell_other _ _ _ _ (by simp)]; exact e1')
  have hus : U.heap.size = V.heap.size := by rw [hU]; simp
  have hlu : LiesF U (fun k => w.heap.size + 1 + 1 + 1 < k) U.heap.size d t (tmCells t A' c') := hlv.keep (fun p hp _ => World.cell?_of_block (w := V) (hoth _ (by omega) (by omega))) (fun _ _ h => h) (by omega)
  rw [← hU]
  obtain ⟨c0, c1, c2, c3, _⟩ := box_facts lu
  exact ⟨hbu.drew, c0, c1, c2, c3, u1, u2, LiesF.lies (LiesF.keep (w := U) (w' := U.drew) (fun _ _ _ => rfl) (fun _ _ h => h) (Nat.le_refl _) hlu)⟩
set_option maxRecDepth 100000 in
set_option maxHeartbeats 4000000 in
theorem ex_Read (A : Option Addr) (n c : Nat) (ks : List Lx.Tk) (f i : Nat) (t : Tm) (j : Nat) (w : World) (hk : Toks w w.heap.size A n ks) (hn : n ≤ 9223372036854775807) (hi : i ≤ n) (h : rd ks f (.term 1) i = some (t, j)) (hd : deepF 16 t = false) :
    Calls Try.prog 11 #[.slice A n c, .int .i64 i] w (ReadPost t j w) := by
  have hmf : ∀ (fn : Fn) (first cap : Array Value) (w : World), (Instr.makeFunc fn first cap).run Try.prog w = .ok (.func fn first cap) w := fun _ _ _ _ => rfl
  obtain ⟨z, hz⟩ : ∃ z : Int, z = (i : Int) := ⟨_, rfl⟩
  rw [← hz]
  obtain ⟨W, hW⟩ : ∃ W, W = (((w.alloc (box0 24)).alloc (.cells #[.int .i64 0] 3)).alloc (.cells #[.int .i64 0] 29)).alloc (.cells #[.slice A n c, .int .i64 z] 59) := ⟨_, rfl⟩
  have hb0 : Below w.heap.size w W := by rw [hW]; exact ((((Below.refl _ _).alloc (Nat.le_refl _) _).alloc (by simp) _).alloc (by simp; omega) _).alloc (by simp; omega) _
  have hz0 : W.heap.size = w.heap.size + 1 + 1 + 1 + 1 := by rw [hW]; simp
  have l0 : W.heap[w.heap.size]? = some (box0 24) := by rw [hW, Below.heap_alloc _ _ _ (by simp; omega), Below.heap_alloc _ _ _ (by simp; omega), Below.heap_alloc _ _ _ (by simp)]; exact heap_alloc_new w _
  have v0 : W.cell? ⟨w.heap.size + 1, 0, none⟩ = some (.int .i64 0) := by rw [hW]; simp [go_sem]
  have e0 : W.cell? ⟨w.heap.size + 1 + 1, 0, none⟩ = some (.int .i64 0) := by rw [hW]; simp [go_sem]
  have vz : W.frozen? ⟨w.heap.size + 1, 0, none⟩ = false := by rw [hW]; simp [go_sem]
  have ez : W.frozen? ⟨w.heap.size + 1 + 1, 0, none⟩ = false := by rw [hW]; simp [go_sem]
  have hr : Rdr W (w.heap.size + 1 + 1 + 1) A n c ks i := ⟨(hk.below hb0).more (by omega), by omega, by rw [hW]; simp [go_sem], by rw [hW, hz]; simp [go_sem], by rw [hW]; simp [go_sem]⟩
  have HC := Lib.hid ((rd_all (w.heap.size + 1 + 1 + 1) A n c ks hn f f (Nat.le_refl _)).2 1 i t j W (by omega) (by omega) h hr hi)
  have HDE := Lib.hid (fun w1 d A' c' (hl : Lies w1 w1.heap.size d t (tmCells t A' c')) => hd ▸ deep_at 16 (by omega) d t A' c' w1 hl)
  have HB0 := Lib.hid hb0; have HZ0 := Lib.hid hz0; have HL0 := Lib.hid l0; have HV0 := Lib.hid v0; have HE0 := Lib.hid e0; have HVZ := Lib.hid vz; have HEZ := Lib.hid ez
  clear hb0 hz0 l0 v0 e0 vz ez hr hk hn hi h hd hz
  unfold tmV at HDE
  go_enter_defers Try.func11, Try.ntmps11
  go_wp2_with fail
  rw [← hW]
  clear hW
  refine HC.out.mono ?_
  rintro e w1 ⟨A', c', d, rfl, hl, hm, hr⟩
  have hz1 : w.heap.size + 1 + 1 + 1 + 1 ≤ w1.heap.size := by have := hm.size; have := HZ0.out; omega
  have L1 := Lib.hid ((hm.block w.heap.size (by have := HZ0.out; omega) (by omega)).trans HL0.out)
  obtain ⟨V, hV⟩ : ∃ V, V = put4 w1 w.heap.size (.int .i64 t.op) (.int .i64 t.n) (.string t.name) (.slice A' t.args.length c') := ⟨_, rfl⟩
  have LV := Lib.hid (show V.heap[w.heap.size]? = some (.cells #[.int .i64 t.op, .int .i64 t.n, .string t.name, .slice A' t.args.length c'] 24 (0, 0)) by rw [hV]; exact set4 L1.out)
  have hvz : V.heap.size = w1.heap.size := by rw [hV]; exact set4_size
  have hvo : ∀ k, k ≠ w.heap.size → V.heap[k]? = w1.heap[k]? := fun k hk => by rw [hV]; exact set4_other hk
  have HLF := Lib.hid (show LiesF V (fun k => w.heap.size + 1 + 1 + 1 < k) V.heap.size d t (tmCells t A' c') by
    rw [hvz, hV]
    exact (hl.keep (K' := fun k => w.heap.size + 1 + 1 + 1 < k) (fun _ _ _ => rfl) (fun k _ h => by have := HZ0.out; omega) (Nat.le_refl _)).put4 (by omega))
  have HLV := Lib.hid HLF.out.lies
  have HBV := Lib.hid (show Below w.heap.size w V by rw [hV]; exact below_put4 (HB0.out.trans (hm.low.mono (by omega))) (Nat.le_refl _))
  have V1 := Lib.hid (((World.cell?_of_block (w := w1) (a := ⟨w.heap.size + 1, 0, none⟩) (hvo _ (by simp))).trans (hm.cell ⟨w.heap.size + 1, 0, none⟩ (by have := HZ0.out; show _ + 1 < _; omega) (by show _ + 1 ≠ _ + 1 + 1 + 1; omega))).trans HV0.out)
  have VZ := Lib.hid (((World.frozen?_of_block (w := w1) (a := ⟨w.heap.size + 1, 0, none⟩) (hvo _ (by simp))).trans (hm.froz ⟨w.heap.size + 1, 0, none⟩ (by have := HZ0.out; show _ + 1 < _; omega) (by show _ + 1 ≠ _ + 1 + 1 + 1; omega))).trans HVZ.out)
  have E1 := Lib.hid (((World.cell?_of_block (w := w1) (a := ⟨w.heap.size + 1 + 1, 0, none⟩) (hvo _ (by show _ + 1 + 1 ≠ _; omega))).trans (hm.cell ⟨w.heap.size + 1 + 1, 0, none⟩ (by have := HZ0.out; show _ + 1 + 1 < _; omega) (by show _ + 1 + 1 ≠ _ + 1 + 1 + 1; omega))).trans HE0.out)
  have EZ := Lib.hid (((World.frozen?_of_block (w := w1) (a := ⟨w.heap.size + 1 + 1, 0, none⟩) (hvo _ (by show _ + 1 + 1 ≠ _; omega))).trans (hm.froz ⟨w.heap.size + 1 + 1, 0, none⟩ (by have := HZ0.out; show _ + 1 + 1 < _; omega) (by show _ + 1 + 1 ≠ _ + 1 + 1 + 1; omega))).trans HEZ.out)
  have hrc := hr.c1
  have R1 := Lib.hid ((World.cell?_of_block (w := w1) (a := ⟨w.heap.size + 1 + 1 + 1, 1, none⟩) (hvo _ (by show _ + 1 + 1 + 1 ≠ _; omega))).trans hrc)
  obtain ⟨x0, x1, x2, x3, f0, f1, f2, f3⟩ := box_facts L1.out
  have hzz : w.heap.size < w1.heap.size := by omega
  have HDV := Lib.hid (HDE.out V d A' c' HLV.out)
  have HVL := Lib.hid (show w.heap.size + 1 + 1 + 1 + 1 ≤ V.heap.size by rw [hvz]; exact hz1)
  have HVW := Lib.hid hV
  clear hl hm hr hz1 hvz hvo hrc hV
  go_wp2_with fail
  have hVW := HVW.out
  unfold put4 at hVW
  rw [← hVW]
  clear hVW HVW x0 x1 x2 x3 f0 f1 f2 f3 L1
  refine HDV.out.mono ?_
  rintro e w2 ⟨rfl, hb2⟩
  have L2 := Lib.hid ((hb2.block w.heap.size (by have := HVL.out; omega)).trans LV.out)
  have HB2 := Lib.hid (HBV.out.trans (hb2.mono HBV.out.size))
  have HL2 := Lib.hid (HLF.out.keep (w' := w2) (B' := w2.heap.size) (fun p _ hp => hb2.cell hp) (fun _ _ h => h) hb2.size)
  have v1 := (hb2.cell (p := ⟨w.heap.size + 1, 0, none⟩) (by have := HVL.out; simp; omega)).trans V1.out
  have vz := (hb2.frozen (p := ⟨w.heap.size + 1, 0, none⟩) (by have := HVL.out; simp; omega)).trans VZ.out
  have e1 := (hb2.cell (p := ⟨w.heap.size + 1 + 1, 0, none⟩) (by have := HVL.out; simp; omega)).trans E1.out
  have ez := (hb2.frozen (p := ⟨w.heap.size + 1 + 1, 0, none⟩) (by have := HVL.out; simp; omega)).trans EZ.out
  have r1 := (hb2.cell (p := ⟨w.heap.size + 1 + 1 + 1, 1, none⟩) (by have := HVL.out; simp; omega)).trans R1.out
  obtain ⟨x0, x1, x2, x3, f0, f1, f2, f3⟩ := box_facts L2.out
  clear hb2
  go_wp2
  have HFIN := Lib.hid (read_done (j := j) HB2.out L2.out HL2.out v1 e1)
  refine wp_region_noPanic ?_
  go_region_with (fail)
  all_goals
    refine NoPanic.normal ?_
    go_wp2
    refine leaves_cons (f := 26) (args := #[.pointer (some ⟨w.heap.size, 0, none⟩), .pointer (some ⟨w.heap.size + 1, 0, none⟩), .pointer (some ⟨w.heap.size + 1 + 1, 0, none⟩)]) (by simp) (by simp [go_sem]) ?_
    refine (read_idle ⟨w.heap.size, 0, none⟩ ⟨w.heap.size + 1, 0, none⟩ ⟨w.heap.size + 1 + 1, 0, none⟩ _).mono ?_
    rintro e u' w'' ⟨rfl, rfl, rfl⟩
    obtain ⟨hbf, q0, q1, q2, q3, q4, q5, hlf⟩ := HFIN.out
    unfold put4 at hbf q0 q1 q2 q3 q4 q5 hlf
    clear x0 x1 x2 x3 f0 f1 f2 f3 v1 vz e1 ez r1 HFIN
    generalize World.drew _ = W7 at hbf q0 q1 q2 q3 q4 q5 hlf ⊢
    simp [Leaves, settle, results, Try.results11, go_sem, q0, q1, q2, q3, q4, q5]
    exact ⟨A', c', d, rfl, hlf, hbf⟩
end Go.Proofs.Ytfknokclemljfaa
