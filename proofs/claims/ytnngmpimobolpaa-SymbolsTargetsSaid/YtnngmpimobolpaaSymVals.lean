/- Contracts of symbols.Values and of its reference. -/
import Derived.Test.YtnngmpimobolpaaSymNames
import Derived.Test.YtnngmpimobolpaaSymLines
import Derived.Test.YtnngmpimobolpaaTermEval
import Derived.Test.YtnngmpimobolpaaTermRefEval
namespace Go.Proofs.Ytnngmpimobolpaa
open Go.RowKit Mem
set_option linter.unusedVariables false
theorem Try.infoNum : (Try.prog.info? 3).map (fun i => (i.zero, i.size, i.bytes)) = some (some (.int .i64 0), 1, 8) := by kernel_rfl
/-- Where Values stands at a line's head; w0: the loop's first world. -/
structure VlSt (d : Nat) (w0 wr : World) (ls : List (Ln × Tm)) (k m : Nat) (ns : List ByteArray) (vs : List Int) (nv vv : Value) (r : List ByteArray × List Int × Int × Int) : Prop where
  mle : m ≤ k
  ownN : wr.ownsRow w0.heap.size 9 1 nv m (nmCells ns)
  ownV : wr.ownsRow w0.heap.size 3 1 vv m (ints vs)
  sep : ∀ g, nv.ownBlock = some g → vv.ownBlock ≠ some g
  bel : Below w0.heap.size w0 wr
  eq : r = valsF d k ns vs (ls.drop k)
theorem own_or {v : Value} {row : Option Nat} (h : ∀ g, v.ownBlock = some g → row ≠ some g) : v.ownBlock = none ∨ v.ownBlock ≠ row := by
  cases e : v.ownBlock with
  | none => exact .inl rfl
  | some g => exact .inr (fun e2 => h g e e2.symm)
section
variable {d : Nat} {w0 wr wz wy wx : World} {ls : List (Ln × Tm)} {k m : Nat} {ns : List ByteArray} {vs : List Int} {nv vv : Value} {r : List ByteArray × List Int × Int × Int}
theorem VlSt.start (w0 : World) (h : r = valsF d 0 [] [] ls) : VlSt d w0 w0 ls 0 0 [] [] (.slice none 0 0) (.slice none 0 0) r :=
  ⟨Nat.le_refl _, own_nil _ _ _, own_nil _ _ _, (fun g hg => by simp [Value.ownBlock] at hg), Below.refl _ _, h⟩
theorem VlSt.on (h : VlSt d w0 wr ls k m ns vs nv vv r) (hb : Below wr.heap.size wr wz) : VlSt d w0 wz ls k m ns vs nv vv r :=
  ⟨h.mle, h.ownN.kept (grown_of hb) (own_or fun g _ e => by cases e), h.ownV.kept (grown_of hb) (own_or fun g _ e => by cases e), h.sep, h.bel.trans (hb.mono h.bel.size), h.eq⟩
/-- The values' row behind the names' append. -/
theorem VlSt.vals (h : VlSt d w0 wz ls k m ns vs nv vv r) (o : Obj) (hg : (wz.alloc o).grownBy wy nv.ownBlock) : wy.ownsRow w0.heap.size 3 1 vv m (ints vs) :=
  (h.ownV.alloc o).kept hg (own_or fun g e1 e2 => h.sep g e2 e1)
theorem VlSt.next {L : Ln} {t : Tm} {g1 g2 cap1 cap2 : Nat} {z : Int} (h : VlSt d w0 wz ls k m ns vs nv vv r) (o1 o2 : Obj)
    (hown1 : wy.ownsRow w0.heap.size 9 1 (.slice (some ⟨g1, 0, none⟩) (m + 1) cap1) (m + 1) (nmCells ns ++ [.string L.ref])) (hg1 : (wz.alloc o1).grownBy wy nv.ownBlock) (hat1 : nv.ownBlock = some g1 ∨ g1 = wz.heap.size + 1)
    (hown2 : wx.ownsRow w0.heap.size 3 1 (.slice (some ⟨g2, 0, none⟩) (m + 1) cap2) (m + 1) (ints vs ++ [.int .i64 z])) (hg2 : (wy.alloc o2).grownBy wx vv.ownBlock) (hat2 : vv.ownBlock = some g2 ∨ g2 = wy.heap.size + 1)
    (heq : r = valsF d (k + 1) (ns ++ [L.ref]) (vs ++ [z]) (ls.drop (k + 1))) :
    VlSt d w0 wx ls (k + 1) (m + 1) (ns ++ [L.ref]) (vs ++ [z]) (.slice (some ⟨g1, 0, none⟩) (m + 1) cap1) (.slice (some ⟨g2, 0, none⟩) (m + 1) cap2) r := by
  have hz0 := h.bel.size
  have hz1 : wz.heap.size + 1 ≤ wy.heap.size := by have := hg1.size; simpa using this
  have hN : ∀ g, nv.ownBlock = some g → w0.heap.size ≤ g ∧ g < wz.heap.size := fun g hg => own_block h.ownN g hg
  have hV : ∀ g, vv.ownBlock = some g → w0.heap.size ≤ g ∧ g < wz.heap.size := fun g hg => own_block h.ownV g hg
  have hg1lt : g1 < wy.heap.size := (own_block hown1 g1 rfl).2
  have hne : ∀ g, vv.ownBlock = some g → g ≠ g1 := fun g hg e => by
    subst e
    rcases hat1 with h1 | h1
    · exact h.sep g h1 hg
    · have := (hV g hg).2; omega
  refine ⟨by have := h.mle; omega, ?_, by rw [ints_append]; exact hown2, fun g hg e => ?_, ?_, heq⟩
  · rw [nmCells_append]
    exact (hown1.alloc o2).kept hg2 (own_or fun g e1 e2 => by
      have : g1 = g := by simpa [Value.ownBlock] using e1
      subst this
      exact hne g1 e2 rfl)
  · have e1 : g1 = g := by simpa [Value.ownBlock] using hg
    have e2 : g2 = g := by simpa [Value.ownBlock] using e
    subst e1
    rcases hat2 with h2 | h2
    · exact hne g2 h2 e2
    · omega
  · exact ((((h.bel.alloc hz0 o1).grown hg1 (by simp; omega) (fun g hg => (hN g hg).1)).alloc (by omega) o2).grown hg2 (by simp; omega) (fun g hg => (hV g hg).1))
end
/-- What the reference's Values gives back. -/
def ValsPost (r : List ByteArray × List Int × Int × Int) (w : World) (e : Ending) (w' : World) : Prop :=
  ∃ (A A2 : Option Addr) (n n2 c c2 : Nat), e = .returned (.tuple #[.slice A n c, .slice A2 n2 c2, .int .i64 r.2.2.1, .int .i64 r.2.2.2]) ∧ Nms w' w'.heap.size A n r.1 ∧ Ints w' w'.heap.size A2 n2 r.2.1 ∧ Below w.heap.size w w'
def ValsGot (r : List ByteArray × List Int × Int × Int) (w : World) (e : Ending) (w' : World) : Prop :=
  ∃ (A A2 : Option Addr) (n n2 c c2 : Nat), e = .returned (.tuple #[.slice A n c, .slice A2 n2 c2, .agg #[.int .i64 r.2.2.1, .int .i64 r.2.2.2]]) ∧ Nms w' w'.heap.size A n r.1 ∧ Ints w' w'.heap.size A2 n2 r.2.1 ∧ Below w.heap.size w w'
theorem ret_four {a a' b b' : Value} {x x' y y' : Int} (h1 : a = a') (h2 : b = b') (h3 : x = x') (h4 : y = y') : Ending.returned (.tuple #[a, b, .int .i64 x, .int .i64 y]) = .returned (.tuple #[a', b', .int .i64 x', .int .i64 y']) := by rw [h1, h2, h3, h4]
set_option maxRecDepth 100000 in
set_option maxHeartbeats 8000000 in
theorem ref_Values (A : Option Addr) (n c d : Nat) (ls : List (Ln × Tm)) (w : World) (hx : TLines w w.heap.size A n d ls) (hn : n ≤ 1000) :
    Calls Try.prog 32 #[.slice A n c] w (ValsPost (valsOf d ls) w) := by
  obtain ⟨i0, hi, hz0, hz1, hz2⟩ := info_parts Try.infoText
  obtain ⟨j0, hj, hjz0, hjz1, hjz2⟩ := info_parts Try.infoNum
  have HNM := Lib.hid (ref_Names A n c w.heap.size (ls.map (·.1)) w hx.lines (Nat.le_refl _) hn)
  have HX := Lib.hid hx
  have HLN := Lib.hid hx.len
  clear hx
  obtain ⟨r, hr⟩ : ∃ r, r = valsOf d ls := ⟨_, rfl⟩
  rw [← hr]
  obtain ⟨q, hq⟩ : ∃ q, q = namesOf (ls.map (·.1)) := ⟨_, rfl⟩
  rw [← hq] at HNM
  have HR := Lib.hid (show r = if q.2.1 = 0 then valsF d 0 [] [] ls else ([], [], q.2.1, q.2.2) by rw [hr, hq]; rfl)
  clear hr hq
  obtain ⟨qn, qe, qa⟩ := q
  simp only at HR
  unfold NamesPost at HNM
  simp only at HNM
  by_cases hqe : qe = 0
  · subst hqe
    have HRR := Lib.hid (show r = valsF d 0 [] [] ls by rw [HR.out, if_pos rfl])
    clear HR
    go_enter Try.func32, Try.ntmps32
    go_wp2_with fail
    refine HNM.out.mono ?_
    rintro e w1 ⟨A1, n1, c1, rfl, hnm, hb⟩
    have HB := Lib.hid hb
    clear hnm hb
    go_wp2
    go_loopg [9, 10, 11] n (fun gg nv vv iv wr => ∃ (k m : Nat) (ns : List ByteArray) (vs : List Int), iv = .int .i64 k ∧ k ≤ n ∧ gg = n - k ∧ VlSt d w1 wr ls k m ns vs nv vv r)
    case atStart => exact ⟨0, 0, [], [], rfl, by omega, by omega, VlSt.start w1 HRR.out⟩
    case round =>
      obtain ⟨k, m, ns, vs, rfl, hk, hgk, hst⟩ := hrel
      have HGK := Lib.hid hgk; have HS := Lib.hid hst
      have hmk := hst.mle
      obtain ⟨AN, cN, rfl, hcN, _⟩ := own_shape hst.ownN
      obtain ⟨AV, cV, rfl, hcV, _⟩ := own_shape hst.ownV
      have HWW := Lib.hid (HB.out.trans (hst.bel.mono HB.out.size))
      clear hgk hst
      by_cases hlt : k < n
      · obtain ⟨ad, p, L, t, A', c', rfl, hp, hpb, hL, hok, hc, q0, q1, q2, q3, hlt2, hs1, hs2⟩ := (HX.out.below HWW.out).get hlt
        obtain ⟨c0, c1', _, _, _, _, _, _, _, _, _, _, c12, _, _, c15, c16, c17, c18⟩ := cells19 hc
        rw [q0] at c15; rw [q1] at c16; rw [q2] at c17; rw [q3] at c18
        have HSTEP := Lib.hid (vals_step hL HS.out.eq)
        have hpw : p.block < wr.heap.size := Nat.lt_of_lt_of_le hpb HWW.out.size
        have HEV := Lib.hid (ref_Eval d t ns vs A' AN AV c' m cN m cV wr (hlt2.more HWW.out.size) (Nms.of_own HS.out.ownN) (Ints.of_own HS.out.ownV) (by omega) (by omega))
        have C12 := Lib.hid c12
        clear hc hL hok hlt2 q0 q1 q2 q3 c0 c12 hs1 hs2
        unfold EvalPost at HEV
        obtain ⟨ev, hev⟩ : ∃ ev, ev = evalR d t ns vs := ⟨_, rfl⟩
        rw [← hev] at HEV HSTEP
        obtain ⟨v, f⟩ := ev
        simp only at HEV HSTEP
        clear hev
        unfold tmV at HEV
        generalize t.op = top at HEV c15
        generalize t.n = tn at HEV c16
        generalize t.name = tnm at HEV c17
        generalize t.args.length = tl at HEV c18
        by_cases h6 : L.kind = 6
        · have h6' : (L.kind != 6) = false := by simpa using h6
          by_cases hf : f = 0
          · subst hf
            have HNX := Lib.hid (show r = valsF d (k + 1) (ns ++ [L.ref]) (vs ++ [v]) (ls.drop (k + 1)) by rw [HSTEP.out, if_pos h6, if_pos rfl])
            clear h6
            go_wp2_with fail
            refine HEV.out.mono ?_
            rintro e wz ⟨rfl, hbz⟩
            have HSZ := Lib.hid (HS.out.on hbz)
            have c12 := (hbz.cell (p := ⟨p.block, p.off + 12, none⟩) hpw).trans C12.out
            clear hbz c15 c16 c17 c18 c1'
            go_wp2_with (first | (at_builtin; refine wpList_append_lies _ rfl _ _ _ rfl w1.heap.size 9 i0 _ 1 16 Try.underlying34 hi hz0 hz1 hz2 rfl (by omega) _ m (nmCells ns) rfl (HSZ.out.ownN.alloc _) ⟨wz.heap.size, 0, none⟩ 1 1 [.string L.ref] rfl rfl (World.news_of_block (cs := #[.string L.ref]) (t := 9) (fr := (0, 0)) (heap_alloc_new wz _)) (by simp [Value.oneCell']) (by omega) (by unfold maxLen; omega) (by omega) (by have := HSZ.out.bel.size; simp; omega) (wz.heap.size + 1) (by simp) ?_; intro g1 cap1 wy hown1 hgrow1 hat1 hlt1) | (at_builtin; refine wpList_append_lies _ rfl _ _ _ rfl w1.heap.size 3 j0 _ 1 8 Try.underlying28 hj hjz0 hjz1 hjz2 rfl (by omega) _ m (ints vs) rfl ((HSZ.out.vals _ hgrow1).alloc _) ⟨wy.heap.size, 0, none⟩ 1 1 [.int .i64 v] rfl rfl (World.news_of_block (cs := #[.int .i64 v]) (t := 3) (fr := (0, 0)) (heap_alloc_new wy _)) (by simp [Value.oneCell']) (by omega) (by unfold maxLen; omega) (by omega) (by have h1 := HSZ.out.bel.size; have h2 := hgrow1.size; simp at h2; simp; omega) (wy.heap.size + 1) (by simp) ?_; intro g2 cap2 wx hown2 hgrow2 hat2 hlt2))
            go_roundg (n - (k + 1))
            case measure => have := HGK.out; omega
            case rel => exact ⟨k + 1, m + 1, _, _, by go_num, by omega, rfl, HSZ.out.next (L := L) (t := t) _ _ hown1 hgrow1 hat1 hown2 hgrow2 hat2 HNX.out⟩
          · have hf' : (f != 0) = true := by simpa using hf
            have HFA := Lib.hid (show r = ([], [], f, (k : Int) + 1) by rw [HSTEP.out, if_pos h6, if_neg hf])
            clear h6 hf
            go_wp2_with fail
            refine HEV.out.mono ?_
            rintro e wz ⟨rfl, hbz⟩
            have HBZ := Lib.hid (HWW.out.trans (hbz.mono HWW.out.size))
            clear hbz
            go_wp2
            refine bodyPost_ret (v := .tuple #[.slice none 0 0, .slice none 0 0, .int .i64 f, .int .i64 ((k : Int) + 1)]) (by simp [results, Try.results32, go_sem]) rfl ⟨none, none, 0, 0, 0, 0, by rw [HFA.out], by rw [HFA.out]; exact Nms.nil, by rw [HFA.out]; exact Ints.nil, HBZ.out⟩
        · have h6' : (L.kind != 6) = true := by simpa using h6
          have HNX := Lib.hid (show r = valsF d (k + 1) ns vs (ls.drop (k + 1)) by rw [HSTEP.out, if_neg h6])
          clear h6
          go_wp2
          go_roundg (n - (k + 1))
          case measure => have := HGK.out; omega
          case rel => exact ⟨k + 1, m, ns, vs, by go_num, by omega, rfl, ⟨by omega, HS.out.ownN, HS.out.ownV, HS.out.sep, HS.out.bel, HNX.out⟩⟩
      · have HE := Lib.hid (vals_end (by rw [HLN.out]; omega) HS.out.eq)
        go_wp2
        refine bodyPost_ret (v := .tuple #[.slice AN m cN, .slice AV m cV, .int .i64 0, .int .i64 0]) (by simp [results, Try.results32, go_sem]) rfl ⟨AN, AV, m, m, cN, cV, by rw [HE.out], by rw [HE.out]; exact Nms.of_own HS.out.ownN, by rw [HE.out]; exact Ints.of_own HS.out.ownV, HWW.out⟩
  · have hqe' : (qe != 0) = true := by simpa using hqe
    have HFA := Lib.hid (show r = ([], [], qe, qa) by rw [HR.out, if_neg hqe])
    clear hqe HR
    go_enter Try.func32, Try.ntmps32
    go_wp2_with fail
    refine HNM.out.mono ?_
    rintro e w1 ⟨A1, n1, c1, rfl, hnm, hb⟩
    have HB := Lib.hid hb
    clear hnm hb
    go_wp2
    refine bodyPost_ret (v := .tuple #[.slice none 0 0, .slice none 0 0, .int .i64 qe, .int .i64 qa]) (by simp [results, Try.results32, go_sem]) rfl ⟨none, none, 0, 0, 0, 0, by rw [HFA.out], by rw [HFA.out]; exact Nms.nil, by rw [HFA.out]; exact Ints.nil, HB.out⟩
abbrev flt0 (T : TypeId) : Obj := .cells #[.int .i64 0, .int .i64 0] T (0, 0)
theorem set2 {w : World} {b : Nat} {a0 a1 u0 u1 : Value} {T : TypeId} (h : w.heap[b]? = some (.cells #[a0, a1] T (0, 0))) :
    ((w.setCell ⟨b, 0, none⟩ u0).setCell ⟨b, 1, none⟩ u1).heap[b]? = some (.cells #[u0, u1] T (0, 0)) := by
  simp [World.setCell, Array.getElem?_modify, h]
theorem below_set2 {B b : Nat} {a w : World} {u0 u1 : Value} (h : Below B a w) (hB : B ≤ b) : Below B a ((w.setCell ⟨b, 0, none⟩ u0).setCell ⟨b, 1, none⟩ u1) := (h.setCell (p := ⟨b, 0, none⟩) hB _).setCell (p := ⟨b, 1, none⟩) hB _
set_option maxRecDepth 100000 in
set_option maxHeartbeats 8000000 in
theorem sym_Values (A : Option Addr) (n c d : Nat) (ls : List (Ln × Tm)) (w : World) (hx : TLines w w.heap.size A n d ls) (hn : n ≤ 1000) :
    Calls Try.prog 31 #[.slice A n c] w (ValsGot (valsOf d ls) w) := by
  obtain ⟨i0, hi, hz0, hz1, hz2⟩ := info_parts Try.infoText
  obtain ⟨j0, hj, hjz0, hjz1, hjz2⟩ := info_parts Try.infoNum
  have hba : Below w.heap.size w (w.alloc (flt0 37)) := (Below.refl _ _).alloc (Nat.le_refl _) _
  have HNM := Lib.hid (sym_Names A n c (w.alloc (flt0 37)).heap.size (ls.map (·.1)) (w.alloc (flt0 37)) (hx.on hba).lines (Nat.le_refl _) hn (fun L hL => by
    obtain ⟨⟨L', t⟩, hQ, rfl⟩ := List.mem_map.1 hL
    exact hx.sizes L' t hQ))
  have HX := Lib.hid hx
  have HLN := Lib.hid hx.len
  have HBA := Lib.hid hba
  have LA := Lib.hid (heap_alloc_new w (flt0 37))
  clear hx hba
  obtain ⟨r, hr⟩ : ∃ r, r = valsOf d ls := ⟨_, rfl⟩
  rw [← hr]
  obtain ⟨q, hq⟩ : ∃ q, q = namesOf (ls.map (·.1)) := ⟨_, rfl⟩
  rw [← hq] at HNM
  have HR := Lib.hid (show r = if q.2.1 = 0 then valsF d 0 [] [] ls else ([], [], q.2.1, q.2.2) by rw [hr, hq]; rfl)
  clear hr hq
  obtain ⟨qn, qe, qa⟩ := q
  simp only at HR
  unfold NamesGot at HNM
  simp only at HNM
  by_cases hqe : qe = 0
  · subst hqe
    have HRR := Lib.hid (show r = valsF d 0 [] [] ls by rw [HR.out, if_pos rfl])
    clear HR
    go_enter Try.func31, Try.ntmps31
    go_wp2_with fail
    refine HNM.out.mono ?_
    rintro e w1 ⟨A1, n1, c1, rfl, hnm, hb⟩
    have LW1 := Lib.hid ((hb.block w.heap.size (by simp)).trans LA.out)
    have HB := Lib.hid (HBA.out.trans (hb.mono HBA.out.size))
    have hw1 : w.heap.size < w1.heap.size := by have := hb.size; simp at this; omega
    clear hnm hb
    go_upto_region 4 with (fail)
    have hb0 := HB.out.alloc HB.out.size (.cells #[.int .i64 0, .int .i64 qa] 37)
    have hl0 := (Below.heap_alloc w1 (.cells #[.int .i64 0, .int .i64 qa] 37) w.heap.size hw1).trans LW1.out
    have hw0 : w.heap.size < (w1.alloc (.cells #[.int .i64 0, .int .i64 qa] 37)).heap.size := by simp; omega
    generalize w1.alloc (.cells #[.int .i64 0, .int .i64 qa] 37) = w0 at hb0 hl0 hw0 ⊢
    have HB0 := Lib.hid hb0; have L0 := Lib.hid hl0
    clear hb0 hl0 LW1
    go_wp2
    go_loopg [7, 8, 24] n (fun gg nv vv iv wr => ∃ (k m : Nat) (ns : List ByteArray) (vs : List Int), iv = .int .i64 k ∧ k ≤ n ∧ gg = n - k ∧ VlSt d w0 wr ls k m ns vs nv vv r)
    case atStart => exact ⟨0, 0, [], [], rfl, by omega, by omega, VlSt.start w0 HRR.out⟩
    case round =>
      obtain ⟨k, m, ns, vs, rfl, hk, hgk, hst⟩ := hrel
      have HGK := Lib.hid hgk; have HS := Lib.hid hst
      have hmk := hst.mle
      obtain ⟨AN, cN, rfl, hcN, _⟩ := own_shape hst.ownN
      obtain ⟨AV, cV, rfl, hcV, _⟩ := own_shape hst.ownV
      have HWW := Lib.hid (HB0.out.trans (hst.bel.mono HB0.out.size))
      have LR := Lib.hid ((hst.bel.block w.heap.size hw0).trans L0.out)
      clear hgk hst
      by_cases hlt : k < n
      · obtain ⟨ad, p, L, t, A', c', rfl, hp, hpb, hL, hok, hc, q0, q1, q2, q3, hlt2, hs1, hs2⟩ := (HX.out.below HWW.out).get hlt
        obtain ⟨X, hX⟩ : ∃ X, X = L.cells.toArray := ⟨_, rfl⟩
        have hld : (Instr.loadAt 56 (.pointer (some p))).run Try.prog wr = .ok (.agg X) wr := by rw [hX]; exact run_loadAt_any wr p 56 L.cells _ hc Try.underlying56 rfl (by kernel_rfl)
        have hXs : X.size = 19 := by rw [hX]; rfl
        have hXi : (Try.prog.info? 56).map (·.size) = some X.size := by rw [hXs]; kernel_rfl
        have hX1 : X.all (·.oneCell') = true := by rw [hX]; exact Ln.arr_one L hok
        have HSTEP := Lib.hid (vals_step hL HS.out.eq)
        have hba : Below wr.heap.size wr (wr.alloc (.cells X 56)) := (Below.refl _ _).alloc (Nat.le_refl _) _
        have HSA := Lib.hid (HS.out.on hba)
        have HEV := Lib.hid (ex_Eval d t ns vs A' AN AV c' m cN m cV _ ((hlt2.more HWW.out.size).on hba) (Nms.of_own HSA.out.ownN) (Ints.of_own HSA.out.ownV) (by omega) (by omega))
        have LRA := Lib.hid ((hba.block w.heap.size (by have := HS.out.bel.size; omega)).trans LR.out)
        have HWA := Lib.hid (HWW.out.trans (hba.mono HWW.out.size))
        have y1 : (wr.alloc (.cells X 56)).cell? ⟨wr.heap.size, 1, none⟩ = some (.int .i64 L.kind) := new_line _ _ _ _ _ (by rw [hX]; rfl)
        have y12 : (wr.alloc (.cells X 56)).cell? ⟨wr.heap.size, 12, none⟩ = some (.string L.ref) := new_line _ _ _ _ _ (by rw [hX]; rfl)
        have y15 : (wr.alloc (.cells X 56)).cell? ⟨wr.heap.size, 15, none⟩ = some (.int .i64 t.op) := new_line _ _ _ _ _ (by rw [hX, ← q0]; rfl)
        have y16 : (wr.alloc (.cells X 56)).cell? ⟨wr.heap.size, 16, none⟩ = some (.int .i64 t.n) := new_line _ _ _ _ _ (by rw [hX, ← q1]; rfl)
        have y17 : (wr.alloc (.cells X 56)).cell? ⟨wr.heap.size, 17, none⟩ = some (.string t.name) := new_line _ _ _ _ _ (by rw [hX, ← q2]; rfl)
        have y18 : (wr.alloc (.cells X 56)).cell? ⟨wr.heap.size, 18, none⟩ = some (.slice A' t.args.length c') := new_line _ _ _ _ _ (by rw [hX, ← q3]; rfl)
        have hza : wr.heap.size < (wr.alloc (.cells X 56)).heap.size := by simp
        clear hc hL hok hlt2 q0 q1 q2 q3 hs1 hs2 hX hba
        unfold EvalPost at HEV
        obtain ⟨ev, hev⟩ : ∃ ev, ev = evalR d t ns vs := ⟨_, rfl⟩
        rw [← hev] at HEV HSTEP
        obtain ⟨v, f⟩ := ev
        simp only at HEV HSTEP
        clear hev
        unfold tmV at HEV
        generalize t.op = top at HEV y15
        generalize t.n = tn at HEV y16
        generalize t.name = tnm at HEV y17
        generalize t.args.length = tl at HEV y18
        go_upto_region 9 with (first | (refine wpList_load_any rfl 56 _ rfl p rfl X hld ?_) | (refine wpList_store_any rfl 56 _ _ rfl ⟨wr.heap.size, 0, none⟩ rfl X rfl (run_store_new wr 56 56 _ X (by rw [hXs]; rfl) hXi hX1) ?_))
        clear hld hXs hXi hX1
        generalize wr.alloc (.cells X 56) = wa at HSA HEV LRA HWA y1 y12 y15 y16 y17 y18 hza ⊢
        have Y12 := Lib.hid y12
        by_cases h6 : L.kind = 6
        · have h6' : (L.kind != 6) = false := by simpa using h6
          by_cases hf : f = 0
          · subst hf
            have HNX := Lib.hid (show r = valsF d (k + 1) (ns ++ [L.ref]) (vs ++ [v]) (ls.drop (k + 1)) by rw [HSTEP.out, if_pos h6, if_pos rfl])
            clear h6 y12
            go_wp2_with fail
            refine HEV.out.mono ?_
            rintro e wz ⟨rfl, hbz⟩
            have HSZ := Lib.hid (HSA.out.on hbz)
            have y12 := (hbz.cell (p := ⟨wr.heap.size, 12, none⟩) hza).trans Y12.out
            have hzz : wr.heap.size < wz.heap.size := Nat.lt_of_lt_of_le hza hbz.size
            clear hbz y1 y15 y16 y17 y18
            go_wp2_with (first | (at_builtin; refine wpList_append_lies _ rfl _ _ _ rfl w0.heap.size 9 i0 _ 1 16 Try.underlying34 hi hz0 hz1 hz2 rfl (by omega) _ m (nmCells ns) rfl (HSZ.out.ownN.alloc _) ⟨wz.heap.size, 0, none⟩ 1 1 [.string L.ref] rfl rfl (World.news_of_block (cs := #[.string L.ref]) (t := 9) (fr := (0, 0)) (heap_alloc_new wz _)) (by simp [Value.oneCell']) (by omega) (by unfold maxLen; omega) (by omega) (by have := HSZ.out.bel.size; simp; omega) (wz.heap.size + 1) (by simp) ?_; intro g1 cap1 wy hown1 hgrow1 hat1 hlt1) | (at_builtin; refine wpList_append_lies _ rfl _ _ _ rfl w0.heap.size 3 j0 _ 1 8 Try.underlying28 hj hjz0 hjz1 hjz2 rfl (by omega) _ m (ints vs) rfl ((HSZ.out.vals _ hgrow1).alloc _) ⟨wy.heap.size, 0, none⟩ 1 1 [.int .i64 v] rfl rfl (World.news_of_block (cs := #[.int .i64 v]) (t := 3) (fr := (0, 0)) (heap_alloc_new wy _)) (by simp [Value.oneCell']) (by omega) (by unfold maxLen; omega) (by omega) (by have h1 := HSZ.out.bel.size; have h2 := hgrow1.size; simp at h2; simp; omega) (wy.heap.size + 1) (by simp) ?_; intro g2 cap2 wx hown2 hgrow2 hat2 hlt2))
            go_roundg (n - (k + 1))
            case measure => have := HGK.out; omega
            case rel => exact ⟨k + 1, m + 1, _, _, by go_num, by omega, rfl, HSZ.out.next (L := L) (t := t) _ _ hown1 hgrow1 hat1 hown2 hgrow2 hat2 HNX.out⟩
          · have hf' : (f != 0) = true := by simpa using hf
            have HFA := Lib.hid (show r = ([], [], f, (k : Int) + 1) by rw [HSTEP.out, if_pos h6, if_neg hf])
            clear h6 hf y12
            go_wp2_with fail
            refine HEV.out.mono ?_
            rintro e wz ⟨rfl, hbz⟩
            have HBZ := Lib.hid (HWA.out.trans (hbz.mono HWA.out.size))
            have LZ := Lib.hid ((hbz.block w.heap.size (by have := HWW.out.size; have := HS.out.bel.size; omega)).trans LRA.out)
            have f0 := cell_of_row _ _ 0 _ _ _ LZ.out
            have f1 := cell_of_row _ _ 1 _ _ _ LZ.out
            have z0 := frozen_of_row _ _ 0 _ _ LZ.out
            have z1 := frozen_of_row _ _ 1 _ _ LZ.out
            clear hbz y1 y15 y16 y17 y18
            go_wp2
            refine bodyPost_ret (v := .tuple #[.slice none 0 0, .slice none 0 0, .agg #[.int .i64 f, .int .i64 ((k : Int) + 1)]]) (by simp [results, Try.results31, go_sem, f0, f1]) rfl ⟨none, none, 0, 0, 0, 0, by rw [HFA.out], by rw [HFA.out]; exact Nms.nil, by rw [HFA.out]; exact Ints.nil, below_set2 HBZ.out (Nat.le_refl _)⟩
        · have h6' : (L.kind != 6) = true := by simpa using h6
          have HNX := Lib.hid (show r = valsF d (k + 1) ns vs (ls.drop (k + 1)) by rw [HSTEP.out, if_neg h6])
          clear h6
          go_wp2
          go_roundg (n - (k + 1))
          case measure => have := HGK.out; omega
          case rel => exact ⟨k + 1, m, ns, vs, by go_num, by omega, rfl, ⟨by omega, HSA.out.ownN, HSA.out.ownV, HSA.out.sep, HSA.out.bel, HNX.out⟩⟩
      · have HE := Lib.hid (vals_end (by rw [HLN.out]; omega) HS.out.eq)
        have f0 := cell_of_row _ _ 0 _ _ _ LR.out
        have f1 := cell_of_row _ _ 1 _ _ _ LR.out
        have z0 := frozen_of_row _ _ 0 _ _ LR.out
        have z1 := frozen_of_row _ _ 1 _ _ LR.out
        go_wp2
        refine bodyPost_ret (v := .tuple #[.slice AN m cN, .slice AV m cV, .agg #[.int .i64 0, .int .i64 0]]) (by simp [results, Try.results31, go_sem, f0, f1]) rfl ⟨AN, AV, m, m, cN, cV, by rw [HE.out], ?_, ?_, below_set2 HWW.out (Nat.le_refl _)⟩
        · rw [HE.out]
          exact Nms.of_own (ownsRow_setCell_below (ownsRow_setCell_below HS.out.ownN (a := ⟨w.heap.size, 0, none⟩) hw0 _) (a := ⟨w.heap.size, 1, none⟩) hw0 _)
        · rw [HE.out]
          exact Ints.of_own (ownsRow_setCell_below (ownsRow_setCell_below HS.out.ownV (a := ⟨w.heap.size, 0, none⟩) hw0 _) (a := ⟨w.heap.size, 1, none⟩) hw0 _)
  · have hqe' : (qe != 0) = true := by simpa using hqe
    have HFA := Lib.hid (show r = ([], [], qe, qa) by rw [HR.out, if_neg hqe])
    clear hqe HR
    go_enter Try.func31, Try.ntmps31
    go_wp2_with fail
    refine HNM.out.mono ?_
    rintro e w1 ⟨A1, n1, c1, rfl, hnm, hb⟩
    have LW1 := Lib.hid ((hb.block w.heap.size (by simp)).trans LA.out)
    have HB := Lib.hid (HBA.out.trans (hb.mono HBA.out.size))
    have hw1 : w.heap.size < w1.heap.size := by have := hb.size; simp at this; omega
    clear hnm hb
    have f0 := cell_of_row _ _ 0 _ _ _ LW1.out
    have f1 := cell_of_row _ _ 1 _ _ _ LW1.out
    have z0 := frozen_of_row _ _ 0 _ _ LW1.out
    have z1 := frozen_of_row _ _ 1 _ _ LW1.out
    go_wp2
    go_region_with (fail)
    all_goals
      go_wp2
      refine bodyPost_ret (v := .tuple #[.slice none 0 0, .slice none 0 0, .agg #[.int .i64 qe, .int .i64 qa]]) (by simp [results, Try.results31, go_sem, f0, f1, hw1]) rfl ⟨none, none, 0, 0, 0, 0, by rw [HFA.out], by rw [HFA.out]; exact Nms.nil, by rw [HFA.out]; exact Ints.nil, ?_⟩
      exact ((below_set2 HB.out (Nat.le_refl _)).alloc (by simp; omega) _).drew
end Go.Proofs.Ytnngmpimobolpaa
