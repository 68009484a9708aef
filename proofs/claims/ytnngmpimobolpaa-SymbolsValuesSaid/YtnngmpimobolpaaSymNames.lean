/- Contract of symbols.Names. -/
import Derived.Test.YtnngmpimobolpaaSymRefNames
import Derived.Test.YtnngmpimobolpaaMapBool
import Derived.Test.YtnngmpimobolpaaBigCells
namespace Go.Proofs.Ytnngmpimobolpaa
open Go.RowKit Mem
set_option linter.unusedVariables false
def labOwn (L : Ln) : List ByteArray := if L.lab.size = 0 then [] else [L.lab]
def kindOwn (L : Ln) : List ByteArray := if L.kind = 6 then [L.ref] else []
theorem own_two (L : Ln) : ownOf L = labOwn L ++ kindOwn L := rfl
theorem own_sizes {L : Ln} (h1 : L.lab.size ≤ maxLen) (h2 : L.ref.size ≤ maxLen) : ∀ s ∈ ownOf L, s.size ≤ maxLen := by
  intro s hs
  unfold ownOf at hs
  rcases List.mem_append.1 hs with h | h
  · split at h
    · cases h
    · simp at h; subst h; exact h1
  · split at h
    · simp at h; subst h; exact h2
    · cases h
/-- What symbols.Names gives back. -/
def NamesGot (r : List ByteArray × Int × Int) (w : World) (e : Ending) (w' : World) : Prop :=
  ∃ (A : Option Addr) (n c : Nat), e = .returned (.tuple #[.slice A n c, .agg #[.int .i64 r.2.1, .int .i64 r.2.2]]) ∧ Nms w' w'.heap.size A n r.1 ∧ Below w.heap.size w w'
theorem Try.mapKeyed : Go.Maps.Keyed Try.prog 9 := Go.Maps.string_keyed Try.underlying9
theorem Try.zeroBool : ∀ w : World, (zeroValue 4).run Try.prog w = .ok (.bool false) w := fun _ => by kernel_rfl
/-- Where Names stands at a line's head. -/
structure NmSt (w wr : World) (ls : List Ln) (k m : Nat) (out : List ByteArray) (ov : Value) (r : List ByteArray × Int × Int) : Prop where
  m2 : m ≤ 2 * k
  len : out.length = m
  own : wr.ownsRow (w.heap.size + 1 + 1) 9 1 ov m (nmCells out)
  map : SetOf Try.prog 9 4 wr (w.heap.size + 1) m out
  bel : Below w.heap.size w wr
  flt : wr.heap[w.heap.size]? = some (.cells #[.int .i64 0, .int .i64 0] 37 (0, 0))
  big : w.heap.size + 1 < wr.heap.size
  eq : r = namesF k out (ls.drop k)
/-- Where Names stands among the names of a line: they lie as they lay at wi. -/
structure NmIn (w wi wq : World) (k j m : Nat) (ow out0 out : List ByteArray) (ovi ov : Value) : Prop where
  m2 : m ≤ 2 * k + j
  len : out.length = m
  own : wq.ownsRow (w.heap.size + 1 + 1) 9 1 ov m (nmCells out)
  map : SetOf Try.prog 9 4 wq (w.heap.size + 1) m out
  bel : Below w.heap.size w wq
  flt : wq.heap[w.heap.size]? = some (.cells #[.int .i64 0, .int .i64 0] 37 (0, 0))
  size : wi.heap.size ≤ wq.heap.size
  keep : ∀ q, q < wi.heap.size → q ≠ w.heap.size + 1 → ovi.ownBlock ≠ some q → wq.heap[q]? = wi.heap[q]?
  row : ∀ g, ov.ownBlock = some g → ovi.ownBlock = some g ∨ wi.heap.size ≤ g
  eq : addAll out0 ow = addAll out (ow.drop j)
theorem NmSt.alloc {w wr : World} {ls : List Ln} {k m : Nat} {out : List ByteArray} {ov : Value} {r : List ByteArray × Int × Int} (h : NmSt w wr ls k m out ov r) (o : Obj) : NmSt w (wr.alloc o) ls k m out ov r :=
  ⟨h.m2, h.len, h.own.alloc o, h.map.alloc o, h.bel.alloc h.bel.size o, (Below.heap_alloc _ _ _ (by have := h.big; omega)).trans h.flt, by have := h.big; simp; omega, h.eq⟩
theorem own_empty (w : World) (T : TypeId) {base : Nat} (hb : base ≤ w.heap.size) : (w.alloc (.cells #[] T)).ownsRow base T 1 (.slice (some ⟨w.heap.size, 0, none⟩) 0 0) 0 [] :=
  ⟨by simp, .inr ⟨w.heap.size, 0, #[], rfl, hb, heap_alloc_new w _, Nat.le_refl _, Nat.zero_le _, rfl, rfl⟩⟩
theorem lab_own {L : Ln} {b : Bool} (h : decide (L.lab.size = 0) = b) : labOwn L = if b = true then [] else [L.lab] := by
  unfold labOwn
  by_cases hs : L.lab.size = 0
  · rw [if_pos hs, if_pos (by rw [← h]; simpa using hs)]
  · rw [if_neg hs, if_neg (by rw [← h]; simpa using hs)]
theorem grown_of {a b : World} (h : Below a.heap.size a b) : a.grownBy b none := ⟨h.os, h.tape, h.output, h.size, fun k hk _ => h.block k hk⟩
/-- From a line's head to its names. -/
theorem NmSt.into {w wr wi : World} {ls : List Ln} {k m : Nat} {out : List ByteArray} {ov : Value} {r : List ByteArray × Int × Int} (h : NmSt w wr ls k m out ov r) (hb : Below wr.heap.size wr wi) (ow : List ByteArray) : NmIn w wi wi k 0 m ow out out ov ov :=
  ⟨by have := h.m2; omega, h.len, h.own.kept (grown_of hb) (by cases ov.ownBlock with | none => exact .inl rfl | some g => exact .inr (fun e => by cases e)), h.map.kept (grown_of hb) (by simp), h.bel.trans (hb.mono h.bel.size), (hb.block _ (by have := h.big; omega)).trans h.flt, Nat.le_refl _, fun _ _ _ _ => rfl, fun g hg => .inl hg, rfl⟩
/-- One name more. -/
theorem NmIn.next {w wi wq wu wv : World} {k j m g cap : Nat} {ow out0 out : List ByteArray} {ovi ov : Value} {s : ByteArray} (h : NmIn w wi wq k j m ow out0 out ovi ov) (hm : w.heap.size + 1 < wi.heap.size) (hj : ow[j]? = some s) (hno : hasB s out = false)
    (hset : SetOf Try.prog 9 4 wu (w.heap.size + 1) (m + 1) (out ++ [s])) (hg1 : wq.grownBy wu (some (w.heap.size + 1))) (o : Obj)
    (hown : wv.ownsRow (w.heap.size + 1 + 1) 9 1 (.slice (some ⟨g, 0, none⟩) (m + 1) cap) (m + 1) (nmCells out ++ [.string s])) (hg2 : (wu.alloc o).grownBy wv ov.ownBlock) (hat : ov.ownBlock = some g ∨ g = wu.heap.size + 1) :
    NmIn w wi wv k (j + 1) (m + 1) ow out0 (out ++ [s]) ovi (.slice (some ⟨g, 0, none⟩) (m + 1) cap) := by
  have hz1 : wq.heap.size ≤ wu.heap.size := hg1.size
  have hz2 : wu.heap.size + 1 ≤ wv.heap.size := by have := hg2.size; simpa using this
  have hz0 := h.size
  have hov : ∀ g, ov.ownBlock = some g → w.heap.size + 1 + 1 ≤ g := fun g hg => (own_block h.own g hg).1
  refine ⟨by have := h.m2; omega, by simp [h.len], by rw [nmCells_append]; exact hown, (hset.alloc o).kept hg2 (fun e => by have := hov _ e.symm; omega), ?_, ?_, by omega, fun q hq hqm hqo => ?_, fun g' hg' => ?_, ?_⟩
  · exact ((h.bel.grown hg1 h.bel.size (fun g hg => by have := Option.some.inj hg; omega)).alloc (by have := h.bel.size; omega) o).grown hg2 (by have := h.bel.size; simp; omega) (fun g hg => by have := hov g hg; omega)
  · have h1 := hg1.block w.heap.size (by omega) (fun e => by have := Option.some.inj e; omega)
    have h2 := hg2.block w.heap.size (by simp; omega) (fun e => by have := hov _ e.symm; omega)
    exact h2.trans ((Below.heap_alloc _ _ _ (by omega)).trans (h1.trans h.flt))
  · have h1 := hg1.block q (by omega) (fun e => hqm (Option.some.inj e))
    have h2 := hg2.block q (by simp; omega) (fun e => by
      rcases h.row q e.symm with h3 | h3
      · exact hqo h3
      · omega)
    exact h2.trans ((Below.heap_alloc _ _ _ (by omega)).trans (h1.trans (h.keep q hq hqm hqo)))
  · have : g = g' := by simpa [Value.ownBlock] using hg'
    subst this
    rcases hat with h3 | h3
    · exact h.row g h3
    · exact .inr (by omega)
  · rw [add_step hj h.eq, if_neg (by rw [hno]; decide)]
set_option maxRecDepth 100000 in
set_option maxHeartbeats 8000000 in
theorem sym_Names (A : Option Addr) (n c B : Nat) (ls : List Ln) (w : World) (hx : Lines w B A n ls) (hB : B ≤ w.heap.size) (hn : n ≤ 1000) (hsz : ∀ L ∈ ls, L.lab.size ≤ maxLen ∧ L.ref.size ≤ maxLen) :
    Calls Try.prog 28 #[.slice A n c] w (NamesGot (namesOf ls) w) := by
  obtain ⟨i0, hi, hz0, hz1, hz2⟩ := info_parts Try.infoText
  have hmm := @run_makeMap Try.prog
  have HX := Lib.hid hx
  have HLN := Lib.hid hx.len
  have HBB := Lib.hid hB
  have HSZ := Lib.hid hsz
  clear hx hB hsz
  obtain ⟨r, hr⟩ : ∃ r, r = namesOf ls := ⟨_, rfl⟩
  rw [← hr]
  have HR := Lib.hid hr
  clear hr
  go_enter Try.func28, Try.ntmps28
  go_wp2
  go_loopg [5, 14] n (fun gg ov iv wr => ∃ (k m : Nat) (out : List ByteArray), iv = .int .i64 k ∧ k ≤ n ∧ gg = n - k ∧ NmSt w wr ls k m out ov r)
  case atStart =>
    exact ⟨0, 0, [], rfl, by omega, by omega, by omega, rfl, own_nil _ _ _, by have := SetOf.made (P := Try.prog) (k := 9) (e := 4) (w.alloc (.cells #[.int .i64 0, .int .i64 0] 37)); simpa using this, ((Below.refl _ _).alloc (Nat.le_refl _) _).alloc (by simp) _, (Below.heap_alloc _ _ _ (by simp)).trans (heap_alloc_new w _), by simp, HR.out⟩
  case round =>
    obtain ⟨wo, hwo⟩ : ∃ wo, wo = wr := ⟨_, rfl⟩
    subst hwo
    obtain ⟨k, m, out, rfl, hk, hgk, hst⟩ := hrel
    have HGK := Lib.hid hgk
    have HS := Lib.hid hst
    obtain ⟨AO, cO, rfl, hcO, _⟩ := own_shape hst.own
    have hbig := hst.big
    clear hgk hst
    by_cases hlt : k < n
    · obtain ⟨ad, p, L, rfl, hp, hpb, hL, hok, hc⟩ := (HX.out.below (HS.out.bel.mono HBB.out)).get hlt
      have HL := Lib.hid hL
      obtain ⟨X, hX⟩ : ∃ X, X = L.cells.toArray := ⟨_, rfl⟩
      have hld : (Instr.loadAt 56 (.pointer (some p))).run Try.prog wo = .ok (.agg X) wo := by rw [hX]; exact run_loadAt_any wo p 56 L.cells _ hc Try.underlying56 rfl (by kernel_rfl)
      have hXs : X.size = 19 := by rw [hX]; rfl
      have hXi : (Try.prog.info? 56).map (·.size) = some X.size := by rw [hXs]; kernel_rfl
      have hX1 : X.all (·.oneCell') = true := by rw [hX]; exact Ln.arr_one L hok
      have HXX := Lib.hid hX
      have he := emp_iff L.lab
      obtain ⟨bE, hE⟩ : ∃ b, L.lab.toList.isEmpty = b := ⟨_, rfl⟩
      have HE := Lib.hid (show decide (L.lab.size = 0) = bE by rw [← he]; exact hE)
      clear he hc hL hok hX
      go_upto_region 6 with (first | (refine wpList_load_any rfl 56 _ rfl p rfl X hld ?_) | (refine wpList_store_any rfl 56 _ _ rfl ⟨wo.heap.size, 0, none⟩ rfl X rfl (run_store_new wo 56 56 _ X (by rw [hXs]; rfl) hXi hX1) ?_))
      have HSA := Lib.hid (HS.out.alloc (.cells X 56))
      have hza : (wo.alloc (.cells X 56)).heap.size = wo.heap.size + 1 := by simp
      have hy0 : (wo.alloc (.cells X 56)).cell? ⟨wo.heap.size, 0, none⟩ = some (.string L.lab) := new_line _ _ _ _ _ (by rw [HXX.out]; rfl)
      have hy1 : (wo.alloc (.cells X 56)).cell? ⟨wo.heap.size, 1, none⟩ = some (.int .i64 L.kind) := new_line _ _ _ _ _ (by rw [HXX.out]; rfl)
      have hy12 : (wo.alloc (.cells X 56)).cell? ⟨wo.heap.size, 12, none⟩ = some (.string L.ref) := new_line _ _ _ _ _ (by rw [HXX.out]; rfl)
      clear hld hXi hX1 hXs HXX
      generalize wo.alloc (.cells X 56) = wa at HSA hza hy0 hy1 hy12 ⊢
      have HZA := Lib.hid hza; have Y0 := Lib.hid hy0; have Y1 := Lib.hid hy1; have Y12 := Lib.hid hy12
      have hlt0 : wo.heap.size < wa.heap.size := by omega
      clear hza hy1 hy12
      have hLO := lab_own HE.out
      go_upto_if 22 with (fail)
      go_cut [8] (fun sv wx => ∃ no : Nat, no = (labOwn L).length ∧ wx.ownsRow (wo.heap.size + 1) 9 1 sv no (nmCells (labOwn L)) ∧ Below wa.heap.size wa wx)
      case first =>
        have HLO := Lib.hid hLO
        clear hLO
        cases bE with
        | true =>
          go_wp2
          go_meet
          exact ⟨0, by rw [HLO.out]; rfl, by rw [HLO.out]; exact own_empty wa 9 (by rw [HZA.out]; exact Nat.le_refl _), (Below.refl _ _).alloc (Nat.le_refl _) _⟩
        | false =>
          have HOE := Lib.hid (own_empty wa 9 (base := wo.heap.size + 1) (by rw [HZA.out]; exact Nat.le_refl _))
          have hnw : ((wa.alloc (.cells #[] 9)).alloc (.cells #[.string L.lab] 9)).heap[wa.heap.size + 1]? = some (.cells #[.string L.lab] 9 (0, 0)) := by
            have := heap_alloc_new (wa.alloc (.cells #[] 9)) (.cells #[.string L.lab] 9)
            simpa using this
          go_wp2_with (at_builtin; refine wpList_append_lies _ rfl _ _ _ rfl (wo.heap.size + 1) 9 i0 _ 1 16 Try.underlying34 hi hz0 hz1 hz2 rfl (by omega) _ (0) (nmCells ([])) rfl (HOE.out.alloc _) ⟨wa.heap.size + 1, 0, none⟩ 1 1 [.string L.lab] rfl rfl (World.news_of_block (cs := #[.string L.lab]) (t := 9) (fr := (0, 0)) hnw) (by simp [Value.oneCell']) (by omega) (by unfold maxLen; omega) (by omega) (by have := HZA.out; simp; omega) (wa.heap.size + 1 + 1) (by simp) ?_; intro g cap wx hown1 hgrow1 hat1 hlt1)
          go_meet
          exact ⟨1, by rw [HLO.out]; rfl, by rw [HLO.out]; exact hown1, (((Below.refl _ _).alloc (Nat.le_refl _) _).alloc (by simp) _).grown hgrow1 (by simp; omega) (fun g hg => by have h1 := (own_block HOE.out g hg).1; have h2 := HZA.out; omega)⟩
      case rest =>
        obtain ⟨no, hno, hown, hbw⟩ := hcut
        clear hLO hy0
        obtain ⟨AW, cW, rfl, hcW, _⟩ := own_shape hown
        have hno1 : no ≤ 1 := by rw [hno]; unfold labOwn; split <;> simp
        have HNO := Lib.hid hno; have HOW := Lib.hid hown; have HBW := Lib.hid hbw
        have hzc : wa.heap.size ≤ wc.heap.size := hbw.size
        have y1 := (hbw.cell (p := ⟨wo.heap.size, 1, none⟩) hlt0).trans Y1.out
        have y12 := (hbw.cell (p := ⟨wo.heap.size, 12, none⟩) hlt0).trans Y12.out
        have hlt1 : wo.heap.size < wc.heap.size := by omega
        clear hno hown hbw
        obtain ⟨wd, hwd⟩ : ∃ wd, wd = wc := ⟨_, rfl⟩
        subst hwd
        go_upto_if 30 with (fail)
        go_cut [8] (fun sv wx => ∃ no : Nat, no = (ownOf L).length ∧ wx.ownsRow (wo.heap.size + 1) 9 1 sv no (nmCells (ownOf L)) ∧ Below wa.heap.size wa wx)
        case first =>
          by_cases h6 : L.kind = 6
          · have h6' : (L.kind == 6) = true := by simpa using h6
            have HKO := Lib.hid (show ownOf L = labOwn L ++ [L.ref] by rw [own_two]; unfold kindOwn; rw [if_pos h6])
            clear h6
            go_wp2_with (at_builtin; refine wpList_append_lies _ rfl _ _ _ rfl (wo.heap.size + 1) 9 i0 _ 1 16 Try.underlying34 hi hz0 hz1 hz2 rfl (by omega) _ (no) (nmCells (labOwn L)) rfl (HOW.out.alloc _) ⟨wd.heap.size, 0, none⟩ 1 1 [.string L.ref] rfl rfl (World.news_of_block (cs := #[.string L.ref]) (t := 9) (fr := (0, 0)) (heap_alloc_new wd _)) (by simp [Value.oneCell']) (by omega) (by unfold maxLen; omega) (by omega) (by have := HBW.out.size; have := HZA.out; simp; omega) (wd.heap.size + 1) (by simp) ?_; intro g cap wx hown1 hgrow1 hat1 hltg1)
            go_meet
            exact ⟨no + 1, by rw [HKO.out, HNO.out]; simp, by rw [HKO.out, nmCells_append]; exact hown1, (HBW.out.alloc HBW.out.size _).grown hgrow1 (by have := HBW.out.size; simp; omega) (fun g hg => by have h1 := (own_block HOW.out g hg).1; have h2 := HZA.out; omega)⟩
          · have h6' : (L.kind == 6) = false := by simpa using h6
            have HKO := Lib.hid (show ownOf L = labOwn L by rw [own_two]; unfold kindOwn; rw [if_neg h6, List.append_nil])
            clear h6
            go_wp2
            go_meet
            exact ⟨no, by rw [HKO.out]; exact HNO.out, by rw [HKO.out]; exact HOW.out, HBW.out⟩
        case rest =>
          obtain ⟨no2, hno2, hown2, hbw2⟩ := hcut
          obtain ⟨AI, cI, rfl, hcI, _⟩ := own_shape hown2
          have hno3 : no2 ≤ 2 := by rw [hno2]; exact own_len L
          have HNO2 := Lib.hid hno2; have HOI := Lib.hid hown2; have HBI := Lib.hid hbw2
          clear hno2 hown2 hbw2 y1 y12 hlt1 hzc
          obtain ⟨wi, hwi⟩ : ∃ wi, wi = wc := ⟨_, rfl⟩
          subst hwi
          have HIN := Lib.hid (HSA.out.into HBI.out (ownOf L))
          have HOS := Lib.hid (own_sizes (HSZ.out L (List.mem_of_getElem? HL.out)).1 (HSZ.out L (List.mem_of_getElem? HL.out)).2)
          have hwz : w.heap.size + 1 < wi.heap.size := by have h1 := HBI.out.size; have h2 := HZA.out; omega
          have HM2 := Lib.hid HS.out.m2
          go_wp2
          go_loopg [5, 38] no2 (fun gg2 ov jv wq => ∃ (j mm : Nat) (cur : List ByteArray), jv = .int .i64 j ∧ j ≤ no2 ∧ gg2 = no2 - j ∧ NmIn w wi wq k j mm (ownOf L) out cur (.slice AO m cO) ov)
          case atStart => exact ⟨0, m, out, rfl, by omega, by omega, HIN.out⟩
          case round =>
            obtain ⟨wq, hwq⟩ : ∃ wq, wq = wr := ⟨_, rfl⟩
            subst hwq
            obtain ⟨j, mm, cur, rfl, hj, hgj, hin⟩ := hrel
            have HGJ := Lib.hid hgj; have HQ := Lib.hid hin
            have hmm2 : mm ≤ 2 * k + j := hin.m2
            obtain ⟨AQ, cQ, rfl, hcQ, _⟩ := own_shape hin.own
            clear hgj hin
            by_cases hlj : j < no2
            · obtain ⟨gI, capI, hvI, hgI1, hgI2⟩ := HOI.out.form (by omega)
              cases hvI
              obtain ⟨z, hz⟩ : ∃ z, (ownOf L)[j]? = some z := ⟨_, List.getElem?_eq_getElem (by rw [← HNO2.out]; exact hlj)⟩
              have hci := HOI.out.cells (g := gI) rfl j (.string z) (by unfold nmCells; rw [List.getElem?_map, hz]; rfl)
              have hcq : wq.cell? ((⟨gI, 0, none⟩ : Addr).add j) = some (.string z) := (World.cell?_of_block (w := wi) (by rw [add_block]; exact HQ.out.keep gI hgI2 (by have := HZA.out; omega) (fun e => by have := (own_block HS.out.own _ e).2; omega))).trans hci
              rw [Addr.add_mid, Nat.zero_add] at hcq
              have HKEY := Lib.hid (Go.WideMaps.keyOf_string_mk Try.underlying9 (HOS.out z (List.mem_of_getElem? hz)))
              have HZJ := Lib.hid hz
              clear hci hz
              cases hh : hasB z cur with
              | true =>
                have HFA := Lib.hid (show r = ([], 5, (k : Int) + 1) by
                  rw [names_step HL.out HS.out.eq, HQ.out.eq, add_step HZJ.out rfl, if_pos hh])
                have f0 := cell_of_row _ _ 0 _ _ _ HQ.out.flt
                have f1 := cell_of_row _ _ 1 _ _ _ HQ.out.flt
                have z0 := frozen_of_row _ _ 0 _ _ HQ.out.flt
                have z1 := frozen_of_row _ _ 1 _ _ HQ.out.flt
                go_wp2_with (at_lookup; refine wpList_lookup_set _ rfl _ _ 63 rfl 9 4 Try.mapKeyed Try.underlying63 Try.underlying4 (Try.zeroBool _) (w.heap.size + 1) mm cur rfl HQ.out.map z rfl HKEY.out ?_; rw [hh])
                refine bodyPost_ret (v := .tuple #[.slice none 0 0, .agg #[.int .i64 5, .int .i64 ((k : Int) + 1)]]) (by simp [results, Try.results28, go_sem, f0, f1]) rfl ⟨none, 0, 0, by rw [HFA.out], by rw [HFA.out]; exact Nms.nil, ?_⟩
                exact (HQ.out.bel.setCell (p := ⟨w.heap.size, 0, none⟩) (Nat.le_refl _) _).setCell (p := ⟨w.heap.size, 1, none⟩) (Nat.le_refl _) _
              | false =>
                have HHH := Lib.hid hh
                go_wp2_with (first | (at_lookup; refine wpList_lookup_set _ rfl _ _ 63 rfl 9 4 Try.mapKeyed Try.underlying63 Try.underlying4 (Try.zeroBool _) (w.heap.size + 1) mm cur rfl HQ.out.map z rfl HKEY.out ?_; rw [hh]) | (at_mapUpdate; refine wpList_update_set _ rfl _ _ _ 63 rfl 9 4 Try.mapKeyed Try.underlying63 Try.underlying4 (w.heap.size + 1) mm cur rfl HQ.out.map (by unfold maxLen; omega) z rfl rfl HKEY.out trivial ?_; intro wu hset hgrow1) | (at_builtin; refine wpList_append_lies _ rfl _ _ _ rfl (w.heap.size + 1 + 1) 9 i0 _ 1 16 Try.underlying34 hi hz0 hz1 hz2 rfl (by omega) _ mm (nmCells cur) rfl ((HQ.out.own.kept hgrow1 (.inr (fun e => by have := (own_block HQ.out.own _ e).1; omega))).alloc _) ⟨wu.heap.size, 0, none⟩ 1 1 [.string z] rfl rfl (World.news_of_block (cs := #[.string z]) (t := 9) (fr := (0, 0)) (heap_alloc_new wu _)) (by simp [Value.oneCell']) (by omega) (by unfold maxLen; omega) (by omega) (by have h1 := HQ.out.bel.size; have h2 := hgrow1.size; have h3 := HQ.out.size; simp; omega) (wu.heap.size + 1) (by simp) ?_; intro g cap wv hown2 hgrow2 hat2 hltv))
                go_roundg (no2 - (j + 1))
                case measure => have := HGJ.out; omega
                case rel => exact ⟨j + 1, mm + 1, cur ++ [z], by go_num, by omega, rfl, HQ.out.next hwz HZJ.out HHH.out hset hgrow1 _ hown2 hgrow2 hat2⟩
            · obtain rfl : j = no2 := by omega
              have HFA := Lib.hid (show r = namesF (k + 1) cur (ls.drop (k + 1)) by
                rw [names_step HL.out HS.out.eq, HQ.out.eq, add_end (by rw [← HNO2.out]; exact Nat.le_refl _) rfl])
              go_wp2
              go_roundg (n - (k + 1))
              case measure => have := HGK.out; omega
              case rel => exact ⟨k + 1, mm, cur, by go_num, by omega, rfl, ⟨by omega, HQ.out.len, HQ.out.own, HQ.out.map, HQ.out.bel, HQ.out.flt, by have := HQ.out.size; omega, HFA.out⟩⟩
    · have HE := Lib.hid (names_end (by rw [HLN.out]; omega) HS.out.eq)
      have f0 := cell_of_row _ _ 0 _ _ _ HS.out.flt
      have f1 := cell_of_row _ _ 1 _ _ _ HS.out.flt
      have z0 := frozen_of_row _ _ 0 _ _ HS.out.flt
      have z1 := frozen_of_row _ _ 1 _ _ HS.out.flt
      have HNM := Lib.hid (Nms.of_own HS.out.own)
      have HB2 := Lib.hid ((HS.out.bel.setCell (p := ⟨w.heap.size, 0, none⟩) (Nat.le_refl _) (.int .i64 0)).setCell (p := ⟨w.heap.size, 1, none⟩) (Nat.le_refl _) (.int .i64 0))
      go_wp2
      refine bodyPost_ret (v := .tuple #[.slice AO m cO, .agg #[.int .i64 0, .int .i64 0]]) (by simp [results, Try.results28, go_sem, f0, f1]) rfl ⟨AO, m, cO, by rw [HE.out], ?_, HB2.out⟩
      rw [HE.out]
      exact Nms.of_own (ownsRow_setCell_below (ownsRow_setCell_below HS.out.own (a := ⟨w.heap.size, 0, none⟩) (by show w.heap.size < _; omega) _) (a := ⟨w.heap.size, 1, none⟩) (by show w.heap.size < _; omega) _)
end Go.Proofs.Ytnngmpimobolpaa
