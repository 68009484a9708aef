/- Contract of the reference's Eval. -/
import Derived.Test.YtnngmpimobolpaaTermRefVal
namespace Go.Proofs.Ytnngmpimobolpaa
open Go.RowKit Mem
set_option linter.unusedVariables false
theorem rval_at (names : List ByteArray) (vals : List Int) : ∀ (d : Nat), RefValAt names vals d
  | 0 => fun t A AN AV c nN cN nV cV w hf hl => hl.elim
  | d + 1 => by
    have ih := rval_at names vals d
    intro t A AN AV c nN cN nV cV w hf hl hN hV hn1 hn2
    obtain ⟨hfb, hfa⟩ := formed_part hf
    have part : ∀ (i : Nat) (x : Tm) (A' : Option Addr) (c' : Nat), t.args[i]? = some x → Lies w w.heap.size d x (tmCells x A' c') → RPartAt w AN AV nN cN nV cV x.op x.n x.name A' x.args.length c' (valF names vals d x) := fun i x A' c' hx hlx w1 hb1 =>
      ih x A' AN AV c' nN cN nV cV w1 (hfa x (List.mem_of_getElem? hx)) (hlx.on hb1) (hN.on hb1) (ints_on hV hb1) hn1 hn2
    rcases form_args hfb with ⟨h0, ho⟩ | ⟨h0, ho⟩ | ⟨h1, ho⟩ | ⟨h2, ho⟩
    · have ha := zero_args h0
      have e : valF names vals (d + 1) t = some (u32 t.n) := by simp only [valF, ha]; rw [if_pos ho]
      rw [e]
      unfold tmV
      rw [ho, h0]
      exact rval_num t.n t.name A AN AV c nN cN nV cV w
    · have ha := zero_args h0
      have e : valF names vals (d + 1) t = refV names vals t.name := by simp only [valF, ha]; rw [if_neg (by omega)]
      rw [e]
      unfold tmV
      rw [ho, h0]
      exact rval_leaf names vals t.n t.name A AN AV c nN cN nV cV w hN hV hn1 hn2
    · obtain ⟨a, ha⟩ := one_arg h1
      obtain ⟨ad, p, x, A', c', rfl, hp, hpb, hxi, hlx, k0, k1, k2, k3⟩ := hl.part (i := 0) (by omega)
      have hxa : x = a := by rw [ha] at hxi; exact (Option.some.inj hxi).symm
      have e : valF names vals (d + 1) t = (valF names vals d x).map (unV t.op) := by simp only [valF, ha, hxa]
      rw [e]
      unfold tmV
      rw [h1]
      exact rval_one t.op t.n t.name ad AN AV c nN cN nV cV x.op x.n x.name A' x.args.length c' _ w ho p hp hpb k0 k1 k2 k3 (part 0 x A' c' hxi hlx)
    · obtain ⟨a, b, ha⟩ := two_args h2
      obtain ⟨ad, p, x, A', c', eA, hp, hpb, hxi, hlx, k0, k1, k2, k3⟩ := hl.part (i := 0) (by omega)
      obtain ⟨ad2, q, y, A2, c2, eA2, hq, hqb, hyi, hly, g0, g1, g2, g3⟩ := hl.part (i := 1) (by omega)
      subst eA
      cases eA2
      have hxa : x = a := by rw [ha] at hxi; exact (Option.some.inj hxi).symm
      have hyb : y = b := by rw [ha] at hyi; exact (Option.some.inj hyi).symm
      have e : valF names vals (d + 1) t = binO t.op (valF names vals d x) (valF names vals d y) := by simp only [valF, ha, hxa, hyb]
      rw [e]
      unfold tmV
      rw [h2]
      exact rval_two t.op t.n t.name ad AN AV c nN cN nV cV x.op x.n x.name A' x.args.length c' _ y.op y.n y.name A2 y.args.length c2 _ w ho p q hp hpb hq hqb k0 k1 k2 k3 g0 g1 g2 g3 (part 0 x A' c' hxi hlx) (part 1 y A2 c2 hyi hly)
set_option maxRecDepth 100000 in
set_option maxHeartbeats 4000000 in
theorem ref_Eval (d : Nat) (t : Tm) (names : List ByteArray) (vals : List Int) (A AN AV : Option Addr) (c nN cN nV cV : Nat) (w : World) (hl : Lies w w.heap.size d t (tmCells t A c)) (hN : Nms w w.heap.size AN nN names) (hV : Ints w w.heap.size AV nV vals) (hn1 : nN ≤ 9223372036854775807) (hn2 : nV ≤ 9223372036854775807) :
    Calls Try.prog 43 #[tmV t A c, .slice AN nN cN, .slice AV nV cV] w (EvalPost (evalR d t names vals) w) := by
  obtain ⟨W, hW⟩ : ∃ W, W = w.alloc (.cells #[.int .i64 t.op, .int .i64 t.n, .string t.name, .slice A t.args.length c] 54) := ⟨_, rfl⟩
  have hb0 : Below w.heap.size w W := by rw [hW]; exact (Below.refl _ _).alloc (Nat.le_refl _) _
  have hz0 : W.heap.size = w.heap.size + 1 := by rw [hW]; simp
  have e0 : W.cell? ⟨w.heap.size, 0, none⟩ = some (.int .i64 t.op) := by rw [hW]; simp [go_sem]
  have e1 : W.cell? ⟨w.heap.size, 1, none⟩ = some (.int .i64 t.n) := by rw [hW]; simp [go_sem]
  have e2 : W.cell? ⟨w.heap.size, 2, none⟩ = some (.string t.name) := by rw [hW]; simp [go_sem]
  have e3 : W.cell? ⟨w.heap.size, 3, none⟩ = some (.slice A t.args.length c) := by rw [hW]; simp [go_sem]
  have HE0 := Lib.hid e0; have HE1 := Lib.hid e1; have HE2 := Lib.hid e2; have HE3 := Lib.hid e3; have HZ0 := Lib.hid hz0
  have HB0 := Lib.hid hb0
  have HL := Lib.hid (hl.on hb0); have HN := Lib.hid (hN.on hb0); have HV := Lib.hid (ints_on hV hb0)
  have HD := Lib.hid (ref_deep_at 16 (by omega) d t A c W (hl.on hb0))
  clear e0 e1 e2 e3 hz0 hl hN hV hb0
  unfold tmV at HD ⊢
  cases hdp : deepF 16 t with
  | true =>
    have HR := Lib.hid (show evalR d t names vals = (0, 11) by unfold evalR; rw [if_pos hdp])
    rw [HR.out]
    rw [hdp] at HD
    clear hdp
    go_enter Try.func43, Try.ntmps43
    go_wp2_with fail
    rw [← hW]
    clear hW
    refine HD.out.mono ?_
    rintro e w1 ⟨rfl, hb⟩
    have HB := Lib.hid hb
    clear hb
    go_wp2
    go_ret2
    exact ⟨rfl, HB0.out.trans (HB.out.mono HB0.out.size)⟩
  | false =>
    have HFM := Lib.hid (fun w1 (hb : Below W.heap.size W w1) => ref_forms_at d t A c w1 (HL.out.on hb))
    unfold tmV at HFM
    cases hfm : formedF d t with
    | false =>
      have HR := Lib.hid (show evalR d t names vals = (0, 3) by unfold evalR; rw [if_neg (by rw [hdp]; decide), if_pos hfm])
      rw [HR.out]
      rw [hdp] at HD
      rw [hfm] at HFM
      clear hdp hfm
      go_enter Try.func43, Try.ntmps43
      go_wp2_with fail
      rw [← hW]
      clear hW
      refine HD.out.mono ?_
      rintro e w1 ⟨rfl, hb⟩
      have HB := Lib.hid hb
      have x0 := (hb.cell (p := ⟨w.heap.size, 0, none⟩) (by rw [HZ0.out]; simp)).trans HE0.out
      have x1 := (hb.cell (p := ⟨w.heap.size, 1, none⟩) (by rw [HZ0.out]; simp)).trans HE1.out
      have x2 := (hb.cell (p := ⟨w.heap.size, 2, none⟩) (by rw [HZ0.out]; simp)).trans HE2.out
      have x3 := (hb.cell (p := ⟨w.heap.size, 3, none⟩) (by rw [HZ0.out]; simp)).trans HE3.out
      clear hb
      go_wp2_with fail
      refine (HFM.out w1 HB.out).mono ?_
      rintro e w2 ⟨rfl, hb2⟩
      have HB2 := Lib.hid (HB.out.trans (hb2.mono HB.out.size))
      clear hb2 x0 x1 x2 x3
      go_wp2
      go_ret2
      exact ⟨rfl, HB0.out.trans (HB2.out.mono HB0.out.size)⟩
    | true =>
      have HVL := Lib.hid (fun w1 (hb : Below W.heap.size W w1) => rval_at names vals d t A AN AV c nN cN nV cV w1 hfm (HL.out.on hb) (HN.out.on hb) (ints_on HV.out hb) hn1 hn2)
      unfold tmV at HVL
      have HR0 := Lib.hid (show evalR d t names vals = match valF names vals d t with | none => (0, 4) | some v => (v, 0) by unfold evalR; rw [if_neg (by rw [hdp]; decide), if_neg (by rw [hfm]; decide)]; cases valF names vals d t <;> rfl)
      rw [hdp] at HD
      rw [hfm] at HFM
      clear hdp hfm
      obtain ⟨o, ho⟩ : ∃ o, valF names vals d t = o := ⟨_, rfl⟩
      rw [ho] at HVL HR0
      rw [HR0.out]
      clear ho
      go_enter Try.func43, Try.ntmps43
      go_wp2_with fail
      rw [← hW]
      clear hW
      refine HD.out.mono ?_
      rintro e w1 ⟨rfl, hb⟩
      have HB := Lib.hid hb
      have x0 := (hb.cell (p := ⟨w.heap.size, 0, none⟩) (by rw [HZ0.out]; simp)).trans HE0.out
      have x1 := (hb.cell (p := ⟨w.heap.size, 1, none⟩) (by rw [HZ0.out]; simp)).trans HE1.out
      have x2 := (hb.cell (p := ⟨w.heap.size, 2, none⟩) (by rw [HZ0.out]; simp)).trans HE2.out
      have x3 := (hb.cell (p := ⟨w.heap.size, 3, none⟩) (by rw [HZ0.out]; simp)).trans HE3.out
      clear hb
      go_wp2_with fail
      refine (HFM.out w1 HB.out).mono ?_
      rintro e w2 ⟨rfl, hb2⟩
      have hbb := HB.out.trans (hb2.mono HB.out.size)
      have HB2 := Lib.hid hbb
      clear hb2 x0 x1 x2 x3
      have x0 := (hbb.cell (p := ⟨w.heap.size, 0, none⟩) (by rw [HZ0.out]; simp)).trans HE0.out
      have x1 := (hbb.cell (p := ⟨w.heap.size, 1, none⟩) (by rw [HZ0.out]; simp)).trans HE1.out
      have x2 := (hbb.cell (p := ⟨w.heap.size, 2, none⟩) (by rw [HZ0.out]; simp)).trans HE2.out
      have x3 := (hbb.cell (p := ⟨w.heap.size, 3, none⟩) (by rw [HZ0.out]; simp)).trans HE3.out
      clear hbb
      go_wp2_with fail
      refine (HVL.out w2 HB2.out).mono ?_
      rintro e w3 ⟨v, ok, rfl, hv, hok, hvx, hb3⟩
      have HB3 := Lib.hid (HB2.out.trans (hb3.mono HB2.out.size))
      have hv0 := hv.1
      have hv1 := hv.2
      have HVX := Lib.hid hvx
      clear hb3 x0 x1 x2 x3 hv hvx
      cases o with
      | none =>
        obtain rfl : ok = false := hok
        go_wp2
        go_ret2
        exact ⟨rfl, HB0.out.trans (HB3.out.mono HB0.out.size)⟩
      | some y =>
        obtain rfl : ok = true := hok
        have hy : v = y := HVX.out y rfl
        subst hy
        go_wp2
        go_ret2
        exact ⟨rfl, HB0.out.trans (HB3.out.mono HB0.out.size)⟩
end Go.Proofs.Ytnngmpimobolpaa
