/- The contract of pools.Plan: the pools' values, in new rows; the world keeps all that was there. -/
import Derived.Test.YtapenhbfpcmpnaaPoolPlain
import Derived.Test.YtapenhbfpcmpnaaPoolGrid
import Derived.Deep.RegionHeld3
import Derived.Deep.RegionLaw
namespace Go.Proofs.Ytapenhbfpcmpnaa
open Go.RowKit Mem
set_option linter.unusedVariables false
theorem Try.infoInt : (Try.prog.info? 3).map (fun i => (i.zero, i.size, i.bytes)) = some (some (.int .i64 0), 1, 8) := by kernel_rfl
theorem Try.infoEnt : (Try.prog.info? 41).map (fun i => (i.zero, i.size, i.bytes)) = some (some (.agg #[.int .i64 0, .int .i64 0]), 2, 16) := by kernel_rfl
theorem Try.infoInts : (Try.prog.info? 23).map (fun i => (i.zero, i.size, i.bytes)) = some (some (.slice none 0 0), 1, 24) := by kernel_rfl
theorem ents_at {w : World} {base b n cp : Nat} {es : List (Int × Int)} (h : w.ownsRow base 41 2 (.slice (some ⟨b, 0, none⟩) n cp) n (ents es)) : EntsAt w b es := by
  intro k x y hk
  obtain ⟨h0, h1⟩ := ents_get es hk
  have c0 := h.cells (g := b) rfl _ _ h0
  have c1 := h.cells (g := b) rfl _ _ h1
  rw [Addr.add_mid] at c0 c1
  simpa using And.intro c0 c1
theorem own_ents {w : World} {base n : Nat} {v : Value} {es : List (Int × Int)} (h : w.ownsRow base 41 2 v n (ents es)) : ∃ (A : Option Addr) (cp b : Nat), v = .slice A n cp ∧ (0 < n → A = some ⟨b, 0, none⟩) ∧ (0 < n → b < w.heap.size) ∧ es.length = n ∧ EntsAt w b es := by
  have hl : es.length = n := by have := h.1; rw [ents_len] at this; omega
  obtain ⟨A, cp, rfl, _, _⟩ := own_shape h
  rcases Nat.eq_zero_or_pos n with h0 | h0
  · subst h0
    obtain rfl : es = [] := List.eq_nil_of_length_eq_zero hl
    exact ⟨A, cp, 0, rfl, fun h => absurd h (by omega), fun h => absurd h (by omega), rfl, fun k x y hk => by cases hk⟩
  · obtain ⟨g, cap, hv, hgb, hlt⟩ := h.form h0
    cases hv
    exact ⟨_, _, g, rfl, fun _ => rfl, fun _ => hlt, hl, ents_at h⟩
theorem own_made (w : World) (N : Nat) : OwnG (w.alloc (.cells (madeCells #[.slice none 0 0] (N + 1)) 23)) w.heap.size w.heap.size (N + 1) (List.replicate (N + 1) (.slice none 0 0)) (gridAt N []) := by
  have e : madeCells #[.slice none 0 0] (N + 1) = (List.replicate (N + 1) (Value.slice none 0 0)).toArray := by
    apply Array.ext
    · simp [madeCells]
    · intro i h1 h2
      simp [madeCells, Nat.mod_one]
  rw [e]
  have hg : ∀ (k : Nat) g, (gridAt N [])[k]? = some g → g = [] := fun k g h => by
    unfold gridAt at h
    rw [List.getElem?_map] at h
    cases hr : (List.range (N + 1))[k]? with
    | none => rw [hr] at h; cases h
    | some q => rw [hr] at h; simpa [ofPool] using h.symm
  have hv : ∀ (k : Nat) v, (List.replicate (N + 1) (Value.slice none 0 0))[k]? = some v → v = .slice none 0 0 := fun k v h => by
    rw [List.getElem?_replicate] at h
    split at h
    · exact (Option.some.inj h).symm
    · cases h
  refine ⟨heap_alloc_new w _, by simp, by simp [gridAt], Nat.le_refl _, fun k v g h1 h2 => ?_, fun i j a b _ h1 h2 g hh => ?_⟩
  · rw [hv k v h1, hg k g h2]
    exact ⟨own_nil _ _ _, by simp [Value.ownBlock]⟩
  · rw [hv i a h1] at hh; cases hh
theorem size_alloc2 (w : World) (o : Obj) : (w.alloc o).heap.size = w.heap.size + 1 := by simp
theorem ents_keep {w : World} {b : Nat} {A : Option Addr} {es : List (Int × Int)} (h : EntsAt w b es) (hA : 0 < es.length → A = some ⟨b, 0, none⟩) (hb : 0 < es.length → b < w.heap.size) (o1 o2 : Obj) : EntsAt ((w.alloc o1).alloc o2) b es := by
  intro k x y hk
  have hl : 0 < es.length := by
    rcases Nat.eq_zero_or_pos es.length with h0 | h0
    · rw [List.eq_nil_of_length_eq_zero h0] at hk; cases hk
    · exact h0
  have hb' := hb hl
  obtain ⟨c0, c1⟩ := h k x y hk
  constructor
  · rw [World.cell?_alloc_lt _ _ _ (by simp; omega), World.cell?_alloc_lt _ _ _ hb']; exact c0
  · rw [World.cell?_alloc_lt _ _ _ (by simp; omega), World.cell?_alloc_lt _ _ _ hb']; exact c1
theorem own_below {w w' : World} {base : Nat} {e : TypeId} {size n : Nat} {v : Value} {xs : List Value} (h : w.ownsRow base e size v n xs) (hb : Below w.heap.size w w') : w'.ownsRow base e size v n xs := by
  obtain ⟨h1, h2⟩ := h
  refine ⟨h1, ?_⟩
  rcases h2 with h2 | ⟨g, cap, cur, a, b, c, d⟩
  · exact .inl h2
  · refine .inr ⟨g, cap, cur, a, b, ?_, d⟩
    rw [hb.block g ?_]
    · exact c
    · rcases Nat.lt_or_ge g w.heap.size with h | h
      · exact h
      · rw [Array.getElem?_eq_none h] at c; cases c
set_option maxRecDepth 100000 in
set_option maxHeartbeats 4000000 in
theorem pools_Plan (A A' : Option Addr) (n c n' c' B : Nat) (ls : List Ln) (vals : List Int) (w : World) (hx : Lines w B A n ls) (hv : Ints w B A' n' vals) (hB : B ≤ w.heap.size) (hn : n ≤ 1000) (hn' : n' ≤ 9223372036854775807) :
    Calls Try.prog 9 #[.slice A n c, .slice A' n' c'] w fun e w' => ∃ A1 n1 c1, e = .returned (.slice A1 n1 c1) ∧ Grid w' w'.heap.size A1 n1 (planOf (items ls vals)) ∧ n1 ≤ 1001 ∧ Below w.heap.size w w' := by
  have HX := Lib.hid hx; have HV := Lib.hid hv; have HVL := Lib.hid hv.len
  clear hx hv
  obtain ⟨i0, hi, hz0, hz1, hz2⟩ := info_parts Try.infoEnt
  obtain ⟨j0, hj, hjz0, hjz1, hjz2⟩ := info_parts Try.infoInts
  obtain ⟨k0, hk', hkz0, hkz1, hkz2⟩ := info_parts Try.infoInt
  go_enter Try.func9, Try.ntmps9
  go_wp2
  go_loopw [5, 6, 15] (fun v nv iv wr => ∃ (k N : Nat) (es : List (Int × Int)), k ≤ n ∧ iv = .int .i64 k ∧ nv = .int .i64 N ∧ (N, es) = pSt ((items ls vals).take k) ∧ N ≤ k ∧ es.length ≤ k ∧ wr.ownsRow w.heap.size 41 2 v es.length (ents es) ∧ Below w.heap.size w wr) (fun _ _ iv _ => n - (intOf iv).toNat)
  case atStart => exact ⟨0, 0, [], by omega, rfl, rfl, rfl, by omega, by simp, own_nil _ _ _, Below.refl _ _⟩
  case round =>
    obtain ⟨k, N, es, hk, rfl, rfl, hst, hNk, hek, hown, hbel⟩ := hrel
    have HS := Lib.hid hst; have HB := Lib.hid hbel; have HO := Lib.hid hown
    clear hst hbel hown
    have hsz := HB.out.size
    by_cases hlt : k < n
    · obtain ⟨ad, p, L, rfl, hp, hpb, hL, hok, hc⟩ := (HX.out.below (HB.out.mono hB)).get hlt
      have HI := Lib.hid (items_get (vals := vals) hL)
      have HP := Lib.hid (pSt_snoc HI.out)
      obtain ⟨X, hX⟩ : ∃ X, X = L.cells.toArray := ⟨_, rfl⟩
      have hld : (Instr.loadAt 39 (.pointer (some p))).run Try.prog wr = .ok (.agg X) wr := by rw [hX]; exact run_loadAt_any wr p 39 L.cells _ hc Try.underlying39 rfl (by kernel_rfl)
      have hXs : X.size = 19 := by rw [hX]; rfl
      have hXi : (Try.prog.info? 39).map (·.size) = some X.size := by rw [hXs]; kernel_rfl
      have hX1 : X.all (·.oneCell') = true := by rw [hX]; exact Ln.arr_one L hok
      have hk1 := new_line wr X 39 1 (.int .i64 L.kind) (by rw [hX]; rfl)
      clear hc hL hX
      cases h5 : (L.kind == 5) with
      | true =>
        have h2 : (L.kind != 2) = true := by simp at h5 ⊢; omega
        have HN := Lib.hid (show (N + 1, es) = pSt ((items ls vals).take (k + 1)) by
          rw [HP.out, ← HS.out]; unfold pStep; rw [if_pos (by simpa using h5)])
        go_wp2_with (first | (refine wpList_load_any rfl 39 _ rfl p rfl X hld ?_) | (refine wpList_store_any rfl 39 _ _ rfl ⟨wr.heap.size, 0, none⟩ rfl X rfl (run_store_new wr 39 39 _ X (by rw [hXs]; rfl) hXi hX1) ?_))
        go_roundw
        case rel => exact ⟨k + 1, N + 1, es, by omega, by go_num, by go_num, HN.out, by omega, by omega, HO.out.alloc _, HB.out.alloc HB.out.size _⟩
        case measure => simp [intOf]; omega
      | false =>
        cases h2 : (L.kind != 2) with
        | true =>
          have HN := Lib.hid (show (N, es) = pSt ((items ls vals).take (k + 1)) by
            rw [HP.out, ← HS.out]; unfold pStep; rw [if_neg (by simpa using h5), if_neg (by simpa using h2)])
          go_wp2_with (first | (refine wpList_load_any rfl 39 _ rfl p rfl X hld ?_) | (refine wpList_store_any rfl 39 _ _ rfl ⟨wr.heap.size, 0, none⟩ rfl X rfl (run_store_new wr 39 39 _ X (by rw [hXs]; rfl) hXi hX1) ?_))
          go_roundw
          case rel => exact ⟨k + 1, N, es, by omega, by go_num, rfl, HN.out, by omega, by omega, HO.out.alloc _, HB.out.alloc HB.out.size _⟩
          case measure => simp [intOf]; omega
        | false =>
          by_cases hkv : k < n'
          · obtain ⟨av, v, rfl, hvb, hvz, hvc⟩ := (HV.out.below (HB.out.mono hB)).get hkv
            have hval : v = vals.getD k 0 := by rw [List.getD_eq_getElem?_getD, hvz]; rfl
            have hcv : ∀ o1 o2, ((wr.alloc o1).alloc o2).cell? (av.add k) = some (.int .i64 v) := fun o1 o2 => by
              have hb0 : (av.add k).block < wr.heap.size := by rw [add_block]; omega
              rw [World.cell?_alloc_lt _ _ _ (by simp; omega), World.cell?_alloc_lt _ _ _ hb0]; exact hvc
            clear hvz hvc
            obtain ⟨A1, cp1, b1, rfl, hA1, hb1, hel, hat1⟩ := own_ents HO.out
            have HA1 := Lib.hid hA1; have HB1 := Lib.hid hb1; have HAT := Lib.hid hat1
            clear hA1 hb1 hel hat1
            have HV2 := Lib.hid (show (L.kind, v) = (L.kind, vals.getD k 0) by rw [← hval])
            clear hval
            go_wp2_with (first | (refine wpList_load_any rfl 39 _ rfl p rfl X hld ?_) | (refine wpList_store_any rfl 39 _ _ rfl ⟨wr.heap.size, 0, none⟩ rfl X rfl (run_store_new wr 39 39 _ X (by rw [hXs]; rfl) hXi hX1) ?_))
            have HB2 := Lib.hid ((HB.out.alloc HB.out.size (.cells X 39)).alloc (by simp; omega) (.cells #[.int .i64 (N : Int), .int .i64 v] 41))
            have HO2 := Lib.hid ((HO.out.alloc (.cells X 39)).alloc (.cells #[.int .i64 (N : Int), .int .i64 v] 41))
            refine (contains_fn b1 (wr.heap.size + 1) es.length cp1 A1 es N v _ HA1.out (fun h => by have := HB1.out h; simp; omega) rfl (by omega) (ents_keep HAT.out HA1.out HB1.out _ _) (by simp [go_sem]) (by simp [go_sem])).mono ?_
            rintro e w1 ⟨rfl, hbw⟩
            have HB3 := Lib.hid (HB2.out.trans (hbw.mono HB2.out.size))
            have hown3 := own_below HO2.out hbw
            have hq0 : w1.cell? ⟨wr.heap.size + 1, 0, none⟩ = some (.int .i64 (N : Int)) := (hbw.cell (p := ⟨wr.heap.size + 1, 0, none⟩) (by simp)).trans (by simp [go_sem])
            have hq1 : w1.cell? ⟨wr.heap.size + 1, 1, none⟩ = some (.int .i64 v) := (hbw.cell (p := ⟨wr.heap.size + 1, 1, none⟩) (by simp)).trans (by simp [go_sem])
            clear hbw
            cases hin : inE es N v with
            | true =>
              have HN := Lib.hid (show (N, es) = pSt ((items ls vals).take (k + 1)) by
                rw [HP.out, ← HS.out, ← HV2.out]; unfold pStep; rw [if_neg (by simpa using h5), if_pos (by simpa using h2)]; simp only [hin, if_true])
              have HO3 := Lib.hid hown3
              clear hown3
              go_wp2
              go_roundw
              case rel => exact ⟨k + 1, N, es, by omega, by go_num, rfl, HN.out, by omega, by omega, HO3.out, HB3.out⟩
              case measure => simp [intOf]; omega
            | false =>
              have HN := Lib.hid (show (N, es ++ [((N : Int), v)]) = pSt ((items ls vals).take (k + 1)) by
                rw [HP.out, ← HS.out, ← HV2.out]; unfold pStep; rw [if_neg (by simpa using h5), if_pos (by simpa using h2)]; simp only [hin, Bool.false_eq_true, if_false])
              go_wp2_with (at_builtin; refine wpList_append_lies _ rfl _ _ _ rfl w.heap.size 41 i0 _ 2 16 Try.underlying40 hi hz0 hz1 hz2 rfl (by omega) _ es.length (ents es) rfl (hown3.alloc _) ⟨w1.heap.size, 0, none⟩ 1 1 [.int .i64 (N : Int), .int .i64 v] rfl rfl (World.news_of_block (cs := #[.int .i64 (N : Int), .int .i64 v]) (t := 41) (fr := (0, 0)) (heap_alloc_new w1 _)) (by simp [Value.oneCell']) (by omega) (by unfold maxLen; omega) (by omega) (by have := HB3.out.size; simp; omega) (w1.heap.size + 1) (by simp) ?_; intro g cap wx hown1 hgrow hat hlt1)
              have hbel1 : Below w.heap.size w wx := (HB3.out.alloc HB3.out.size _).grown hgrow (by have := HB3.out.size; simp; omega) (fun k hk => ((own_block hown3) k hk).1)
              have HW := Lib.hid (show wx.ownsRow w.heap.size 41 2 (.slice (some ⟨g, 0, none⟩) (es.length + 1) cap) (es ++ [((N : Int), v)]).length (ents (es ++ [((N : Int), v)])) by
                rw [ents_append, List.length_append]; exact hown1)
              clear hown1 hown3 hgrow hat
              go_wp2
              go_roundw
              case rel => exact ⟨k + 1, N, _, by omega, by go_num, rfl, HN.out, by omega, by simp; omega, HW.out, hbel1⟩
              case measure => simp [intOf]; omega
          · obtain ⟨v, hv0, hval⟩ : ∃ v, v = 0 ∧ v = vals.getD k 0 := ⟨0, rfl, by rw [List.getD_eq_getElem?_getD, List.getElem?_eq_none (by rw [HVL.out]; omega)]; rfl⟩
            subst hv0
            obtain ⟨A1, cp1, b1, rfl, hA1, hb1, hel, hat1⟩ := own_ents HO.out
            have HA1 := Lib.hid hA1; have HB1 := Lib.hid hb1; have HAT := Lib.hid hat1
            clear hA1 hb1 hel hat1
            have HV2 := Lib.hid (show (L.kind, 0) = (L.kind, vals.getD k 0) by rw [← hval])
            clear hval
            go_wp2_with (first | (refine wpList_load_any rfl 39 _ rfl p rfl X hld ?_) | (refine wpList_store_any rfl 39 _ _ rfl ⟨wr.heap.size, 0, none⟩ rfl X rfl (run_store_new wr 39 39 _ X (by rw [hXs]; rfl) hXi hX1) ?_))
            have HB2 := Lib.hid ((HB.out.alloc HB.out.size (.cells X 39)).alloc (by simp; omega) (.cells #[.int .i64 (N : Int), .int .i64 0] 41))
            have HO2 := Lib.hid ((HO.out.alloc (.cells X 39)).alloc (.cells #[.int .i64 (N : Int), .int .i64 0] 41))
            refine (contains_fn b1 (wr.heap.size + 1) es.length cp1 A1 es N 0 _ HA1.out (fun h => by have := HB1.out h; simp; omega) rfl (by omega) (ents_keep HAT.out HA1.out HB1.out _ _) (by simp [go_sem]) (by simp [go_sem])).mono ?_
            rintro e w1 ⟨rfl, hbw⟩
            have HB3 := Lib.hid (HB2.out.trans (hbw.mono HB2.out.size))
            have hown3 := own_below HO2.out hbw
            have hq0 : w1.cell? ⟨wr.heap.size + 1, 0, none⟩ = some (.int .i64 (N : Int)) := (hbw.cell (p := ⟨wr.heap.size + 1, 0, none⟩) (by simp)).trans (by simp [go_sem])
            have hq1 : w1.cell? ⟨wr.heap.size + 1, 1, none⟩ = some (.int .i64 0) := (hbw.cell (p := ⟨wr.heap.size + 1, 1, none⟩) (by simp)).trans (by simp [go_sem])
            clear hbw
            cases hin : inE es N 0 with
            | true =>
              have HN := Lib.hid (show (N, es) = pSt ((items ls vals).take (k + 1)) by
                rw [HP.out, ← HS.out, ← HV2.out]; unfold pStep; rw [if_neg (by simpa using h5), if_pos (by simpa using h2)]; simp only [hin, if_true])
              have HO3 := Lib.hid hown3
              clear hown3
              go_wp2
              go_roundw
              case rel => exact ⟨k + 1, N, es, by omega, by go_num, rfl, HN.out, by omega, by omega, HO3.out, HB3.out⟩
              case measure => simp [intOf]; omega
            | false =>
              have HN := Lib.hid (show (N, es ++ [((N : Int), 0)]) = pSt ((items ls vals).take (k + 1)) by
                rw [HP.out, ← HS.out, ← HV2.out]; unfold pStep; rw [if_neg (by simpa using h5), if_pos (by simpa using h2)]; simp only [hin, Bool.false_eq_true, if_false])
              go_wp2_with (at_builtin; refine wpList_append_lies _ rfl _ _ _ rfl w.heap.size 41 i0 _ 2 16 Try.underlying40 hi hz0 hz1 hz2 rfl (by omega) _ es.length (ents es) rfl (hown3.alloc _) ⟨w1.heap.size, 0, none⟩ 1 1 [.int .i64 (N : Int), .int .i64 0] rfl rfl (World.news_of_block (cs := #[.int .i64 (N : Int), .int .i64 0]) (t := 41) (fr := (0, 0)) (heap_alloc_new w1 _)) (by simp [Value.oneCell']) (by omega) (by unfold maxLen; omega) (by omega) (by have := HB3.out.size; simp; omega) (w1.heap.size + 1) (by simp) ?_; intro g cap wx hown1 hgrow hat hlt1)
              have hbel1 : Below w.heap.size w wx := (HB3.out.alloc HB3.out.size _).grown hgrow (by have := HB3.out.size; simp; omega) (fun k hk => ((own_block hown3) k hk).1)
              have HW := Lib.hid (show wx.ownsRow w.heap.size 41 2 (.slice (some ⟨g, 0, none⟩) (es.length + 1) cap) (es ++ [((N : Int), 0)]).length (ents (es ++ [((N : Int), 0)])) by
                rw [ents_append, List.length_append]; exact hown1)
              clear hown1 hown3 hgrow hat
              go_wp2
              go_roundw
              case rel => exact ⟨k + 1, N, _, by omega, by go_num, rfl, HN.out, by omega, by simp; omega, HW.out, hbel1⟩
              case measure => simp [intOf]; omega
    · obtain rfl : k = n := by omega
      obtain ⟨wo, hwo⟩ : ∃ wo, wo = wr := ⟨_, rfl⟩
      subst hwo
      have HST := Lib.hid (show (N, es) = pSt (items ls vals) by
        rw [HS.out, List.take_of_length_le (by rw [items_len, HX.out.len]; exact Nat.le_refl _)])
      clear HS
      have hmk : (Instr.makeSlice 26 (.int .i64 ((N : Int) + 1)) (.int .i64 ((N : Int) + 1))).run Try.prog wo = .ok (.slice (some ⟨wo.heap.size, 0, none⟩) (N + 1) (N + 1)) (wo.alloc (.cells (madeCells #[.slice none 0 0] (N + 1)) 23)) := by
        have := run_make (P := Try.prog) wo 26 23 j0 (.slice none 0 0) Try.underlying26 hj hjz0 .i64 .i64 ((N : Int) + 1) ((N : Int) + 1) (by omega) (by omega) (by rw [hjz2]; omega) (by omega)
        rw [hjz1, show ((N : Int) + 1).toNat = N + 1 by omega, Nat.mul_one] at this
        exact this
      obtain ⟨A1, cp1, b1, rfl, hA1, hb1, hel, hat1⟩ := own_ents HO.out
      have HA1 := Lib.hid hA1; have HB1 := Lib.hid hb1; have HAT := Lib.hid hat1
      clear hA1 hb1 hel hat1
      have hO0 := own_made wo N
      go_wp2
      generalize hw0 : wo.alloc (.cells (madeCells #[.slice none 0 0] (N + 1)) 23) = w0 at hO0
      have HB0 := Lib.hid (show Below wo.heap.size wo w0 by rw [← hw0]; exact (Below.refl _ _).alloc (Nat.le_refl _) _)
      clear hw0 hmk
      go_loopw [53] (fun iv wr => ∃ (j : Nat) (vs : List Value), j ≤ es.length ∧ iv = .int .i64 j ∧ OwnG wr wo.heap.size wo.heap.size (N + 1) vs (gridAt N (es.take j)) ∧ Below wo.heap.size wo wr) (fun iv _ => es.length - (intOf iv).toNat)
      case atStart => exact ⟨0, _, by omega, rfl, hO0, HB0.out⟩
      case round =>
        obtain ⟨j, vs, hj, rfl, hog, hb2⟩ := hrel
        have HG := Lib.hid hog; have HB2 := Lib.hid hb2
        clear hog hb2
        by_cases hlt2 : j < es.length
        · obtain ⟨pI, v, hpv⟩ : ∃ x y, es[j]? = some (x, y) := ⟨es[j].1, es[j].2, List.getElem?_eq_getElem hlt2⟩
          have hbd := (inv_all (items ls vals)).bd (pI, v) (by rw [← HST.out]; exact List.mem_of_getElem? hpv)
          rw [← HST.out] at hbd
          simp only at hbd
          obtain ⟨p, rfl⟩ := Int.eq_ofNat_of_zero_le hbd.1
          have hpN : p ≤ N := by omega
          obtain rfl := HA1.out (by omega)
          have hb1 := HB1.out (by omega)
          obtain ⟨c0, c1⟩ := HAT.out j p v hpv
          replace c0 := (HB2.out.cell (p := ⟨b1, j * 2, none⟩) hb1).trans c0
          replace c1 := (HB2.out.cell (p := ⟨b1, j * 2 + 1, none⟩) hb1).trans c1
          have HGS := Lib.hid (grid_step hpv hpN)
          have hvp : p < vs.length := by rw [HG.out.vlen]; omega
          obtain ⟨vp, hvp⟩ : ∃ vp, vs[p]? = some vp := ⟨vs[p], List.getElem?_eq_getElem hvp⟩
          obtain ⟨l, hl⟩ : ∃ l, l = ofPool (es.take j) p := ⟨_, rfl⟩
          have hgl : (gridAt N (es.take j))[p]? = some l := by
            unfold gridAt; rw [List.getElem?_map, List.getElem?_range (by omega), hl]; rfl
          rw [← hl] at HGS
          have hll : l.length ≤ j := by
            rw [hl]; unfold ofPool; rw [List.length_map]
            have := List.length_filter_le (fun e : Int × Int => e.1 == (p : Int)) (es.take j)
            rw [List.length_take] at this; omega
          clear hpv hl hbd
          obtain ⟨hown, hvO⟩ := HG.out.row p vp l hvp hgl
          have hOlt := HG.out.lt
          obtain ⟨Ap, cpp, rfl, hcp1, hcp2⟩ := own_shape hown
          have hcO : ∀ o1 o2, ((wr.alloc o1).alloc o2).cell? ⟨wo.heap.size, p, none⟩ = some (.slice Ap l.length cpp) := fun o1 o2 => by
            rw [World.cell?_alloc_lt _ _ _ (by simp; omega), World.cell?_alloc_lt _ _ _ hOlt]; exact HG.out.cell hvp
          have hcO1 : ∀ o1, (wr.alloc o1).cell? ⟨wo.heap.size, p, none⟩ = some (.slice Ap l.length cpp) := fun o1 => by
            rw [World.cell?_alloc_lt _ _ _ hOlt]; exact HG.out.cell hvp
          have hfO : ∀ o1 o2, ((wr.alloc o1).alloc o2).frozen? ⟨wo.heap.size, p, none⟩ = false := fun o1 o2 => by
            have hh := HG.out.heap
            rw [World.frozen?_of_block (w := wr) (a := ⟨wo.heap.size, p, none⟩) (by
              show ((wr.alloc o1).alloc o2).heap[wo.heap.size]? = wr.heap[wo.heap.size]?
              rw [Below.heap_alloc _ _ _ (by simp; omega), Below.heap_alloc _ _ _ hOlt])]
            simp [World.frozen?, hh]
          have hnew : ((wr.alloc (.cells #[.int .i64 (p : Int), .int .i64 v] 41)).alloc (.cells #[.int .i64 v] 3)).heap[wr.heap.size + 1]? = some (.cells #[.int .i64 v] 3) := by
            have := heap_alloc_new (wr.alloc (.cells #[.int .i64 (p : Int), .int .i64 v] 41)) (.cells #[.int .i64 v] 3)
            simpa using this
          have hbox : ((wr.alloc (.cells #[.int .i64 (p : Int), .int .i64 v] 41)).alloc (.cells #[.int .i64 v] 3)).cell? ⟨wr.heap.size, 0, none⟩ = some (.int .i64 (p : Int)) := by simp [go_sem]
          have hszb : wr.heap.size < ((wr.alloc (.cells #[.int .i64 (p : Int), .int .i64 v] 41)).alloc (.cells #[.int .i64 v] 3)).heap.size := by simp only [size_alloc2]; omega
          have HVR := Lib.hid (show (Value.slice Ap l.length cpp).ownBlock ≠ some wr.heap.size from fun e => by have := (own_block hown _ e).2; omega)
          have hpI : ((p : Nat) : Int) < (N : Int) + 1 := by omega
          have hpI0 : (0 : Int) ≤ ((p : Nat) : Int) := by omega
          have HVP := Lib.hid hvp; have HGL := Lib.hid hgl; have HVO := Lib.hid hvO
          clear hvp hgl hvO
          go_wp2_with fail
          go_region_law (refine step_append_lies _ (by rfl) _ _ _ (by rfl) wo.heap.size 3 k0 _ 1 8 Try.underlying23 hk' hkz0 hkz1 hkz2 rfl (by omega) _ l.length (ints l) (by rfl) (((hown.alloc _).alloc _).drew) ⟨wr.heap.size + 1, 0, none⟩ 1 1 [.int .i64 v] (by rfl) (by rfl) (World.news_of_block (cs := #[.int .i64 v]) (t := 3) (fr := (0, 0)) hnew) (by simp [Value.oneCell']) (by omega) (by unfold maxLen; omega) (by omega) (by simp; omega) (wr.heap.size + 1 + 1) (by simp) ?_; intro g cap wx hown1 hgrow hat hlt1; have hcx : wx.cell? ⟨wo.heap.size, p, none⟩ = some (.slice Ap l.length cpp) := (hgrow.cell_far ⟨wo.heap.size, p, none⟩ (by simp; omega) (fun e => HVO.out e.symm)).trans (hcO _ _); have hfx : wx.frozen? ⟨wo.heap.size, p, none⟩ = false := (hgrow.frozen_far ⟨wo.heap.size, p, none⟩ (by simp; omega) (fun e => HVO.out e.symm)).trans (hfO _ _); have hcb : wx.cell? ⟨wr.heap.size, 0, none⟩ = some (.int .i64 (p : Int)) := (hgrow.cell_far ⟨wr.heap.size, 0, none⟩ hszb (fun e => HVR.out e.symm)).trans hbox)
          all_goals
            have HN := Lib.hid (HG.out.put2 (x := v) (.cells #[.int .i64 (p : Int), .int .i64 v] 41) (.cells #[.int .i64 v] 3) (by omega) HVP.out HGL.out rfl (by rw [ints_append]; exact hown1) hgrow hat)
            have HB3 := Lib.hid (((((HB2.out.alloc HB2.out.size (.cells #[.int .i64 (p : Int), .int .i64 v] 41)).alloc (by have := HB2.out.size; simp; omega) (.cells #[.int .i64 v] 3)).drew).grown hgrow (by have := HB2.out.size; simp; omega) (fun g hg => (own_block hown g hg).1)).setCell (p := ⟨wo.heap.size, p, none⟩) (Nat.le_refl _) (.slice (some ⟨g, 0, none⟩) (l.length + 1) cap))
            rw [← HGS.out] at HN
            clear hown1 hown hgrow hat hcx hfx hcO hcO1 hfO c0 c1 hnew hbox hcb
            go_wp2
            go_roundw
            case rel => exact ⟨j + 1, _, by omega, by go_num, HN.out, HB3.out⟩
            case measure => simp [intOf]; omega
        · obtain rfl : j = es.length := by omega
          have HGR := Lib.hid (show Grid wr wr.heap.size (some ⟨wo.heap.size, 0, none⟩) (N + 1) (planOf (items ls vals)) by
            have h1 := HG.out.grid
            rw [List.take_length] at h1
            have h2 := grid_end (items ls vals)
            rw [← HST.out] at h2
            rw [← h2]; exact h1)
          go_wp2
          go_ret
          exact ⟨_, _, _, rfl, HGR.out, by omega, HB.out.trans (HB2.out.mono HB.out.size)⟩
end Go.Proofs.Ytapenhbfpcmpnaa
