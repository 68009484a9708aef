/- Contracts of text and Print. -/
import Derived.Test.YtfknokclemljfaaTermParts
import Derived.Test.YtfknokclemljfaaTermLevel
import Derived.Test.YtfknokclemljfaaLexDigits
import Derived.Test.YtfknokclemljfaaTermVal
import Derived.Test.YtfknokclemljfaaTermUn
import Derived.Deep.RegionHeld3
import Derived.IntWalk
namespace Go.Proofs.Ytfknokclemljfaa
open Go.RowKit Mem
set_option linter.unusedVariables false
def partB (s : ByteArray) (op : Int) (least : Nat) : ByteArray := if lvlOf op < least then ⟨#[40]⟩ ++ s ++ ⟨#[41]⟩ else s
/-- A term's text. -/
def textB : Nat → Tm → ByteArray
  | 0, _ => ⟨#[]⟩
  | d + 1, t => if t.op = 1 then Lx.ba (Lx.digs t.n.toNat) else if t.op = 2 then t.name else match t.args with
    | [] => ⟨#[]⟩
    | [a] => (if t.op = 3 then ⟨#[45]⟩ else ⟨#[126]⟩) ++ partB (textB d a) a.op 6
    | a :: b :: _ => partB (textB d a) a.op (lvlOf t.op) ++ ⟨#[32]⟩ ++ sgOf t.op ++ ⟨#[32]⟩ ++ partB (textB d b) b.op (lvlOf t.op + 1)
def StrPost (s : ByteArray) (w : World) (e : Ending) (w' : World) : Prop := e = .returned (.string s) ∧ Below w.heap.size w w'
def TextAt (d : Nat) : Prop := ∀ (t : Tm) (A : Option Addr) (c : Nat) (w : World), formedF d t = true → Lies w w.heap.size d t (tmCells t A c) → Calls Try.prog 29 #[tmV t A c] w (StrPost (textB d t) w)
set_option maxRecDepth 100000 in
set_option maxHeartbeats 2000000 in
theorem text1_any (op n : Int) (nm : ByteArray) (A : Option Addr) (L c : Nat) (least : Nat) (s : ByteArray) (w : World) (hl : least ≤ 7) (hs : s.size ≤ 1000000)
    (HX : ∀ w1, Below w.heap.size w w1 → Calls Try.prog 29 #[.agg #[.int .i64 op, .int .i64 n, .string nm, .slice A L c]] w1 (StrPost s w1)) :
    Calls Try.prog 40 #[.agg #[.int .i64 op, .int .i64 n, .string nm, .slice A L c], .int .i64 (least : Nat)] w (StrPost (partB s op least) w) := by
  have hb0 : Below w.heap.size w (w.alloc (.cells #[.int .i64 op, .int .i64 n, .string nm, .slice A L c] 24)) := (Below.refl _ _).alloc (Nat.le_refl _) _
  have l0 := heap_alloc_new w (.cells #[.int .i64 op, .int .i64 n, .string nm, .slice A L c] 24)
  have HB0 := Lib.hid hb0; have L0 := Lib.hid l0; have HXX := Lib.hid HX
  have HLV := Lib.hid (fun w1 => ex_level op w1)
  have HLB := Lib.hid (lvl_bd op)
  obtain ⟨lz, hlz⟩ : ∃ lz : Int, lz = least := ⟨_, rfl⟩
  rw [← hlz]
  obtain ⟨r, hr⟩ : ∃ r, r = partB s op least := ⟨_, rfl⟩
  rw [← hr]
  have HR := Lib.hid hr
  unfold LvlPost at HLV
  obtain ⟨kz, hkz⟩ : ∃ kz : Int, kz = (lvlOf op : Nat) := ⟨_, rfl⟩
  rw [← hkz] at HLV
  have hk1 : 1 ≤ kz := by have := HLB.out; omega
  have hk6 : kz ≤ 6 := by have := HLB.out; omega
  have HKZ := Lib.hid hkz; have HLZ := Lib.hid hlz
  clear hb0 l0 HX hr hkz hlz hl
  by_cases hlt : kz < lz
  · have HRR := Lib.hid (show r = ⟨#[40]⟩ ++ s ++ ⟨#[41]⟩ by rw [HR.out]; unfold partB; rw [if_pos (by have := HKZ.out; have := HLZ.out; omega)])
    rw [HRR.out]
    go_enter Try.func40, Try.ntmps40
    go_wp2_with fail
    refine (HLV.out _).mono ?_
    rintro e w1 ⟨rfl, hb⟩
    have HB1 := Lib.hid (HB0.out.trans (hb.mono HB0.out.size))
    have hc := hb.block w.heap.size (by simp)
    obtain ⟨x0, x1, x2, x3, f0, f1, f2, f3⟩ := box_facts (hc.trans L0.out)
    clear hb hc
    go_wp2_with fail
    refine (HXX.out w1 HB1.out).mono ?_
    rintro e w2 ⟨rfl, hb2⟩
    have HB2 := Lib.hid (HB1.out.trans (hb2.mono HB1.out.size))
    clear hb2 x0 x1 x2 x3 f0 f1 f2 f3
    go_wp2
    go_ret
    exact ⟨rfl, HB2.out⟩
  · have HRR := Lib.hid (show r = s by rw [HR.out]; unfold partB; rw [if_neg (by have := HKZ.out; have := HLZ.out; omega)])
    rw [HRR.out]
    go_enter Try.func40, Try.ntmps40
    go_wp2_with fail
    refine (HLV.out _).mono ?_
    rintro e w1 ⟨rfl, hb⟩
    have HB1 := Lib.hid (HB0.out.trans (hb.mono HB0.out.size))
    have hc := hb.block w.heap.size (by simp)
    obtain ⟨x0, x1, x2, x3, f0, f1, f2, f3⟩ := box_facts (hc.trans L0.out)
    clear hb hc
    go_wp2_with fail
    refine (HXX.out w1 HB1.out).mono ?_
    rintro e w2 ⟨rfl, hb2⟩
    have HB2 := Lib.hid (HB1.out.trans (hb2.mono HB1.out.size))
    clear hb2 x0 x1 x2 x3 f0 f1 f2 f3
    go_wp2
    go_ret
    exact ⟨rfl, HB2.out⟩
set_option maxRecDepth 100000 in
set_option maxHeartbeats 2000000 in
theorem text_num (n : Int) (nm : ByteArray) (A : Option Addr) (L c : Nat) (w : World) (h0 : 0 ≤ n) (h1 : n < 4294967296) :
    Calls Try.prog 29 #[.agg #[.int .i64 1, .int .i64 n, .string nm, .slice A L c]] w (StrPost (Lx.ba (Lx.digs n.toNat)) w) := by
  obtain ⟨N, rfl⟩ := Int.eq_ofNat_of_zero_le h0
  rw [Int.toNat_natCast]
  have hb0 : Below w.heap.size w (w.alloc (.cells #[.int .i64 1, .int .i64 (N : Int), .string nm, .slice A L c] 24)) := (Below.refl _ _).alloc (Nat.le_refl _) _
  have HD := Lib.hid (lex_Digits N (w.alloc (.cells #[.int .i64 1, .int .i64 (N : Int), .string nm, .slice A L c] 24)) (by omega))
  have HB0 := Lib.hid hb0
  generalize Lx.ba (Lx.digs N) = s at HD ⊢
  obtain ⟨z, hz⟩ : ∃ z : Int, z = (N : Int) := ⟨_, rfl⟩
  rw [← hz] at HD HB0 ⊢
  clear hb0 h0 h1 hz
  go_enter Try.func29, Try.ntmps29
  go_wp2_with fail
  refine HD.out.mono ?_
  rintro e w1 ⟨rfl, hb⟩
  have HB1 := Lib.hid (HB0.out.trans (hb.mono HB0.out.size))
  clear hb
  go_wp2
  go_ret
  exact ⟨rfl, HB1.out⟩
set_option maxRecDepth 100000 in
set_option maxHeartbeats 2000000 in
theorem text_ref (n : Int) (nm : ByteArray) (A : Option Addr) (L c : Nat) (w : World) :
    Calls Try.prog 29 #[.agg #[.int .i64 2, .int .i64 n, .string nm, .slice A L c]] w (StrPost nm w) := by
  go_enter Try.func29, Try.ntmps29
  go_wp2
  go_ret
  exact ⟨rfl, (Below.refl _ _).alloc (Nat.le_refl _) _⟩
set_option maxRecDepth 100000 in
set_option maxHeartbeats 4000000 in
theorem text_un (op n : Int) (nm : ByteArray) (ad : Addr) (c : Nat) (op1 n1 : Int) (nm1 : ByteArray) (A1 : Option Addr) (L1 c1 : Nat) (s : ByteArray) (w : World) (hop : op = 3 ∨ op = 4) (hs : s.size ≤ 1000000)
    (p : Addr) (hp : ad.add (0 * 4) = p) (hpb : p.block < w.heap.size)
    (k0 : w.cell? p = some (.int .i64 op1)) (k1 : w.cell? ⟨p.block, p.off + 1, none⟩ = some (.int .i64 n1)) (k2 : w.cell? ⟨p.block, p.off + 2, none⟩ = some (.string nm1)) (k3 : w.cell? ⟨p.block, p.off + 3, none⟩ = some (.slice A1 L1 c1))
    (HX : ∀ w1, Below w.heap.size w w1 → Calls Try.prog 40 #[.agg #[.int .i64 op1, .int .i64 n1, .string nm1, .slice A1 L1 c1], .int .i64 6] w1 (StrPost s w1)) :
    Calls Try.prog 29 #[.agg #[.int .i64 op, .int .i64 n, .string nm, .slice (some ad) 1 c]] w (StrPost ((if op = 3 then ⟨#[45]⟩ else ⟨#[126]⟩) ++ s) w) := by
  have hb0 : Below w.heap.size w (w.alloc (.cells #[.int .i64 op, .int .i64 n, .string nm, .slice (some ad) 1 c] 24)) := (Below.refl _ _).alloc (Nat.le_refl _) _
  have HC := Lib.hid (HX _ hb0)
  have HB0 := Lib.hid hb0
  clear hb0 HX
  rcases hop with rfl | rfl
  · rw [if_pos rfl]
    go_enter Try.func29, Try.ntmps29
    go_wp2_with fail
    refine HC.out.mono ?_
    rintro e w1 ⟨rfl, hb⟩
    have HB1 := Lib.hid (HB0.out.trans (hb.mono HB0.out.size))
    clear hb k0 k1 k2 k3
    go_wp2
    go_ret
    exact ⟨rfl, HB1.out⟩
  · rw [if_neg (by decide)]
    go_enter Try.func29, Try.ntmps29
    go_wp2_with fail
    refine HC.out.mono ?_
    rintro e w1 ⟨rfl, hb⟩
    have HB1 := Lib.hid (HB0.out.trans (hb.mono HB0.out.size))
    clear hb k0 k1 k2 k3
    go_wp2
    go_ret
    exact ⟨rfl, HB1.out⟩
set_option maxRecDepth 100000 in
set_option maxHeartbeats 8000000 in
theorem text_bin (op n : Int) (nm : ByteArray) (ad : Addr) (c : Nat) (op1 n1 : Int) (nm1 : ByteArray) (A1 : Option Addr) (L1 c1 : Nat) (s1 : ByteArray) (op2 n2 : Int) (nm2 : ByteArray) (A2 : Option Addr) (L2 c2 : Nat) (s2 : ByteArray) (w : World) (hop : 5 ≤ op ∧ op ≤ 11) (hs1 : s1.size ≤ 1000000) (hs2 : s2.size ≤ 1000000)
    (p q : Addr) (hp : ad.add (0 * 4) = p) (hpb : p.block < w.heap.size) (hq : ad.add (1 * 4) = q) (hqb : q.block < w.heap.size)
    (k0 : w.cell? p = some (.int .i64 op1)) (k1 : w.cell? ⟨p.block, p.off + 1, none⟩ = some (.int .i64 n1)) (k2 : w.cell? ⟨p.block, p.off + 2, none⟩ = some (.string nm1)) (k3 : w.cell? ⟨p.block, p.off + 3, none⟩ = some (.slice A1 L1 c1))
    (g0 : w.cell? q = some (.int .i64 op2)) (g1 : w.cell? ⟨q.block, q.off + 1, none⟩ = some (.int .i64 n2)) (g2 : w.cell? ⟨q.block, q.off + 2, none⟩ = some (.string nm2)) (g3 : w.cell? ⟨q.block, q.off + 3, none⟩ = some (.slice A2 L2 c2))
    (HX1 : ∀ w1, Below w.heap.size w w1 → Calls Try.prog 40 #[.agg #[.int .i64 op1, .int .i64 n1, .string nm1, .slice A1 L1 c1], .int .i64 (lvlOf op : Nat)] w1 (StrPost s1 w1))
    (HX2 : ∀ w1, Below w.heap.size w w1 → Calls Try.prog 40 #[.agg #[.int .i64 op2, .int .i64 n2, .string nm2, .slice A2 L2 c2], .int .i64 (lvlOf op + 1 : Nat)] w1 (StrPost s2 w1)) :
    Calls Try.prog 29 #[.agg #[.int .i64 op, .int .i64 n, .string nm, .slice (some ad) 2 c]] w (StrPost (s1 ++ ⟨#[32]⟩ ++ sgOf op ++ ⟨#[32]⟩ ++ s2) w) := by
  have hb0 : Below w.heap.size w (w.alloc (.cells #[.int .i64 op, .int .i64 n, .string nm, .slice (some ad) 2 c] 24)) := (Below.refl _ _).alloc (Nat.le_refl _) _
  have L0 := Lib.hid (heap_alloc_new w (.cells #[.int .i64 op, .int .i64 n, .string nm, .slice (some ad) 2 c] 24))
  have HLV := Lib.hid (ex_level op (w.alloc (.cells #[.int .i64 op, .int .i64 n, .string nm, .slice (some ad) 2 c] 24)))
  have HC1 := Lib.hid HX1; have HC2 := Lib.hid HX2
  have HB0 := Lib.hid hb0
  have hsg : (sgOf op).size ≤ 2 := by
    unfold sgOf
    repeat' split
    all_goals decide
  have HLB := Lib.hid (lvl_bd op)
  generalize hg : sgOf op = sg at hsg HLV ⊢
  unfold LvlPost at HLV
  rw [hg] at HLV
  obtain ⟨kz, hkz⟩ : ∃ kz : Int, kz = (lvlOf op : Nat) := ⟨_, rfl⟩
  rw [← hkz] at HLV HC1
  rw [show ((lvlOf op + 1 : Nat) : Int) = kz + 1 by omega] at HC2
  have hk1 : 1 ≤ kz := by have := HLB.out; omega
  have hk6 : kz ≤ 6 := by have := HLB.out; omega
  have t1 : (op == 1) = false := by rw [beq_eq_false_iff_ne]; omega
  have t2 : (op == 2) = false := by rw [beq_eq_false_iff_ne]; omega
  have t3 : (op == 3) = false := by rw [beq_eq_false_iff_ne]; omega
  have t4 : (op == 4) = false := by rw [beq_eq_false_iff_ne]; omega
  have K := Lib.hid (And.intro k0 (And.intro k1 (And.intro k2 (And.intro k3 (And.intro g0 (And.intro g1 (And.intro g2 g3)))))))
  clear hb0 HX1 HX2 hg hkz hop k0 k1 k2 k3 g0 g1 g2 g3
  go_enter Try.func29, Try.ntmps29
  go_wp2_with fail
  refine HLV.out.mono ?_
  rintro e w1 ⟨rfl, hb⟩
  have HB1 := Lib.hid (HB0.out.trans (hb.mono HB0.out.size))
  have LW1 := Lib.hid ((hb.block w.heap.size (by simp)).trans L0.out)
  have HBD := Lib.hid (HB1.out.drew)
  obtain ⟨z0, z1, z2, z3, z4, z5, z6, z7⟩ := box_facts (w := w1.drew) LW1.out
  obtain ⟨k0, k1, k2, k3, g0, g1, g2, g3⟩ := K.out
  have k0 := (HBD.out.cell (p := p) hpb).trans k0
  have k1 := (HBD.out.cell (p := ⟨p.block, p.off + 1, none⟩) hpb).trans k1
  have k2 := (HBD.out.cell (p := ⟨p.block, p.off + 2, none⟩) hpb).trans k2
  have k3 := (HBD.out.cell (p := ⟨p.block, p.off + 3, none⟩) hpb).trans k3
  have g0 := (HBD.out.cell (p := q) hqb).trans g0
  have g1 := (HBD.out.cell (p := ⟨q.block, q.off + 1, none⟩) hqb).trans g1
  have g2 := (HBD.out.cell (p := ⟨q.block, q.off + 2, none⟩) hqb).trans g2
  have g3 := (HBD.out.cell (p := ⟨q.block, q.off + 3, none⟩) hqb).trans g3
  have hz1 : w.heap.size < w1.drew.heap.size := by have := hb.size; simp at this; show _ < w1.heap.size; omega
  clear hb z4 z5 z6 z7 z0 z1 z2
  go_wp2
  have hwrap : IntKind.i64.wrap (kz + 1) = kz + 1 := IntWalk.i64_in _ (by omega)
  have q1 : ¬ 9223372036854775807 < s1.size + 1 := by omega
  have q2 : ¬ 9223372036854775807 < s1.size + 1 + sg.size := by omega
  have q3 : ¬ 9223372036854775807 < s1.size + 1 + sg.size + 1 := by omega
  have q4 : ¬ 9223372036854775807 < s1.size + 1 + sg.size + 1 + s2.size := by omega
  go_region_held3 (fun w' => w'.cell? ⟨w.heap.size, 3, none⟩ = some (.slice (some ad) 2 c) ∧ w'.cell? p = some (.int .i64 op1) ∧ w'.cell? ⟨p.block, p.off + 1, none⟩ = some (.int .i64 n1) ∧ w'.cell? ⟨p.block, p.off + 2, none⟩ = some (.string nm1) ∧ w'.cell? ⟨p.block, p.off + 3, none⟩ = some (.slice A1 L1 c1) ∧ w'.cell? q = some (.int .i64 op2) ∧ w'.cell? ⟨q.block, q.off + 1, none⟩ = some (.int .i64 n2) ∧ w'.cell? ⟨q.block, q.off + 2, none⟩ = some (.string nm2) ∧ w'.cell? ⟨q.block, q.off + 3, none⟩ = some (.slice A2 L2 c2)) (first | with_reducible exact ⟨z3, k0, k1, k2, k3, g0, g1, g2, g3⟩ | with_reducible exact HS2.out | with_reducible exact HS3.out) (first | (go_at_call_of 40 (Value.agg #[.int .i64 op1, .int .i64 n1, .string nm1, .slice A1 L1 c1]); refine (HC1.out w1.drew HBD.out).mono ?_; rintro e' w2 ⟨rfl, hb2⟩; have HB2 := Lib.hid (HBD.out.trans (hb2.mono HBD.out.size)); have HS2 := Lib.hid (And.intro ((hb2.cell (p := ⟨w.heap.size, 3, none⟩) hz1).trans z3) (And.intro ((hb2.cell (p := p) (Nat.lt_trans hpb hz1)).trans k0) (And.intro ((hb2.cell (p := ⟨p.block, p.off + 1, none⟩) (Nat.lt_trans hpb hz1)).trans k1) (And.intro ((hb2.cell (p := ⟨p.block, p.off + 2, none⟩) (Nat.lt_trans hpb hz1)).trans k2) (And.intro ((hb2.cell (p := ⟨p.block, p.off + 3, none⟩) (Nat.lt_trans hpb hz1)).trans k3) (And.intro ((hb2.cell (p := q) (Nat.lt_trans hqb hz1)).trans g0) (And.intro ((hb2.cell (p := ⟨q.block, q.off + 1, none⟩) (Nat.lt_trans hqb hz1)).trans g1) (And.intro ((hb2.cell (p := ⟨q.block, q.off + 2, none⟩) (Nat.lt_trans hqb hz1)).trans g2) ((hb2.cell (p := ⟨q.block, q.off + 3, none⟩) (Nat.lt_trans hqb hz1)).trans g3))))))))); have hz2 := Nat.lt_of_lt_of_le hz1 hb2.size; clear hb2) | (go_at_call_of 40 (Value.agg #[.int .i64 op2, .int .i64 n2, .string nm2, .slice A2 L2 c2]); refine (HC2.out w2 HB2.out).mono ?_; rintro e' w3 ⟨rfl, hb3⟩; have HB3 := Lib.hid (HB2.out.trans (hb3.mono HB2.out.size)); have HS3 := Lib.hid (And.intro ((hb3.cell (p := ⟨w.heap.size, 3, none⟩) hz2).trans HS2.out.1) (And.intro ((hb3.cell (p := p) (Nat.lt_trans hpb hz2)).trans HS2.out.2.1) (And.intro ((hb3.cell (p := ⟨p.block, p.off + 1, none⟩) (Nat.lt_trans hpb hz2)).trans HS2.out.2.2.1) (And.intro ((hb3.cell (p := ⟨p.block, p.off + 2, none⟩) (Nat.lt_trans hpb hz2)).trans HS2.out.2.2.2.1) (And.intro ((hb3.cell (p := ⟨p.block, p.off + 3, none⟩) (Nat.lt_trans hpb hz2)).trans HS2.out.2.2.2.2.1) (And.intro ((hb3.cell (p := q) (Nat.lt_trans hqb hz2)).trans HS2.out.2.2.2.2.2.1) (And.intro ((hb3.cell (p := ⟨q.block, q.off + 1, none⟩) (Nat.lt_trans hqb hz2)).trans HS2.out.2.2.2.2.2.2.1) (And.intro ((hb3.cell (p := ⟨q.block, q.off + 2, none⟩) (Nat.lt_trans hqb hz2)).trans HS2.out.2.2.2.2.2.2.2.1) ((hb3.cell (p := ⟨q.block, q.off + 3, none⟩) (Nat.lt_trans hqb hz2)).trans HS2.out.2.2.2.2.2.2.2.2))))))))); clear hb3))
  all_goals
    go_wp2
    go_ret
    exact ⟨rfl, HB3.out⟩
theorem app_size (a b : ByteArray) : (a ++ b).size = a.size + b.size := by simp
theorem part_size {s : ByteArray} {op : Int} {k : Nat} : s.size ≤ (partB s op k).size := by
  unfold partB
  split
  · simp only [app_size]; omega
  · exact Nat.le_refl _
/-- A formed term's text. -/
theorem text_at : ∀ (d : Nat) (t : Tm) (A : Option Addr) (c : Nat) (w : World), formedF d t = true → (textB d t).size ≤ 1000000 → Lies w w.heap.size d t (tmCells t A c) → Calls Try.prog 29 #[tmV t A c] w (StrPost (textB d t) w)
  | 0, t, A, c, w, hf, hs, hl => hl.elim
  | d + 1, t, A, c, w, hf, hs, hl => by
    obtain ⟨hfb, hfa⟩ := formed_part hf
    have part : ∀ (i : Nat) (x : Tm) (A' : Option Addr) (c' k : Nat), t.args[i]? = some x → Lies w w.heap.size d x (tmCells x A' c') → (textB d x).size ≤ 1000000 → k ≤ 7 → ∀ w1, Below w.heap.size w w1 →
        Calls Try.prog 40 #[.agg #[.int .i64 x.op, .int .i64 x.n, .string x.name, .slice A' x.args.length c'], .int .i64 (k : Nat)] w1 (StrPost (partB (textB d x) x.op k) w1) := fun i x A' c' k hx hlx hsx hk w1 hb1 =>
      text1_any x.op x.n x.name A' x.args.length c' k (textB d x) w1 hk hsx (fun w2 hb2 => text_at d x A' c' w2 (hfa x (List.mem_of_getElem? hx)) hsx ((hlx.on hb1).on hb2))
    rcases form_args hfb with ⟨h0, ho⟩ | ⟨h0, ho⟩ | ⟨h1, ho⟩ | ⟨h2, ho⟩
    · have e : textB (d + 1) t = Lx.ba (Lx.digs t.n.toNat) := by unfold textB; rw [if_pos ho]
      have hb := (form_num ho).symm.trans hfb
      simp only [decide_eq_true_eq] at hb
      rw [e]
      unfold tmV
      rw [ho]
      exact text_num t.n t.name A _ c w hb.2.2.1 hb.2.2.2
    · have e : textB (d + 1) t = t.name := by unfold textB; rw [if_neg (by omega), if_pos ho]
      rw [e]
      unfold tmV
      rw [ho]
      exact text_ref t.n t.name A _ c w
    · obtain ⟨a, ha⟩ := one_arg h1
      obtain ⟨ad, p, x, A', c', rfl, hp, hpb, hxi, hlx, k0, k1, k2, k3⟩ := hl.part (i := 0) (by omega)
      have hxa : x = a := by rw [ha] at hxi; exact (Option.some.inj hxi).symm
      have e : textB (d + 1) t = (if t.op = 3 then ⟨#[45]⟩ else ⟨#[126]⟩) ++ partB (textB d x) x.op 6 := by
        conv => lhs; unfold textB
        rw [if_neg (by omega), if_neg (by omega), ha, hxa]
      have hps := part_size (s := textB d x) (op := x.op) (k := 6)
      rw [e, app_size] at hs
      rw [e]
      unfold tmV
      rw [h1]
      exact text_un t.op t.n t.name ad c x.op x.n x.name A' x.args.length c' _ w ho (by omega) p hp hpb k0 k1 k2 k3 (part 0 x A' c' 6 hxi hlx (by omega) (by omega))
    · obtain ⟨a, b, ha⟩ := two_args h2
      obtain ⟨ad, p, x, A', c', eA, hp, hpb, hxi, hlx, k0, k1, k2, k3⟩ := hl.part (i := 0) (by omega)
      obtain ⟨ad2, q, y, A2, c2, eA2, hq, hqb, hyi, hly, g0, g1, g2, g3⟩ := hl.part (i := 1) (by omega)
      subst eA
      cases eA2
      have hxa : x = a := by rw [ha] at hxi; exact (Option.some.inj hxi).symm
      have hyb : y = b := by rw [ha] at hyi; exact (Option.some.inj hyi).symm
      have e : textB (d + 1) t = partB (textB d x) x.op (lvlOf t.op) ++ ⟨#[32]⟩ ++ sgOf t.op ++ ⟨#[32]⟩ ++ partB (textB d y) y.op (lvlOf t.op + 1) := by
        conv => lhs; unfold textB
        rw [if_neg (by omega), if_neg (by omega), ha, hxa, hyb]
      have hps := part_size (s := textB d x) (op := x.op) (k := lvlOf t.op)
      have hpt := part_size (s := textB d y) (op := y.op) (k := lvlOf t.op + 1)
      have hlb := (lvl_bd t.op).2
      rw [e] at hs
      simp only [app_size] at hs
      rw [e]
      unfold tmV
      rw [h2]
      exact text_bin t.op t.n t.name ad c x.op x.n x.name A' x.args.length c' _ y.op y.n y.name A2 y.args.length c2 _ w ho (by omega) (by omega) p q hp hpb hq hqb k0 k1 k2 k3 g0 g1 g2 g3 (part 0 x A' c' _ hxi hlx (by omega) (by omega)) (part 1 y A2 c2 _ hyi hly (by omega) (by omega))
set_option maxRecDepth 100000 in
set_option maxHeartbeats 2000000 in
/-- Print of a term that may be printed. -/
theorem ex_Print (d : Nat) (t : Tm) (A : Option Addr) (c : Nat) (w : World) (hf : formedF d t = true) (hs : (textB d t).size ≤ 1000000) (hp : 0 ≤ partsF 16 t 1000) (hl : Lies w w.heap.size d t (tmCells t A c)) :
    Calls Try.prog 12 #[tmV t A c] w (StrPost (textB d t) w) := by
  have hb0 : Below w.heap.size w (w.alloc (.cells #[.int .i64 t.op, .int .i64 t.n, .string t.name, .slice A t.args.length c] 24)) := (Below.refl _ _).alloc (Nat.le_refl _) _
  have L0 := Lib.hid (heap_alloc_new w (.cells #[.int .i64 t.op, .int .i64 t.n, .string t.name, .slice A t.args.length c] 24))
  have HP := Lib.hid (parts_at 16 (by omega) d t A c 1000 _ (by omega) (by omega) (hl.on hb0))
  have HT := Lib.hid (fun w1 (hb : Below w.heap.size w w1) => text_at d t A c w1 hf hs (hl.on hb))
  have HB0 := Lib.hid hb0
  obtain ⟨pz, hpz⟩ : ∃ pz, pz = partsF 16 t 1000 := ⟨_, rfl⟩
  rw [← hpz] at HP hp
  unfold tmV at HP HT ⊢
  generalize textB d t = s at HT ⊢
  clear hb0 hl hf hs hpz
  go_enter Try.func12, Try.ntmps12
  go_wp2_with fail
  refine HP.out.mono ?_
  rintro e w1 ⟨rfl, hb⟩
  have HB1 := Lib.hid (HB0.out.trans (hb.mono HB0.out.size))
  obtain ⟨x0, x1, x2, x3, _⟩ := box_facts ((hb.block w.heap.size (by simp)).trans L0.out)
  clear hb
  have hp0 : decide (pz < 0) = false := by rw [decide_eq_false_iff_not]; omega
  go_wp2_with fail
  refine (HT.out w1 HB1.out).mono ?_
  rintro e w2 ⟨rfl, hb⟩
  have HB2 := Lib.hid (HB1.out.trans (hb.mono HB1.out.size))
  clear hb x0 x1 x2 x3
  go_wp2
  go_ret
  exact ⟨rfl, HB2.out⟩
end Go.Proofs.Ytfknokclemljfaa
