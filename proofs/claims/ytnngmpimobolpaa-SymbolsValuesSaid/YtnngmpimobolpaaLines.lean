/- Slices of lines that read as lists: a line is nineteen cells. -/
import Derived.Test.YtnngmpimobolpaaMem
import Derived.Laws.Cells
import Derived.Deep.MidRow
namespace Go.Proofs.Ytnngmpimobolpaa
namespace Mem
open Go.RowKit
set_option linter.unusedVariables false
/-- A line, field by field; what its term's parts are is kept as a value. -/
structure Ln where
  (lab : ByteArray) (kind op cond rd rn rm imm mode lst : Int) (s : Bool) (c : Int) (ref : ByteArray) (wide : Bool) (size eop en : Int) (ename : ByteArray) (ea : Value)
def Ln.cells (L : Ln) : List Value := [.string L.lab, .int .i64 L.kind, .int .i64 L.op, .int .i64 L.cond, .int .i64 L.rd, .int .i64 L.rn, .int .i64 L.rm, .int .i64 L.imm, .int .i64 L.mode, .int .i64 L.lst, .bool L.s, .int .i64 L.c, .string L.ref, .bool L.wide, .int .i64 L.size, .int .i64 L.eop, .int .i64 L.en, .string L.ename, L.ea]
def i64B (x : Int) : Prop := -9223372036854775808 ≤ x ∧ x ≤ 9223372036854775807
structure Ln.ok (L : Ln) : Prop where
  kind : i64B L.kind
  op : i64B L.op
  cond : i64B L.cond
  imm : i64B L.imm
  lst : i64B L.lst
  c : i64B L.c
  eop : i64B L.eop
  en : i64B L.en
  ea : ∃ (a : Option Addr) (n k : Nat), L.ea = .slice a n k
/-- The slice at A of n lines reads as ls, and lies below block B. -/
structure Lines (w : World) (B : Nat) (A : Option Addr) (n : Nat) (ls : List Ln) : Prop where
  len : ls.length = n
  ok : ∀ L ∈ ls, L.ok
  at_ : 0 < n → ∃ ad, A = some ad ∧ ad.block < B ∧ ∀ i L, ls[i]? = some L → ∀ j u, L.cells[j]? = some u → w.cell? (ad.add (i * 19 + j)) = some u
section
variable {w w' : World} {B B' n : Nat} {A : Option Addr} {ls : List Ln}
theorem Lines.nil : Lines w B A 0 [] := ⟨rfl, (fun L h => by cases h), fun h => absurd h (by omega)⟩
theorem Lines.keep (h : Lines w B A n ls) (hk : ∀ p : Addr, p.block < B → w'.cell? p = w.cell? p) : Lines w' B A n ls :=
  ⟨h.len, h.ok, fun hn => by
    obtain ⟨ad, e, hb, hc⟩ := h.at_ hn
    exact ⟨ad, e, hb, fun i L hL j u hu => (hk _ (by rw [add_block]; exact hb)).trans (hc i L hL j u hu)⟩⟩
theorem Lines.more (h : Lines w B A n ls) (hB : B ≤ B') : Lines w B' A n ls :=
  ⟨h.len, h.ok, fun hn => by
    obtain ⟨ad, e, hb, hc⟩ := h.at_ hn
    exact ⟨ad, e, by omega, hc⟩⟩
theorem Lines.below (h : Lines w B A n ls) (hb : Below B w w') : Lines w' B A n ls := h.keep fun _ hp => hb.cell hp
theorem Lines.drewN (h : Lines w B A n ls) (k : Nat) : Lines (w.drewN k) B A n ls := ⟨h.len, h.ok, h.at_⟩
theorem Lines.get {k : Nat} (h : Lines w B A n ls) (hk : k < n) : ∃ ad p L, A = some ad ∧ ad.add (k * 19) = p ∧ p.block < B ∧ ls[k]? = some L ∧ L.ok ∧ ∀ j u, L.cells[j]? = some u → w.cell? (p.add j) = some u := by
  obtain ⟨ad, e, hb, hc⟩ := h.at_ (by omega)
  have hl : k < ls.length := by have := h.len; omega
  exact ⟨ad, _, ls[k], e, rfl, by rw [add_block]; exact hb, List.getElem?_eq_getElem hl, h.ok _ (List.getElem_mem _), fun j u hu => by
    rw [add_add]; exact hc k _ (List.getElem?_eq_getElem hl) j u hu⟩
theorem field {p : Addr} {L : Ln} (h : ∀ j u, L.cells[j]? = some u → w.cell? (p.add j) = some u) {j : Nat} {u : Value} (hj : L.cells[j + 1]? = some u) : w.cell? ⟨p.block, p.off + (j + 1), none⟩ = some u := by
  have := h (j + 1) u hj
  unfold Addr.add at this
  simpa using this
theorem field0 {p : Addr} {L : Ln} (h : ∀ j u, L.cells[j]? = some u → w.cell? (p.add j) = some u) : w.cell? p = some (.string L.lab) := by
  have := h 0 _ rfl
  rwa [add_zero] at this
/-- All nineteen cells, in the walk's spelling. -/
theorem cells19 {p : Addr} {L : Ln} (h : ∀ j u, L.cells[j]? = some u → w.cell? (p.add j) = some u) :
    w.cell? p = some (.string L.lab) ∧ w.cell? ⟨p.block, p.off + 1, none⟩ = some (.int .i64 L.kind) ∧ w.cell? ⟨p.block, p.off + 2, none⟩ = some (.int .i64 L.op) ∧ w.cell? ⟨p.block, p.off + 3, none⟩ = some (.int .i64 L.cond) ∧
    w.cell? ⟨p.block, p.off + 4, none⟩ = some (.int .i64 L.rd) ∧ w.cell? ⟨p.block, p.off + 5, none⟩ = some (.int .i64 L.rn) ∧ w.cell? ⟨p.block, p.off + 6, none⟩ = some (.int .i64 L.rm) ∧ w.cell? ⟨p.block, p.off + 7, none⟩ = some (.int .i64 L.imm) ∧
    w.cell? ⟨p.block, p.off + 8, none⟩ = some (.int .i64 L.mode) ∧ w.cell? ⟨p.block, p.off + 9, none⟩ = some (.int .i64 L.lst) ∧ w.cell? ⟨p.block, p.off + 10, none⟩ = some (.bool L.s) ∧ w.cell? ⟨p.block, p.off + 11, none⟩ = some (.int .i64 L.c) ∧
    w.cell? ⟨p.block, p.off + 12, none⟩ = some (.string L.ref) ∧ w.cell? ⟨p.block, p.off + 13, none⟩ = some (.bool L.wide) ∧ w.cell? ⟨p.block, p.off + 14, none⟩ = some (.int .i64 L.size) ∧ w.cell? ⟨p.block, p.off + 15, none⟩ = some (.int .i64 L.eop) ∧
    w.cell? ⟨p.block, p.off + 16, none⟩ = some (.int .i64 L.en) ∧ w.cell? ⟨p.block, p.off + 17, none⟩ = some (.string L.ename) ∧ w.cell? ⟨p.block, p.off + 18, none⟩ = some L.ea :=
  ⟨field0 h, field h (j := 0) rfl, field h (j := 1) rfl, field h (j := 2) rfl, field h (j := 3) rfl, field h (j := 4) rfl, field h (j := 5) rfl, field h (j := 6) rfl, field h (j := 7) rfl, field h (j := 8) rfl, field h (j := 9) rfl, field h (j := 10) rfl, field h (j := 11) rfl, field h (j := 12) rfl, field h (j := 13) rfl, field h (j := 14) rfl, field h (j := 15) rfl, field h (j := 16) rfl, field h (j := 17) rfl⟩
end
/-- A struct read whole, at whatever address. -/
theorem run_loadAt_any {P : Program} (w : World) (a : Addr) (ty : TypeId) (cs : List Value) (d : TypeDesc) (hc : ∀ j v, cs[j]? = some v → w.cell? (a.add j) = some v)
    (hu : P.underlying ty = some d) (hd : d.isRow = true) (hi : (P.info? ty).map (·.size) = some cs.length) :
    (Instr.loadAt ty (.pointer (some a))).run P w = .ok (.agg cs.toArray) w := by
  have hl : (loadCells a cs.length).run P w = .ok cs.toArray w := run_loadCells_list (P := P) w a cs hc
  have hv : (loadVar ty a).run P w = .ok (.agg cs.toArray) w := by
    cases hq : P.info? ty with
    | none => simp [hq] at hi
    | some i =>
      have hs : i.size = cs.length := by simpa [hq] using hi
      have hagg : (isAgg ty).run P w = .ok true w := by
        unfold isAgg
        rw [Sem.run_bind, run_underlying hu w]
        cases d <;> simp_all
      simp [loadVar, Sem.run_bind, hagg, sizeOf, typeInfo, hq, hs, hl]
  simp only [Instr.loadAt, Instr.sureAddr, Sem.run_bind, Sem.run_pure, Result.andThen_ok, hv]
end Mem
end Go.Proofs.Ytnngmpimobolpaa
