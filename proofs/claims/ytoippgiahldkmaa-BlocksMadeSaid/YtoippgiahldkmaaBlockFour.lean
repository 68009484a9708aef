/- The three slice literals of chapter 21's example. -/
import Derived.Test.YtoippgiahldkmaaBlockThree
namespace Go.Proofs.Ytoippgiahldkmaa
open Go.RowKit Mem
theorem build3 (w : World) : ∃ r, (Instr.buildSlice 40 3 #[(0, .agg (itL 0 8).cells.toArray), (1, .agg (movL 0).cells.toArray), (2, .agg (movL 14).cells.toArray)]).run Try.prog w = .ok (.slice (some ⟨w.heap.size, 0, none⟩) 3 3) (w.alloc (.cells r 56)) ∧
    Lines (w.alloc (.cells r 56)) (w.heap.size + 1) (some ⟨w.heap.size, 0, none⟩) 3 l3 := by
  obtain ⟨r, h, hl⟩ := run_buildLines l3 ok3 (Nat.succ_pos _) (by show 3 ≤ 100; omega) w
  have e : (((aggs l3).zipIdx 0).map fun x => (x.2, x.1)).toArray = #[(0, .agg (itL 0 8).cells.toArray), (1, .agg (movL 0).cells.toArray), (2, .agg (movL 14).cells.toArray)] := by
    simp only [aggs, l3, List.map_cons, List.map_nil, List.zipIdx_cons, List.zipIdx_nil]
  rw [e] at h
  exact ⟨r, h, hl⟩
theorem build2 (w : World) : ∃ r, (Instr.buildSlice 40 2 #[(0, .agg (itL 0 8).cells.toArray), (1, .agg (movL 1).cells.toArray)]).run Try.prog w = .ok (.slice (some ⟨w.heap.size, 0, none⟩) 2 2) (w.alloc (.cells r 56)) ∧
    Lines (w.alloc (.cells r 56)) (w.heap.size + 1) (some ⟨w.heap.size, 0, none⟩) 2 l2 := by
  obtain ⟨r, h, hl⟩ := run_buildLines l2 ok2 (Nat.succ_pos _) (by show 2 ≤ 100; omega) w
  have e : (((aggs l2).zipIdx 0).map fun x => (x.2, x.1)).toArray = #[(0, .agg (itL 0 8).cells.toArray), (1, .agg (movL 1).cells.toArray)] := by
    simp only [aggs, l2, List.map_cons, List.map_nil, List.zipIdx_cons, List.zipIdx_nil]
  rw [e] at h
  exact ⟨r, h, hl⟩
theorem build1 (w : World) : ∃ r, (Instr.buildSlice 40 1 #[(0, .agg (itL 0 8).cells.toArray)]).run Try.prog w = .ok (.slice (some ⟨w.heap.size, 0, none⟩) 1 1) (w.alloc (.cells r 56)) ∧
    Lines (w.alloc (.cells r 56)) (w.heap.size + 1) (some ⟨w.heap.size, 0, none⟩) 1 l1 := by
  obtain ⟨r, h, hl⟩ := run_buildLines l1 ok1 (Nat.succ_pos _) (by show 1 ≤ 100; omega) w
  have e : (((aggs l1).zipIdx 0).map fun x => (x.2, x.1)).toArray = #[(0, .agg (itL 0 8).cells.toArray)] := by
    simp only [aggs, l1, List.map_cons, List.map_nil, List.zipIdx_cons, List.zipIdx_nil]
  rw [e] at h
  exact ⟨r, h, hl⟩
end Go.Proofs.Ytoippgiahldkmaa
