/- The contracts of law 21's it and mov. -/
import Derived.Test.YtoippgiahldkmaaBlockCheck
namespace Go.Proofs.Ytoippgiahldkmaa
open Go.RowKit Mem
set_option linter.unusedVariables false
set_option linter.unusedSimpArgs false
def itL (c m : Int) : Ln := ⟨⟨#[]⟩, 1, 42, c, 0, 0, 0, m, 1, 0, false, 14, ⟨#[]⟩, false, 0, 0, 0, ⟨#[]⟩, .slice none 0 0⟩
def movL (c : Int) : Ln := ⟨⟨#[]⟩, 1, 10, 0, 0, 0, 0, 0, 1, 0, false, c, ⟨#[]⟩, false, 0, 1, 1, ⟨#[]⟩, .slice none 0 0⟩
theorem itL_ok {c m : Int} (h : i64B c) (h' : i64B m) : (itL c m).ok := ⟨by constructor <;> show (_ : Int) ≤ _ <;> simp [itL, movL], by constructor <;> show (_ : Int) ≤ _ <;> simp [itL, movL], h, h', by constructor <;> show (_ : Int) ≤ _ <;> simp [itL, movL], by constructor <;> show (_ : Int) ≤ _ <;> simp [itL, movL], by constructor <;> show (_ : Int) ≤ _ <;> simp [itL, movL], by constructor <;> show (_ : Int) ≤ _ <;> simp [itL, movL], ⟨_, _, _, rfl⟩⟩
theorem movL_ok {c : Int} (h : i64B c) : (movL c).ok := ⟨by constructor <;> show (_ : Int) ≤ _ <;> simp [itL, movL], by constructor <;> show (_ : Int) ≤ _ <;> simp [itL, movL], by constructor <;> show (_ : Int) ≤ _ <;> simp [itL, movL], by constructor <;> show (_ : Int) ≤ _ <;> simp [itL, movL], by constructor <;> show (_ : Int) ≤ _ <;> simp [itL, movL], h, by constructor <;> show (_ : Int) ≤ _ <;> simp [itL, movL], by constructor <;> show (_ : Int) ≤ _ <;> simp [itL, movL], ⟨_, _, _, rfl⟩⟩
theorem results_cell {P : Program} {fn : Func} {tmps : Array Value} {w : World} {a : Nat} {t : TypeId} {p : Addr} {v : Value} (hr : fn.results = #[.cell a t]) (ha : tmps.getD a undef = .pointer (some p)) (hl : (loadVar t p).run P w = .ok v w) : (results fn tmps).run P w = .ok v w := by
  have hA : (asAddr (tmps.getD a undef)).run P w = .ok p w := by rw [ha]; rfl
  unfold results
  rw [hr]
  simp [-Array.getD_eq_getD_getElem?, Sem.run_bind, hA, hl, Result.andThen_ok]
  try rfl
set_option maxRecDepth 100000 in
set_option maxHeartbeats 2000000 in
theorem law_it (c : Int) (hc : i64B c) (w : World) :
    Calls Try.prog 31 #[.int .i64 c] w fun e w' => e = .returned (.agg (itL c 8).cells.toArray) ∧ Below w.heap.size w w' := by
  have h1 := Ln.arr_one _ (itL_ok (m := 8) hc (by constructor <;> decide))
  obtain ⟨X, hX⟩ : ∃ X, X = (itL c 8).cells.toArray := ⟨_, rfl⟩
  rw [← hX] at h1 ⊢
  have HX := Lib.hid hX
  clear hX
  go_enter Try.func31, Try.ntmps31
  go_wp2_with (refine wpList_store_any rfl 56 _ _ rfl ⟨w.heap.size, 0, none⟩ rfl X (by rw [HX.out]; rfl) (run_store_new w 56 56 _ _ (by rw [HX.out]; rfl) (by rw [HX.out]; kernel_rfl) h1) ?_)
  refine bodyPost_ret (v := .agg X) (results_cell Try.results31 rfl (run_loadVar_mid _ _ _ _ X.toList _ (fun j v hj => by rw [Nat.zero_add, Mem.new_cell]; simpa using hj) Try.underlying56 rfl (by rw [HX.out]; kernel_rfl))) rfl ⟨rfl, (Below.refl _ _).alloc (Nat.le_refl _) _⟩
set_option maxRecDepth 100000 in
set_option maxHeartbeats 2000000 in
theorem law_mov (c : Int) (hc : i64B c) (w : World) :
    Calls Try.prog 32 #[.int .i64 c] w fun e w' => e = .returned (.agg (movL c).cells.toArray) ∧ Below w.heap.size w w' := by
  have h1 := Ln.arr_one _ (movL_ok hc)
  obtain ⟨X, hX⟩ : ∃ X, X = (movL c).cells.toArray := ⟨_, rfl⟩
  rw [← hX] at h1 ⊢
  have HX := Lib.hid hX
  clear hX
  go_enter Try.func32, Try.ntmps32
  go_wp2_with (refine wpList_store_any rfl 56 _ _ rfl ⟨w.heap.size, 0, none⟩ rfl X (by rw [HX.out]; rfl) (run_store_new w 56 56 _ _ (by rw [HX.out]; rfl) (by rw [HX.out]; kernel_rfl) h1) ?_)
  refine bodyPost_ret (v := .agg X) (results_cell Try.results32 rfl (run_loadVar_mid _ _ _ _ X.toList _ (fun j v hj => by rw [Nat.zero_add, Mem.new_cell]; simpa using hj) Try.underlying56 rfl (by rw [HX.out]; kernel_rfl))) rfl ⟨rfl, (Below.refl _ _).alloc (Nat.le_refl _) _⟩
end Go.Proofs.Ytoippgiahldkmaa
