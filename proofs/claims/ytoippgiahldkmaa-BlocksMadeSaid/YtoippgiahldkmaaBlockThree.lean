/- The plain facts of chapter 21's example. -/
import Derived.Test.YtoippgiahldkmaaBlockBuild
namespace Go.Proofs.Ytoippgiahldkmaa
open Go.RowKit Mem
set_option linter.unusedVariables false
def l3 : List Ln := [itL 0 8, movL 0, movL 14]
def l2 : List Ln := [itL 0 8, movL 1]
def l1 : List Ln := [itL 0 8]
theorem in3 : insideOf l3 = [false, true, false] := by decide +kernel
theorem ck3 : checkOf l3 = (0, 0) := by decide +kernel
theorem ck2 : checkOf l2 = (7, 2) := by decide +kernel
theorem ck1 : checkOf l1 = (7, 2) := by decide +kernel
theorem c31 : condOf l3 1 = 0 := by decide +kernel
theorem c32 : condOf l3 2 = 14 := by decide +kernel
theorem b0 : i64B 0 := by constructor <;> decide
theorem b1 : i64B 1 := by constructor <;> decide
theorem b8 : i64B 8 := by constructor <;> decide
theorem b14 : i64B 14 := by constructor <;> decide
theorem ok3 : ∀ L ∈ l3, L.ok := by
  intro L h
  simp only [l3, List.mem_cons, List.not_mem_nil, or_false] at h
  rcases h with rfl | rfl | rfl
  · exact itL_ok b0 b8
  · exact movL_ok b0
  · exact movL_ok b14
theorem ok2 : ∀ L ∈ l2, L.ok := by
  intro L h
  simp only [l2, List.mem_cons, List.not_mem_nil, or_false] at h
  rcases h with rfl | rfl
  · exact itL_ok b0 b8
  · exact movL_ok b1
theorem ok1 : ∀ L ∈ l1, L.ok := by
  intro L h
  simp only [l1, List.mem_cons, List.not_mem_nil, or_false] at h
  rcases h with rfl
  exact itL_ok b0 b8
end Go.Proofs.Ytoippgiahldkmaa
