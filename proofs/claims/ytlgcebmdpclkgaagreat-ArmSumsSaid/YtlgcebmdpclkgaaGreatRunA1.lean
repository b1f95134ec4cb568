import Derived.Test.YtlgcebmdpclkgaaGreatRunA
set_option linter.all false
namespace Go.Bx
open Go Go.RowKit Go.Proofs
set_option maxRecDepth 100000
def kinds1 : List Nat := [3, 4, 5, 6]
theorem run_a3 : runA (.int .i64 3) (factsA ++ [plus0 (sumA 3)]) = true := by kernel_rfl
theorem run_a4 : runA (.int .i64 4) (factsA ++ [plus0 (sumA 4)]) = true := by kernel_rfl
theorem run_a5 : runA (.int .i64 5) (factsA ++ [plus0 (sumA 5)]) = true := by kernel_rfl
theorem run_a6 : runA (.int .i64 6) (factsA ++ [plus0 (sumA 6)]) = true := by kernel_rfl
theorem runs_1 : ∀ k ∈ kinds1, runA (.int .i64 (k : Nat)) (factsA ++ [plus0 (sumA k)]) = true := by
  intro k hk
  simp only [kinds1, List.mem_cons, List.not_mem_nil, or_false] at hk
  rcases hk with rfl | rfl | rfl | rfl
  · exact run_a3
  · exact run_a4
  · exact run_a5
  · exact run_a6
theorem run_ao : runA (.intNot .i64 [3, 4, 5, 6, 7, 8, 10, 11, 12, 13, 14]) [] = true := by kernel_rfl
end Go.Bx
