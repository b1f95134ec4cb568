import Derived.Test.YtlgcebmdpclkgaaGreatRunA
set_option linter.all false
namespace Go.Bx
open Go Go.RowKit Go.Proofs
set_option maxRecDepth 100000
def kinds2 : List Nat := [7, 8, 12, 14]
theorem run_a7 : runA (.int .i64 7) (factsA ++ [plus0 (sumA 7)]) = true := by kernel_rfl
theorem run_a8 : runA (.int .i64 8) (factsA ++ [plus0 (sumA 8)]) = true := by kernel_rfl
theorem run_a12 : runA (.int .i64 12) (factsA ++ [plus0 (sumA 12)]) = true := by kernel_rfl
theorem run_a14 : runA (.int .i64 14) (factsA ++ [plus0 (sumA 14)]) = true := by kernel_rfl
theorem runs_2 : ∀ k ∈ kinds2, runA (.int .i64 (k : Nat)) (factsA ++ [plus0 (sumA k)]) = true := by
  intro k hk
  simp only [kinds2, List.mem_cons, List.not_mem_nil, or_false] at hk
  rcases hk with rfl | rfl | rfl | rfl
  · exact run_a7
  · exact run_a8
  · exact run_a12
  · exact run_a14
end Go.Bx
