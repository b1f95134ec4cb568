import Derived.Test.YtlgcebmdpclkgaaGreatRunA
set_option linter.all false
namespace Go.Bx
open Go Go.RowKit Go.Proofs
set_option maxRecDepth 100000
theorem run_13 : runA (.int .i64 13) (factsA ++ [plus0 (sumA 13)]) = true := by kernel_rfl
theorem run_10 : runA (.int .i64 10) (factsA ++ ([plus0 (sumA 10)] ++ isZero false)) = true := by kernel_rfl
theorem run_10z : runA (.int .i64 10) (factsA ++ ([plus0 (sumA 10)] ++ isZero true)) = true := by kernel_rfl
end Go.Bx
