import Derived.Test.YtlgcebmdpclkgaaGreatRunA
set_option linter.all false
namespace Go.Bx
open Go Go.RowKit Go.Proofs
set_option maxRecDepth 100000
theorem run_11z : runA (.int .i64 11) (factsA ++ isZero true) = true := by kernel_rfl
theorem run_11 : runA (.int .i64 11) (factsA ++ ([plus0 (sumA 11)] ++ (isZero false ++ minus1 false))) = true := by kernel_rfl
theorem run_11m : runA (.int .i64 11) (factsA ++ ([plus0 negS] ++ ([(quoS, negS)] ++ (isZero false ++ minus1 true)))) = true := by kernel_rfl
end Go.Bx
