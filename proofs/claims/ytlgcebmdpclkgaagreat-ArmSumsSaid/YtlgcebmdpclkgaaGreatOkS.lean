import Derived.Test.YtlgcebmdpclkgaaGreatProg
import Derived.Test.YtlgcebmdpclkgaaGreatSumsQ
import Derived.KernelRfl
set_option linter.all false
namespace Go.Bx
open Go Go.RowKit Go.Proofs
set_option maxRecDepth 100000
/-- No term is used. -/
instance dullValn : Valn := ⟨fun _ => 0, fun _ => false, fun _ => [], fun _ d => d⟩
theorem hprogK : progOk (Env.of Tryz.prog) Tryz.prog.funcs.toList = true := by kernel_rfl
theorem hmixK : Tryz.prog.follows .mixedOrders = true := by kernel_rfl
theorem hEK (V : Valn) : EnvOk Tryz.prog (Env.of Tryz.prog) := envOk_of _ (by decide +kernel) (by decide +kernel)
theorem hGK : (Env.of Tryz.prog).G ≤ 1000000 := by decide +kernel
theorem graceOkK (V : Valn) : CallOk Tryz.prog (Env.of Tryz.prog).G noOrc := noOrc_ok
end Go.Bx
