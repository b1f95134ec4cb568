import Derived.Test.YtammiaaocohdaaaGreatProg
import Derived.Test.YtammiaaocohdaaaGreatSumsQ
import Derived.Test.YtammiaaocohdaaaGreatGrace
import Derived.KernelRfl
set_option linter.all false
namespace Go.Bx
open Go Go.RowKit Go.Proofs
set_option maxRecDepth 100000
/-- No term is used. -/
instance dullValn : Valn := ⟨fun _ => 0, fun _ => false, fun _ => [], fun _ d => d⟩
theorem hprogK : progOk (Env.of Tryz.prog) Tryz.prog.funcs.toList = true := by kernel_rfl
theorem hmixK : Tryz.prog.follows .mixedOrders = true := by kernel_rfl
theorem hEK (V : Valn) : EnvOk Tryz.prog (Env.of Tryz.prog) := envOk_of _ (by decide +kernel) (by decide +kernel)
theorem hGK : (Env.of Tryz.prog).G ≤ 1000000 := by decide +kernel
theorem graceK : GraceNone Tryz.prog 20 := fun w mb mo r ES clock h1 h2 h3 h4 => grace_none w mb mo r ES clock h1 h2 h3 h4
theorem entersGrace : Enters Tryz.prog 20 := ⟨Tryz.f20, funcGrace, (by intro h; cases h), by decide +kernel⟩
theorem graceOkK (V : Valn) : CallOk Tryz.prog (Env.of Tryz.prog).G (graceOrc 20) := graceOrc_ok entersGrace graceK
end Go.Bx
