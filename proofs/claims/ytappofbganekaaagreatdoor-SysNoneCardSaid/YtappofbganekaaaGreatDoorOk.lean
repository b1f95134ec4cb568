import Derived.Test.YtappofbganekaaaGreatDoorBx22
import Derived.Test.YtappofbganekaaaGreatDoorGrace
import Derived.Test.YtappofbganekaaaGreatDoorCaught
import Derived.KernelRfl
set_option linter.all false
namespace Go.Bx
open Go Go.RowKit Go.Proofs
set_option maxRecDepth 100000
/-- No term is used. -/
instance dullValn : Valn := ⟨fun _ => 0, fun _ => false, fun _ => [], fun _ d => d⟩
theorem hprogK : progOk (Env.of Tryz.prog) Tryz.prog.funcs.toList = true := by kernel_rfl
end Go.Bx
