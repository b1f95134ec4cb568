import Derived.Test.YtmiebhjpdmokoaaGreatDoorBx29
import Derived.Test.YtmiebhjpdmokoaaGreatDoorGrace
import Derived.Test.YtmiebhjpdmokoaaGreatDoorCaught
import Derived.KernelRfl
set_option linter.all false
namespace Go.Bx
open Go Go.RowKit Go.Proofs
set_option maxRecDepth 100000
/-- No term is used. -/
instance dullValn : Valn := ⟨fun _ => 0, fun _ => false, fun _ => [], fun _ d => d⟩
theorem hprogK : progOk (Env.of Tryz.prog) Tryz.prog.funcs.toList = true := by kernel_rfl
theorem hmixK : Tryz.prog.follows .mixedOrders = true := by kernel_rfl
theorem hEK (V : Valn) : @EnvOk V Tryz.prog (Env.of Tryz.prog) := @envOk_of V _ (by decide +kernel) (by decide +kernel)
theorem hGK : (Env.of Tryz.prog).G ≤ 1000000 := by decide +kernel
theorem graceK : GraceNone Tryz.prog 91 := fun w mb mo r ES clock h1 h2 h3 h4 => grace_none w mb mo r ES clock h1 h2 h3 h4
theorem entersGrace : Enters Tryz.prog 91 := ⟨Tryz.f91, funcGrace, (by intro h; cases h), by decide +kernel⟩
theorem graceOkK (V : Valn) : @CallOk V Tryz.prog (Env.of Tryz.prog).G (graceOrc 91) := @graceOrc_ok V _ _ _ entersGrace graceK
theorem entersCaught : Enters Tryz.prog 297 := ⟨Tryz.f297, funcCaught, (by intro h; cases h), by decide +kernel⟩
theorem caughtOkK (V : Valn) : @DCallOk V Tryz.prog (Env.of Tryz.prog).G (caughtD 297) := @caughtD_ok V _ _ _ entersCaught (@caught_none V)
noncomputable def callK (E : Env) : CallF := evFn E (graceOrc 91) (caughtD 297) 3000 80
theorem hprogE (facts : List (SX × SX)) : ∀ (f : FuncId) (fn : Func) (c : Code), Tryz.prog.funcs[f]? = some fn → fn.body = some c → codeOk ((Env.of Tryz.prog).with facts) c = true ∧ fn.name ≠ "runtime.NumGoroutine" := by
  intro f fn c hf hb
  rw [codeOk_with]
  exact hprog_of hprogK f fn c hf hb
theorem callOkK (V : Valn) (facts : List (SX × SX)) (hf : @AllDen V facts) : @CallOk V Tryz.prog (Env.of Tryz.prog).G (callK ((Env.of Tryz.prog).with facts)) :=
  @evFn_ok V Tryz.prog ((Env.of Tryz.prog).with facts) (@EnvOk.with' V _ _ (hEK V) _ (@AllDen.mem V _ hf)) hmixK (hprogE facts) _ _ (graceOkK V) (caughtOkK V) 3000 80
end Go.Bx
