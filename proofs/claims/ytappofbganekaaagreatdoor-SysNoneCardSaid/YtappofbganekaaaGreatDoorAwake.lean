import Derived.Test.YtappofbganekaaaGreatDoorOk
set_option linter.all false
namespace Go.Bx
open Go Go.RowKit Go.Proofs
set_option maxRecDepth 100000
theorem hmixK : Tryz.prog.follows .mixedOrders = true := by kernel_rfl
theorem hEK : EnvOk Tryz.prog (Env.of Tryz.prog) := envOk_of _ (by decide +kernel) (by decide +kernel)
theorem graceK : GraceNone Tryz.prog 83 := fun w mb mo r ES clock h1 h2 h3 h4 => grace_none w mb mo r ES clock h1 h2 h3 h4
theorem entersGrace : Enters Tryz.prog 83 := ⟨Tryz.f83, funcGrace, (by intro h; cases h), by decide +kernel⟩
theorem entersCaught : Enters Tryz.prog 307 := ⟨Tryz.f307, funcCaught, (by intro h; cases h), by decide +kernel⟩
theorem run27 : saysTrue (evFn (Env.of Tryz.prog) (graceOrc 83) (caughtD 307) 3000 80 8 [] ⟨.nil, (Env.of Tryz.prog).G⟩) = true := by kernel_rfl
theorem awake27 (w : World) : Calls Tryz.prog 8 #[] w fun e w' => e = .returned (.bool true) ∧ Below w.heap.size w w' := by
  obtain ⟨h', he⟩ := saysTrue_ok run27
  refine (closed_call hEK hmixK (hprog_of hprogK) (graceOrc_ok entersGrace graceK) (caughtD_ok entersCaught caught_none) he (by decide +kernel) w).mono ?_
  rintro e w' ⟨v', τ, rfl, hv, hb⟩
  simp only [VRel] at hv; subst hv
  exact ⟨rfl, hb⟩
#print axioms awake27
end Go.Bx
