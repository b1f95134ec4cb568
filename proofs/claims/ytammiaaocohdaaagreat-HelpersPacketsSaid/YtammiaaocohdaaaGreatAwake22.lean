import Derived.Test.YtammiaaocohdaaaGreatOkS
set_option linter.all false
namespace Go.Bx
open Go Go.RowKit Go.Proofs
set_option maxRecDepth 100000
theorem run22 : saysTrue (evFn (Env.of Tryz.prog) (graceOrc 20) noDorc 3000 80 10 [] ⟨.nil, (Env.of Tryz.prog).G⟩) = true := by kernel_rfl
theorem awake22 (w : World) : Calls Tryz.prog 10 #[] w fun e w' => e = .returned (.bool true) ∧ Below w.heap.size w w' := by
  obtain ⟨h', he⟩ := saysTrue_ok run22
  refine (closed_call (hEK _) hmixK (hprog_of hprogK) (graceOkK _) noDorc_ok he hGK w).mono ?_
  rintro e w' ⟨v', τ, rfl, hv, hb⟩
  simp only [VRel] at hv; subst hv
  exact ⟨rfl, hb⟩
theorem entersAwake22 : Enters Tryz.prog 10 := ⟨Tryz.f10, (by kernel_rfl), (by intro h; cases h), by decide +kernel⟩
end Go.Bx
