import Derived.Test.YtmiebhjpdmokoaaGreatDoorAwake28
set_option linter.all false
namespace Go.Bx
open Go Go.RowKit Go.Proofs
set_option maxRecDepth 100000
noncomputable def noneRun : Bool := saysTrue (evFn (Env.of Tryz.prog) (trueOrc 9) noDorc 300 20 4 [.agg [.top, .top, .top, .top, .top, .top, .top, .top, .top]] ⟨.nil, (Env.of Tryz.prog).G⟩)
theorem runs_none : noneRun = true := by kernel_rfl
/-- KernelNone, of every step. -/
theorem kernelNone_calls (v0 v1 v2 v3 v4 v5 v6 v7 v8 : Value) (w : World) :
    Calls Tryz.prog 4 #[.agg #[v0, v1, v2, v3, v4, v5, v6, v7, v8]] w fun e w' => e = .returned (.bool true) ∧ Below w.heap.size w w' := by
  obtain ⟨h', he⟩ := saysTrue_ok runs_none
  refine (open_call (hEK dullValn) hmixK (hprog_of hprogK) (trueOrc_ok Aw28.enters Aw28.awake) noDorc_ok he hGK w #[.agg #[v0, v1, v2, v3, v4, v5, v6, v7, v8]] (fun σ => ?_)).mono ?_
  · simp only [VRels, VRel]
    exact ⟨_, [], rfl, ⟨_, rfl, v0, _, rfl, trivial, v1, _, rfl, trivial, v2, _, rfl, trivial, v3, _, rfl, trivial, v4, _, rfl, trivial, v5, _, rfl, trivial, v6, _, rfl, trivial, v7, _, rfl, trivial, v8, _, rfl, trivial, rfl⟩, rfl⟩
  · rintro e w' ⟨v', τ, rfl, hv, hb⟩
    simp only [VRel] at hv; subst hv
    exact ⟨rfl, hb⟩
end Go.Bx
