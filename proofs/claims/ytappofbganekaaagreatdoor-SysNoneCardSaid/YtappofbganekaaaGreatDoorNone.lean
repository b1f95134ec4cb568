import Derived.Test.YtappofbganekaaaGreatDoorAwake
set_option linter.all false
namespace Go.Bx
open Go Go.RowKit Go.Proofs
set_option maxRecDepth 100000

def nums : List Int := [0, 1, 2, 3, 4, 5, 6, 7, 8, 9, 18, 21, 100, 101, 102]
/-- The cases: the kind, the command's number. -/
def stepV (k c : V) : V := .agg [k, c, .top, .top, .top, .top, .top, .top, .top]
noncomputable def noneRun (k c : V) : Bool := saysTrue (evFn (Env.of Tryz.prog) (trueOrc 8) noDorc 300 20 3 [stepV k c] ⟨.nil, (Env.of Tryz.prog).G⟩)
theorem runs_kind : ([2, 3, 4, 5, 6].all fun k => noneRun (.int .i64 k) .top) = true := by kernel_rfl
theorem runs_other : noneRun (.intNot .i64 [1, 2, 3, 4, 5, 6]) .top = true := by kernel_rfl
theorem runs_num : (nums.all fun c => noneRun (.int .i64 1) (.int .i64 c)) = true := by kernel_rfl
theorem runs_num_other : noneRun (.int .i64 1) (.intNot .i64 nums) = true := by kernel_rfl

theorem entersAwake : Enters Tryz.prog 8 := ⟨Tryz.f8, (by kernel_rfl), (by intro h; cases h), by decide +kernel⟩

theorem none_of {k c : V} (h : noneRun k c = true) {k' c' : Value} (hk : ∀ σ, VRel σ k k') (hc : ∀ σ, VRel σ c c') (v2 v3 v4 v5 v6 v7 v8 : Value) (w : World) :
    Calls Tryz.prog 3 #[.agg #[k', c', v2, v3, v4, v5, v6, v7, v8]] w fun e w' => e = .returned (.bool true) ∧ Below w.heap.size w w' := by
  obtain ⟨h', he⟩ := saysTrue_ok h
  refine (open_call hEK hmixK (hprog_of hprogK) (trueOrc_ok entersAwake awake27) noDorc_ok he (by decide +kernel) w #[.agg #[k', c', v2, v3, v4, v5, v6, v7, v8]] (fun σ => ?_)).mono ?_
  · simp only [VRels, stepV, VRel]
    exact ⟨_, [], rfl, ⟨_, rfl, k', _, rfl, hk σ, c', _, rfl, hc σ, v2, _, rfl, trivial, v3, _, rfl, trivial, v4, _, rfl, trivial, v5, _, rfl, trivial, v6, _, rfl, trivial, v7, _, rfl, trivial, v8, _, rfl, trivial, rfl⟩, rfl⟩
  · rintro e w' ⟨v', τ, rfl, hv, hb⟩
    simp only [VRel] at hv; subst hv
    exact ⟨rfl, hb⟩

/-- SysNone, of every step. -/
theorem sysNone_calls (k c : Int) (v2 v3 v4 v5 v6 v7 v8 : Value) (w : World) :
    Calls Tryz.prog 3 #[.agg #[.int .i64 k, .int .i64 c, v2, v3, v4, v5, v6, v7, v8]] w fun e w' => e = .returned (.bool true) ∧ Below w.heap.size w w' := by
  by_cases h1 : k = 1
  · subst h1
    by_cases hc : c ∈ nums
    · exact none_of (List.all_eq_true.1 runs_num c hc) (fun σ => by simp [VRel]) (fun σ => by simp [VRel]) _ _ _ _ _ _ _ w
    · exact none_of runs_num_other (fun σ => by simp [VRel]) (fun σ => by simp only [VRel]; exact ⟨c, rfl, hc⟩) _ _ _ _ _ _ _ w
  · by_cases h2 : k ∈ ([2, 3, 4, 5, 6] : List Int)
    · exact none_of (List.all_eq_true.1 runs_kind k h2) (fun σ => by simp [VRel]) (fun σ => by simp [VRel]) _ _ _ _ _ _ _ w
    · refine none_of runs_other (fun σ => ?_) (fun σ => by simp [VRel]) _ _ _ _ _ _ _ w
      simp only [VRel]
      exact ⟨k, rfl, by simp at h2 ⊢; exact ⟨h1, h2⟩⟩
#print axioms sysNone_calls
end Go.Bx
