import Derived.Test.YtmiebhjpdmokoaaGreatDoorOk4
set_option linter.all false
namespace Go.Bx.Aw28
open Go Go.Bx Go.RowKit Go.Proofs
set_option maxRecDepth 100000
def path : Path := [.r, .l, .r, .d]
noncomputable def E0 : Env := (Env.of Tryz.prog).with []
noncomputable def code : Code := match Tryz.f9.body with | some c => c | none => .skip
noncomputable def body : Code := match Code.sub code path with | some (.loop b) => b | _ => .skip
def tpl (e : Nat) : Tpl := ⟨.top :: .int .i64 (Int.ofNat e) :: List.replicate (42 - 2) .top, [], 5⟩
def ids : List (Nat × Nat) := (List.range 5).map fun i => (i, i)
theorem funcIs : Tryz.prog.funcs[9]? = some Tryz.f9 := by kernel_rfl
theorem bodyIs : Tryz.f9.body = some code := by kernel_rfl
theorem subIs : Code.sub code path = some (.loop body) := by kernel_rfl
theorem run_b : begins E0 (callK E0) 3000 Tryz.f9 [] ⟨.nil, E0.G⟩ path (tpl 0) [] ids = true := by kernel_rfl
theorem run_0 : leads E0 (callK E0) Tryz.f9.ntmps 3000 body (tpl 0) .normal (tpl 1) [] ids = true := by kernel_rfl
theorem run_1 : leads E0 (callK E0) Tryz.f9.ntmps 3000 body (tpl 1) .normal (tpl 2) [] ids = true := by kernel_rfl
theorem run_2 : leads E0 (callK E0) Tryz.f9.ntmps 3000 body (tpl 2) .normal (tpl 3) [] ids = true := by kernel_rfl
theorem run_3 : leads E0 (callK E0) Tryz.f9.ntmps 3000 body (tpl 3) (.exit 0) (tpl 3) [] ids = true := by kernel_rfl
theorem run_e : ends E0 (callK E0) 3000 Tryz.f9 path (tpl 3) (.exit 0) isTrue = true := by kernel_rfl
theorem run_all : ∀ e, e < 3 → leads E0 (callK E0) Tryz.f9.ntmps 3000 body (tpl e) .normal (tpl (e + 1)) [] ids = true
  | 0, _ => run_0
  | 1, _ => run_1
  | 2, _ => run_2
  | _ + 3, h => absurd h (by omega)
theorem awake (w : World) : Calls Tryz.prog 9 #[] w fun e w' => e = .returned (.bool true) ∧ Below w.heap.size w w' := by
  refine rounds_calls (E := E0) hmixK (ρ := dullValn) (@EnvOk.with' dullValn _ _ (hEK dullValn) [] (fun l r h => by cases h)) rfl hGK (callOkK dullValn [] trivial) funcIs (by decide +kernel) bodyIs (hprogE [] 9 _ _ funcIs bodyIs).1 subIs run_b run_all run_3 run_e w ?_
  intro v v' σ w' hv hr hb
  exact ⟨by rw [isTrue_ok hv hr], hb⟩
theorem enters : Enters Tryz.prog 9 := ⟨Tryz.f9, (by kernel_rfl), (by intro h; cases h), by decide +kernel⟩
end Go.Bx.Aw28
