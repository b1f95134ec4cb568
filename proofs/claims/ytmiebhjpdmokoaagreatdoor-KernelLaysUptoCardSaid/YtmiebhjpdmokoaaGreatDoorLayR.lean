/- KernelLays: the runs of its two functions, and the law. -/
import Derived.Test.YtmiebhjpdmokoaaGreatDoorAwake28
import Derived.Test.YtmiebhjpdmokoaaGreatDoorLayO
set_option linter.all false
namespace Go.Bx.Lay
open Go Go.Bx Go.RowKit Go.Proofs
set_option maxRecDepth 100000
def path : Path := [.r, .r, .l, .r, .d]
noncomputable def codeL : Code := match Tryz.f7.body with | some c => c | none => .skip
noncomputable def bodyL : Code := match Code.sub codeL path with | some (.loop b) => b | _ => .skip
noncomputable def codeM : Code := match Tryz.f17.body with | some c => c | none => .skip
noncomputable def bodyM : Code := match Code.sub codeM path with | some (.loop b) => b | _ => .skip
theorem gIs : (Env.of Tryz.prog).G = 5 := by kernel_rfl
theorem runsL : Runs Tryz.prog callK 3000 7 Tryz.f7 codeL bodyL path 24 (tplL 5 24) factsA factsL 0 (ids 5 3) (idsL 5) (ids 5 3) :=
  ⟨by kernel_rfl, by kernel_rfl, by decide +kernel, by kernel_rfl, by kernel_rfl, by kernel_rfl, by kernel_rfl, by kernel_rfl⟩
theorem runsM : Runs Tryz.prog callK 3000 17 Tryz.f17 codeM bodyM path 24 (tplM 5 24) factsA factsM 0 (ids 5 2) (ids 5 2) (ids 5 2) :=
  ⟨by kernel_rfl, by kernel_rfl, by decide +kernel, by kernel_rfl, by kernel_rfl, by kernel_rfl, by kernel_rfl, by kernel_rfl⟩
theorem entersL : Enters Tryz.prog 7 := ⟨Tryz.f7, (by kernel_rfl), (by intro h; cases h), by decide +kernel⟩
theorem entersM : Enters Tryz.prog 17 := ⟨Tryz.f17, (by kernel_rfl), (by intro h; cases h), by decide +kernel⟩
theorem contractL : Contract Tryz.prog 7 := fun ns Tl cm hw hT h1 h2 _ _ hv =>
  lay_calls hmixK hprogK hEK callOkK hGK runsL ns Tl cm hw hT h1 h2 (fun k hk => facts_L ns Tl cm k (by omega) hw hk h1) hv
theorem contractM : Contract Tryz.prog 17 := fun ns Tl cm hw hT h1 h2 _ _ hv =>
  lay_calls hmixK hprogK hEK callOkK hGK runsM ns Tl cm hw hT h1 h2 (fun k hk => facts_M ns Tl cm k (by omega) hw hk h1) hv
theorem runK : saysTrue (evFn ((Env.of Tryz.prog).with factsK) (orElse (layOrc [7, 17]) (trueOrc 9)) noDorc 300 20 3 (argsK (Env.of Tryz.prog).G) ⟨T.set 40 .nil (Env.of Tryz.prog).G (arg0 (Env.of Tryz.prog).G), (Env.of Tryz.prog).G + 1⟩) = true := by kernel_rfl
theorem runZ : saysTrue (evFn ((Env.of Tryz.prog).with []) (orElse (layOrc [7, 17]) (trueOrc 9)) noDorc 300 20 3 (argsZ (Env.of Tryz.prog).G) ⟨.nil, (Env.of Tryz.prog).G⟩) = true := by kernel_rfl
theorem kernelLays_calls (ns Tl : List Int) (cm : Int) (hw : ns.map (wrapK .i64) = ns) (hT : Tl.map (wrapK .u8) = Tl) (h1 : ns.length ≤ 10000000) (h2 : Tl.length ≤ 10000000) {w : World} {v : Value} (hv : Lies w v ns) :
    Calls Tryz.prog 3 #[.int .i64 cm, v, .string ⟨⟨asBytes Tl⟩⟩] w fun e w' => e = .returned (.bool true) ∧ Below w.heap.size w w' := by
  refine law_calls hmixK hprogK hEK hGK (fs := [7, 17]) ?_ ?_ (fun ρ => @trueOrc_ok ρ _ _ _ Aw28.enters Aw28.awake) runK runZ ns Tl cm hw hT h1 h2 hv
  · intro f hf
    simp only [List.mem_cons, List.not_mem_nil, or_false] at hf
    rcases hf with rfl | rfl
    · exact entersL
    · exact entersM
  · intro f hf
    simp only [List.mem_cons, List.not_mem_nil, or_false] at hf
    rcases hf with rfl | rfl
    · exact contractL
    · exact contractM
end Go.Bx.Lay
