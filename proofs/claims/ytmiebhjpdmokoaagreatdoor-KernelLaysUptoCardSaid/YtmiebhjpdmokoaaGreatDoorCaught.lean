import Derived.Test.YtmiebhjpdmokoaaGreatDoorProg
import Derived.Test.YtmiebhjpdmokoaaGreatDoorBx29
import Derived.RecoverIn
import Derived.WalkKit
import Derived.ProofKit
import Derived.Outline
set_option linter.all false
namespace Go.Bx
open Go Go.RowKit Go.Proofs
variable [Valn]
theorem funcCaught : Tryz.prog.funcs[297]? = some Tryz.f297 := by kernel_rfl
theorem ntmpsCaught : Tryz.f297.ntmps = 15 := by kernel_rfl
theorem wpOpsSIn_recover {P : Program} {ops : Array Oper} {Q : Exit → Act → List Frame → World → Prop} {i : Nat} {rest : List Nat} {a : Act} {cs : List Frame} {w : World} {o : Oper} (ho : ops[i]? = some o)
    (hr : (execOp a.eval o).run P w = .ok .recover w) (hg : o.guard = none) (hcs : recoverD cs = none) (h : wpOpsSIn (fw none) 0 P ops Q rest (a.put o.dst .nilIface) cs w) : wpOpsSIn (fw none) 0 P ops Q (i :: rest) a cs w := by
  have hw : Region.wanted o (yielded ops a.tmps) = true := by simp [Region.wanted, hg]
  simp only [wpOpsSIn, ho, hw, if_true, hr, hcs]
  exact ⟨fun _ _ => trivial, h⟩
set_option maxRecDepth 100000 in
theorem caught_none (v : Value) (w : World) : CallsDIn (fw none) 0 Tryz.prog 297 #[v] .returning w fun e u' w' => e = .returned (.tuple #[]) ∧ u' = .returning ∧ w' = w := by
  refine callsDIn_of_wpSIn (F := fw none) (n := 0) funcCaught (c := _) rfl trivial ?_
  rintro c₀ cs hm
  refine wpSIn_seq (wpSIn_region ?_)
  refine wpOpsSIn_recover (i := 0) (rest := []) rfl rfl rfl (by simp [recoverD, hm]) ?_
  show Code.wpSIn _ _ _ _ _ _ _ _
  refine wpSIn_of_wpIn rfl (wpIn_wide.2 ?_)
  rw [ntmpsCaught]
  go_wp2
  refine ⟨rfl, .returning, ?_, .tuple #[], ?_, rfl, rfl, rfl⟩
  · cases c₀; cases hm; rfl
  · simp [results]

/-- The table of put-off calls: access.caught, where nothing panics. -/
def caughtD (fC : FuncId) : FuncId → List V → Hp → Option Hp := fun f args h =>
  match Nat.beq f fC, args with
  | true, [_] => some h
  | _, _ => none

theorem caughtD_ok {P : Program} {G : Nat} {fC : FuncId} (hf : Enters P fC) (hC : ∀ (v : Value) (w : World), CallsDIn (fw none) 0 P fC #[v] .returning w fun e u' w' => e = .returned (.tuple #[]) ∧ u' = .returning ∧ w' = w) : DCallOk P G (caughtD fC) := by
  intro f args h h' he
  unfold caughtD at he
  split at he
  case h_2 => cases he
  rename_i x hb
  have hb := Nat.eq_of_beq_eq_true hb
  subst hb
  cases he
  refine ⟨hf, fun w0 B σ w args' hH hr => ?_⟩
  simp only [VRels] at hr
  obtain ⟨v', l', e1, _, rfl⟩ := hr
  have ha : args' = #[v'] := array_one e1
  subst ha
  refine (hC v' w).mono ?_
  rintro e u' w' ⟨rfl, rfl, rfl⟩
  exact ⟨_, σ, rfl, rfl, Sub.le_refl _, hH⟩
end Go.Bx
