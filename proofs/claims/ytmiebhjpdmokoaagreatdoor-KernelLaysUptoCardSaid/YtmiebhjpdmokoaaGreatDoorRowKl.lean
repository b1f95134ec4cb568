/- For every number, list of numbers and text (of bulk at most 1048576) the law KernelLays answers true, and its arguments read afterwards as before. Conditions: the two listed package variables begin as the program lays them. -/
import Derived.Test.YtmiebhjpdmokoaaGreatDoorCards
import Derived.Test.YtmiebhjpdmokoaaGreatDoorTiedKl
import Derived.Test.YtmiebhjpdmokoaaGreatDoorLiftKl
import Derived.Stop.Joined
import Derived.SevenTiedAt
import Derived.KernelRfl
set_option linter.all false
set_option linter.all false
namespace Go.Proofs.YtmiebhjpdmokoaaGreatDoor.kernelLays
open Go Go.ChangeShapes Go.WideShapes Go.RowKit
set_option maxRecDepth 100000
set_option maxHeartbeats 0
theorem facts : joinedFacts Tryz.prog 3 Tryz.f3 (Rows.OpenSpec.upto Rows.kernelLaysSpec).bare Rows.kernelLaysUptoRow = true := by
  unfold joinedFacts
  simp only [Bool.and_eq_true]
  repeat' refine And.intro ?_ ?_
  all_goals first | (with_reducible exact laidOut) | (as_aux_lemma => kernel_rfl)
theorem named : Tryz.prog.funcNamed "portcullis/portcullislaw28.KernelLays" = some 3 := by kernel_rfl
theorem inst : decide (Tryz.f3.isInstance Tryz.prog Rows.kernelLaysUptoRow.origin Rows.kernelLaysUptoRow.targs) = true := by kernel_rfl
theorem wrap : Tryz.f3.isWrapper Tryz.prog Rows.kernelLaysUptoRow.wrapper Rows.kernelLaysUptoRow.mainSum := by
  unfold Func.isWrapper
  first | (rw [if_pos (by decide +kernel)]; kernel_rfl) | (rw [if_neg (by decide +kernel)]; exact ⟨rfl, rfl⟩)
theorem wf : Rows.kernelLaysUptoRow.wfByText (Rows.OpenSpec.upto Rows.kernelLaysSpec) = true := by kernel_rfl
theorem mainIs : Tryz.prog.mainIs = some (Rows.kernelLaysUptoCard.stood.harness.1, Rows.kernelLaysUptoCard.stood.harness.2.toList) := by kernel_rfl
/-- No function of the program from 40 i on starts another goroutine. -/
def calmFrom (P : Program) (i : Nat) : Bool := (List.range' (40 * i) 40).all fun g => !((P.funcs[g]?).any Func.goes)
theorem calm0 : calmFrom Tryz.prog 0 = true := by kernel_rfl
theorem calm1 : calmFrom Tryz.prog 1 = true := by kernel_rfl
theorem calm2 : calmFrom Tryz.prog 2 = true := by kernel_rfl
theorem calm3 : calmFrom Tryz.prog 3 = true := by kernel_rfl
theorem calm4 : calmFrom Tryz.prog 4 = true := by kernel_rfl
theorem calm5 : calmFrom Tryz.prog 5 = true := by kernel_rfl
theorem calm6 : calmFrom Tryz.prog 6 = true := by kernel_rfl
theorem calm7 : calmFrom Tryz.prog 7 = true := by kernel_rfl
theorem calm8 : calmFrom Tryz.prog 8 = true := by kernel_rfl
theorem calm9 : calmFrom Tryz.prog 9 = true := by kernel_rfl
theorem calm10 : calmFrom Tryz.prog 10 = true := by kernel_rfl
theorem calm11 : calmFrom Tryz.prog 11 = true := by kernel_rfl
theorem calm12 : calmFrom Tryz.prog 12 = true := by kernel_rfl
theorem calm13 : calmFrom Tryz.prog 13 = true := by kernel_rfl
theorem calm14 : calmFrom Tryz.prog 14 = true := by kernel_rfl
theorem calmAll : ∀ i, i < 15 → calmFrom Tryz.prog i = true
  | 0, _ => calm0
  | 1, _ => calm1
  | 2, _ => calm2
  | 3, _ => calm3
  | 4, _ => calm4
  | 5, _ => calm5
  | 6, _ => calm6
  | 7, _ => calm7
  | 8, _ => calm8
  | 9, _ => calm9
  | 10, _ => calm10
  | 11, _ => calm11
  | 12, _ => calm12
  | 13, _ => calm13
  | 14, _ => calm14
  | k + 15, h => absurd h (by omega)
theorem fewFuncs : Tryz.prog.funcs.size ≤ 40 * 15 := by decide +kernel
theorem calmOne (g : Nat) : (Tryz.prog.funcs[g]?).any Func.goes = false := by
  by_cases hg : g < Tryz.prog.funcs.size
  · have h1 := fewFuncs
    have h2 := calmAll (g / 40) (by omega)
    unfold calmFrom at h2
    rw [List.all_eq_true] at h2
    have h3 := h2 g (by rw [List.mem_range'_1]; omega)
    rw [Bool.not_eq_true'] at h3
    exact h3
  · have : Tryz.prog.funcs[g]? = none := by rw [Array.getElem?_eq_none_iff]; omega
    rw [this]; rfl
theorem calmFuncs : Tryz.prog.funcs.any Func.goes = false := by
  rw [Array.any_eq_false]
  intro i hi
  have h1 := calmOne i
  rw [Array.getElem?_eq_getElem hi, Option.any_some] at h1
  rw [h1]; exact Bool.false_ne_true
theorem calm (f : FuncId) : Tryz.prog.goes f = false := by
  unfold Program.goes
  rw [calmFuncs, Bool.and_false, Bool.or_false, List.any_eq_false]
  intro g _
  rw [calmOne g]; exact Bool.false_ne_true
theorem goes : false = Rows.kernelLaysUptoRow.goesBy Tryz.prog := by
  unfold OpenClaim.goesBy Program.goesAt Program.goesFrom
  have h1 : (Tryz.prog.funcNamed Rows.kernelLaysUptoRow.func).any Tryz.prog.goes = false := by
    cases Tryz.prog.funcNamed Rows.kernelLaysUptoRow.func with
    | none => rfl
    | some f => rw [Option.any_some, calm f]
  rw [h1]; rfl
theorem looks : true = Tryz.prog.looks [] := by kernel_rfl
theorem standIn0 : Tryz.prog.wantsStandIn 3 = false := by kernel_rfl
theorem standIn1 : Tryz.prog.wantsStandIn 22 = false := by kernel_rfl
theorem standIn2 : Tryz.prog.wantsStandIn 9 = false := by kernel_rfl
theorem said : Rows.KernelLaysUptoSaid :=
  OpenClaim.holds_of_cond 3 Tryz.f3 rfl rfl rfl rfl rfl rfl rfl ⟨rfl, rfl, rfl, rfl, rfl⟩ rfl rfl rfl rfl rfl named funcNone facts
    (of_decide_eq_true inst) wrap
    (fun os started H enc _ F => by rw [OpenClaim.pre_eq_preRow]; exact lifted os started H enc F)

theorem plain (f : FuncId) (fn : Func) (hf : Tryz.pinned.checked.prog.funcNamed "portcullis/portcullislaw28.KernelLays" = some f) (hfn : Tryz.pinned.checked.prog.funcs[f]? = some fn) :
    true = Tryz.pinned.checked.prog.looks [] ∧ ∀ (j : Nat) t, fn.params[j]? = some t → Tryz.pinned.checked.prog.wantsStandIn t = false := by
  obtain rfl : f = 3 := Option.some.inj (named.symm.trans hf) |>.symm
  obtain rfl : fn = Tryz.f3 := (Option.some.inj (funcNone.symm.trans hfn)).symm
  refine ⟨looks, fun j t ht => ?_⟩
  rw [paramsNone] at ht
  have hm := Array.mem_of_getElem? ht
  simp only [List.mem_toArray, List.mem_cons, List.not_mem_nil, or_false] at hm
  rcases hm with rfl | rfl | rfl
  · exact standIn0
  · exact standIn1
  · exact standIn2

/-- THE CARD. -/
theorem card : Rows.KernelLaysUptoCardSaid :=
  Claim7.holds_tied_plain_at .later [] _ _ _ _ said (fun _ h => by cases h) wf (fun _ h => by cases h) tiedKl.row_tie rfl ⟨rfl, rfl⟩ mainIs rfl plain goes
end Go.Proofs.YtmiebhjpdmokoaaGreatDoor.kernelLays
