/- Calls with arguments that point nowhere known, and the oracle of a function that is true and leaves all as it was. -/
import Derived.Test.YtmiebhjpdmokoaaGreatDoorBx21
set_option linter.all false
namespace Go.Bx
open Go.RowKit
variable [Valn]

theorem open_call {P : Program} {E : Env} (hE : EnvOk P E) (hmix : P.follows .mixedOrders = true) (hprog : ∀ (f : FuncId) (fn : Func) (c : Code), P.funcs[f]? = some fn → fn.body = some c → codeOk E c = true ∧ fn.name ≠ "runtime.NumGoroutine") {orc : CallF} {dorc : FuncId → List V → Hp → Option Hp} (ho : CallOk P E.G orc) (hd : DCallOk P E.G dorc) {cf d : Nat} {f : FuncId} {args : List V} {v : V} {h' : Hp} (he : evFn E orc dorc cf d f args ⟨.nil, E.G⟩ = some (v, h')) (hG : E.G ≤ 1000000) (w : World) (args' : Array Value) (hr : ∀ σ, VRels σ args args'.toList) :
    Calls P f args' w fun e w' => ∃ v' τ, e = .returned v' ∧ VRel τ v v' ∧ Below w.heap.size w w' := by
  obtain ⟨_, hcon⟩ := evFn_ok hE hmix hprog ho hd cf d f args _ v h' he
  have hH : HRel E.G ⟨w, fun _ => false⟩ w.heap.size (fun g => if g < E.G then some ⟨g, 0, 0⟩ else none) ⟨.nil, E.G⟩ w := by
    refine ⟨Below.refl _ _, Keeps.refl _, Nat.le_refl _, by show E.G ≤ _; omega, fun i r hi => ?_, fun g hg => ⟨⟨g, 0, 0⟩, by simp [hg], rfl, rfl⟩, fun i o ho => ?_, fun i hi => by simp at hi, fun i o ho => ?_, fun i j o o' r r' ho => ?_⟩
    · by_cases hlt : i < E.G
      · exact hlt
      · simp [hlt] at hi
    · cases ho
    · cases ho
    · cases ho
  refine (hcon ⟨w, fun _ => false⟩ w.heap.size _ w args' hH (hr _)).mono ?_
  rintro e w' ⟨v', τ, rfl, _, hH', hv⟩
  exact ⟨v', τ, rfl, hv, hH'.below⟩

/-- A function that is true. -/
def trueOrc (fA : FuncId) : CallF := fun f args h =>
  match Nat.beq f fA, args with
  | true, [] => some (.bool true, h)
  | _, _ => none

theorem trueOrc_ok {P : Program} {G : Nat} {fA : FuncId} (hf : Enters P fA) (hA : ∀ w, Calls P fA #[] w fun e w' => e = .returned (.bool true) ∧ Below w.heap.size w w') : CallOk P G (trueOrc fA) := by
  intro f args h v h' he
  unfold trueOrc at he
  split at he
  case h_2 => cases he
  rename_i hb
  have hb := Nat.eq_of_beq_eq_true hb
  subst hb
  cases he
  refine ⟨hf, fun w0 B σ w args' hH hr => ?_⟩
  simp only [VRels] at hr
  have ha : args' = #[] := by apply Array.ext'; simpa using hr
  subst ha
  refine (hA w).mono ?_
  rintro e w' ⟨rfl, hb⟩
  exact ⟨_, σ, rfl, Sub.le_refl _, hH.later hb, by simp [VRel]⟩
end Go.Bx
