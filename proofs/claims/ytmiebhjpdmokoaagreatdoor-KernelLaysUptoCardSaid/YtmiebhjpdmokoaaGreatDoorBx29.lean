/- A function with a loop whose rounds are counted. -/
import Derived.Test.YtmiebhjpdmokoaaGreatDoorBx28
set_option linter.all false
namespace Go.Bx
open Go.RowKit

/-- The state at the begin of a call that is handed nothing. -/
theorem empty_rel [Valn] {G : Nat} (hG : G ≤ 1000000) (w : World) : HRel G ⟨w, fun _ => false⟩ w.heap.size (fun g => if g < G then some ⟨g, 0, 0⟩ else none) ⟨.nil, G⟩ w := by
  refine ⟨Below.refl _ _, Keeps.refl _, Nat.le_refl _, by show G ≤ _; omega, fun i r hi => ?_, fun g hg => ⟨⟨g, 0, 0⟩, by simp [hg], rfl, rfl⟩, fun i o ho => ?_, fun i hi => by simp at hi, fun i o ho => ?_, fun i j o o' r r' ho => ?_⟩
  · by_cases hlt : i < G
    · exact hlt
    · simp [hlt] at hi
  · cases ho
  · cases ho
  · cases ho

theorem rounds_calls {P : Program} (hmix : P.follows .mixedOrders = true) {ρ : Valn} {E : Env} (hE : @EnvOk ρ P E) (hnd : E.nd = false) (hG : E.G ≤ 1000000) {call : CallF} (hc : @CallOk ρ P E.G call) {cf : Nat} {f : FuncId} {fn : Func} (hf : P.funcs[f]? = some fn) (hn : fn.ntmps ≤ 1000000) {c : Code} (hb : fn.body = some c) (hok : codeOk E c = true)
    {p : Path} {b : Code} (hs : Code.sub c p = some (.loop b)) {tpl : Nat → Tpl} {m : Nat} {id : Nat} {ids : List (Nat × Nat)} {want : V → Bool}
    (h0 : begins E call cf fn [] ⟨.nil, E.G⟩ p (tpl 0) [] ids = true) (h1 : ∀ e, e < m → leads E call fn.ntmps cf b (tpl e) .normal (tpl (e + 1)) [] ids = true) (h2 : leads E call fn.ntmps cf b (tpl m) (.exit id) (tpl m) [] ids = true) (h3 : ends E call cf fn p (tpl m) (.exit id) want = true) (w : World) {R : Ending → World → Prop}
    (hR : ∀ v v' σ w', want v = true → @VRel ρ σ v v' → Below w.heap.size w w' → R (.returned v') w') : Calls P f #[] w R := by
  letI := ρ
  have hbok : codeOk E b = true := codeOk_sub (part := .loop b) c p hok hs
  refine loop_calls hmix hE hnd hc hf hn hb hok hs h0 (movesNone ρ) (fun _ => rfl) (empty_rel hG w) (args' := #[]) (by simp [VRels]) (fun a w' hA => ?_)
  refine wpIn_loop_rounds (m + 1) (rounds_ok (fun d a w' => d ≤ m ∧ At ρ fn.ntmps E.G ⟨w, fun _ => false⟩ w.heap.size (tpl (m - d)) a w') ?_ ?_ m a w' ⟨Nat.le_refl _, by rw [Nat.sub_self]; exact hA⟩)
  · rintro a w' ⟨_, hA⟩
    rw [Nat.sub_zero] at hA
    exact leads_ok hmix hE hnd hc hn h2 hbok (movesNone _) (fun _ => rfl) hA (fun a2 w2 h => ends_ok hmix hE hnd hc hn hb hok h3 h hR)
  · rintro d a w' ⟨hd, hA⟩
    have := h1 (m - (d + 1)) (by omega)
    rw [show m - (d + 1) + 1 = m - d by omega] at this
    exact leads_ok hmix hE hnd hc hn this hbok (movesNone _) (fun _ => rfl) hA (fun a2 w2 h => ⟨by omega, h⟩)

def isTrue : V → Bool
  | .bool b => b
  | _ => false
theorem isTrue_ok [Valn] {v : V} {v' : Value} {σ : Sub} (h : isTrue v = true) (hv : VRel σ v v') : v' = .bool true := by
  unfold isTrue at h
  split at h
  · subst h; simpa only [VRel] using hv
  · cases h
end Go.Bx
