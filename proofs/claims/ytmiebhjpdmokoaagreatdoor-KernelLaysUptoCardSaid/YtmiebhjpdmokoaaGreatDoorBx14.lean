/- One operation beside the model's; a region in the order of the text. -/
import Derived.Test.YtmiebhjpdmokoaaGreatDoorBx13
set_option linter.all false
namespace Go.Bx
open Go.RowKit
variable [Valn]

def Enters (P : Program) (f : FuncId) : Prop := ∃ fn, P.funcs[f]? = some fn ∧ fn.body ≠ none ∧ fn.name ≠ "runtime.NumGoroutine"

theorem run_callFunc {P : Program} {f : FuncId} (h : Enters P f) (args : Array Value) (w : World) : (callFunc f args).run P w = .ok (.enter f args) w := by
  obtain ⟨fn, h1, h2, h3⟩ := h
  simp [callFunc, h1, h3, h2]

/-- What a table of calls must be good for. -/
def CallOk (P : Program) (G : Nat) (call : CallF) : Prop :=
  ∀ f args h v h', call f args h = some (v, h') → Enters P f ∧ ∀ w0 B σ w (args' : Array Value), HRel G w0 B σ h w → VRels σ args args'.toList →
    Calls P f args' w fun e w' => ∃ v' τ, e = .returned v' ∧ σ.le τ ∧ HRel G w0 B τ h' w' ∧ VRel τ v v'

def DRel (m : Nat) (σ : Sub) : DL → List Deferred → Prop
  | [], l => l = []
  | .fn f args :: ds, l => ∃ d l' cap, l = d :: l' ∧ d.target = .fn (.func f) cap ∧ VRels σ args (d.args.toList ++ cap.toList) ∧ DRel m σ ds l'
  | .coll b :: ds, l => ∃ r l', l = { target := .collected r.block, args := #[] } :: l' ∧ σ b = some r ∧ m ≤ r.block ∧ DRel m σ ds l'

theorem DRel.mono {m : Nat} {σ τ : Sub} (h : σ.le τ) : ∀ (ds : DL) (l : List Deferred), DRel m σ ds l → DRel m τ ds l
  | [], _, k => by simpa [DRel] using k
  | .fn f args :: ds, l, k => by
    simp only [DRel] at k ⊢
    obtain ⟨d, l', cap, e, a, b, c⟩ := k
    exact ⟨d, l', cap, e, a, VRels.mono h _ _ b, DRel.mono h ds l' c⟩
  | .coll b :: ds, l, k => by
    simp only [DRel] at k ⊢
    obtain ⟨r, l', e, a, q, c⟩ := k
    exact ⟨r, l', e, h _ _ a, q, DRel.mono h ds l' c⟩

section
variable {P : Program} {E : Env} (hE : EnvOk P E) {σ : Sub}
theorem run_invoke_method {t : TypeId} {x r : Value} {name : String} {f : FuncId} {w : World} (hm : (method (P.types.size + Made.depth) t x name).run P w = .ok (f, r) w) (hf : Enters P f) (cap args : Array Value) :
    (invoke (.fn (.method name) cap) (#[.iface t x] ++ args)).run P w = .ok (.enter f (#[r] ++ args)) w := by
  have h0 : (#[Value.iface t x] ++ args)[0]? = some (.iface t x) := by
    rw [Array.getElem?_append_left (by simp)]; rfl
  have h1 : (#[Value.iface t x] ++ args).extract 1 (#[Value.iface t x] ++ args).size = args := by
    apply Array.ext'; simp
  simp only [invoke, h0, h1, callMethod, Sem.run_bind, run_program, Result.andThen_ok, hm]
  exact run_callFunc hf _ _

theorem methodOf_ok {t : TypeId} {v : V} {name : String} {f : FuncId} {v2 : V} (hE : EnvOk P E) (hm : methodOf E t v name = some (f, v2)) {x' : Value} (w : World) :
    (method (P.types.size + Made.depth) t x' name).run P w = .ok (f, x') w := by
  unfold methodOf at hm
  cases hi : E.info t with
  | none => simp [hi] at hm
  | some i =>
    simp only [hi] at hm
    have hi' : P.info? t = some i := hE.types t i hi
    have hfind : ∀ l : List Method, methodOf.findM name l = l.find? (·.name == name) := by
      intro l
      induction l with
      | nil => rfl
      | cons m l ih =>
        simp only [methodOf.findM, List.find?_cons]
        cases m.name == name <;> simp [ih]
    rw [hfind] at hm
    cases hfm : i.methods.toList.find? (·.name == name) with
    | none => simp [hfm] at hm
    | some m =>
      simp only [hfm] at hm
      have hfm' : i.methods.find? (·.name == name) = some m := by rw [← hfm]; exact (Array.find?_toList).symm
      obtain ⟨q, hq⟩ : ∃ q, P.types.size + Made.depth = q + 1 := ⟨P.types.size + 99, rfl⟩
      rw [hq]
      split at hm
      · rename_i f3 el hp hfu hu
        cases hm
        simp [method, typeInfo, run_program, hi', hfm', hp, follow, hfu, receiverAt, run_und hE hu, Place.get]
      · cases hm
      · rename_i f3 d hnp hp hfu hu
        cases hm
        simp only [method, typeInfo, Sem.run_bind, run_program, Result.andThen_ok, hi', Sem.run_pure, hfm', hp, follow, hfu, receiverAt, run_und hE hu]
        cases d <;> first | (simp [Place.get]; done) | exact (hnp _ rfl).elim
      · cases hm

theorem target_ok {o : Op} {ρ : Operand → V} {ρ' : Operand → Value} (hρ : ∀ x, VRel σ (ρ x) (ρ' x)) {f : FuncId} {args : List V} (ht : target E o ρ = some (f, args)) (hf : Enters P f) (ty : TypeId) (dst : Option Tmp) (pos : String) (after : Array Edge) (guard : Option (Nat × Bool)) (w : World) (hE : EnvOk P E) :
    ∃ args' : Array Value, (execOp ρ' ⟨dst, o, ty, pos, after, guard⟩).run P w = .ok (.enter f args') w ∧ VRels σ args args'.toList := by
  unfold target at ht
  split at ht
  · rename_i g as tys
    have hg := hρ g
    split at ht
    · rename_i k first captured hk
      cases ht
      rw [hk] at hg; simp only [VRel] at hg
      obtain ⟨f', c', e, h1, h2⟩ := hg
      refine ⟨f' ++ as.map ρ' ++ c', ?_, ?_⟩
      · simp [execOp, resolve, Deferred.ofValue, e, invoke, run_callFunc hf]
      · have := (h1.append (VRels.map hρ as.toList)).append h2
        simpa using this
    · cases ht
  · rename_i r name as tys
    have hr := hρ r
    split at ht
    · rename_i t v hk
      rw [hk] at hr; simp only [VRel] at hr
      obtain ⟨x', e, hx⟩ := hr
      split at ht
      · rename_i f2 v2 hm
        cases ht
        refine ⟨#[x'] ++ as.map ρ', ?_, ?_⟩
        · have hmr := methodOf_ok (P := P) hE hm (x' := x') w
          simp only [execOp, resolve, e, Sem.run_bind, Sem.run_pure, Result.andThen_ok]
          exact run_invoke_method hmr hf _ _
        · simp only [Array.toList_append, List.cons_append, List.nil_append, VRels]
          refine ⟨x', _, rfl, ?_, by simpa using VRels.map hρ as.toList⟩
          unfold methodOf at hm
          cases hi : E.info t with
          | none => simp [hi] at hm
          | some i =>
            simp only [hi] at hm
            split at hm
            · cases hm
            · split at hm <;> first | (cases hm; done) | (cases hm; exact hx)
      · cases ht
    · cases ht
  · cases ht
end
end Go.Bx
