/- Pieces of a function: from template to template. -/
import Derived.Test.YtmiebhjpdmokoaaGreatDoorBx24
set_option linter.all false
namespace Go.Bx
open Go.RowKit

/-- A template's state is there. -/
def At (ρ : Valn) (nt G : Nat) (w0 : Base) (B : Nat) (p : Tpl) (a : Act) (w : World) : Prop := ∃ σ, @SRel ρ nt G w0 B σ (getT p.tms) p.hp [] a w

def exBeq : Ex → Ex → Bool
  | .normal, .normal => true
  | .ret, .ret => true
  | .exit a, .exit b => Nat.beq a b
  | _, _ => false

theorem exBeq_eq {a b : Ex} (h : exBeq a b = true) : a = b := by
  cases a <;> cases b <;> simp only [exBeq] at h <;> first | (cases h; done) | rfl | (rw [Nat.eq_of_beq_eq_true h])

/-- A piece leads from a template to an instance of another. -/
def leads (E : Env) (call : CallF) (nt cf : Nat) (c : Code) (p : Tpl) (ex : Ex) (q : Tpl) (s : List (Nat × SX)) (πl : List (Nat × Nat)) : Bool :=
  match evCode E call nt cf c p.tms p.hp [] with
  | some (ex', tm', h', []) => exBeq ex' ex && okSt E.rw s πl E.G nt q tm' h'
  | _ => false

theorem leads_ok {P : Program} (hmix : P.follows .mixedOrders = true) {ρ ρ' : Valn} {E : Env} (hE : @EnvOk ρ P E) (hnd : E.nd = false) {call : CallF} (hc : @CallOk ρ P E.G call) {nt cf : Nat} (hn : nt ≤ 1000000) {c : Code} {p q : Tpl} {ex : Ex} {s : List (Nat × SX)} {πl : List (Nat × Nat)}
    (hl : leads E call nt cf c p ex q s πl = true) (hok : codeOk E c = true) (m : Moves ρ ρ' s) {w0 : Base} (hU : ∀ i, w0.U i = false) {B : Nat} {a : Act} {w : World} {Q : Exit → Act → World → Prop}
    (hA : At ρ nt E.G w0 B p a w) (hQ : ∀ a' w', At ρ' nt E.G w0 B q a' w' → Q (exOf ex) a' w') : c.wpIn (fw none) 0 P Q a w := by
  unfold leads at hl
  obtain ⟨σ, hS⟩ := hA
  split at hl
  · rename_i ex' tm' h' he
    rw [Bool.and_eq_true] at hl
    have e := exBeq_eq hl.1
    subst e
    refine (@evCode_ok ρ P hmix call nt hn B cf E hE none (fun _ => rfl) hc w0).1 c σ _ _ _ ex' tm' h' [] a w Q hok he hS (fun τ a' w' _ hS' => hQ a' w' ⟨_, okSt_ok m (@EnvOk.rw ρ P E hE) hl.2 hU hS'⟩)
  · cases hl

/-- Rounds of a loop, at most so many as the family's number says. -/
theorem rounds_ok {P : Program} {b : Code} {Q : Exit → Act → World → Prop} (I : Nat → Act → World → Prop)
    (h0 : ∀ a w, I 0 a w → b.wpIn (fw none) 0 P (Exit.then (fun _ _ => False) Q) a w) (hs : ∀ d a w, I (d + 1) a w → b.wpIn (fw none) 0 P (Exit.then (I d) Q) a w) :
    ∀ d a w, I d a w → Code.roundsIn (fw none) 0 P b Q (d + 1) a w := by
  intro d
  induction d with
  | zero =>
    intro a w hI
    rw [roundsIn_succ]
    refine wpIn_mono (h0 a w hI) (fun e a' w' h => ?_)
    cases e <;> first | exact h.elim | exact h
  | succ d ih =>
    intro a w hI
    rw [roundsIn_succ]
    refine wpIn_mono (hs d a w hI) (fun e a' w' h => ?_)
    cases e <;> first | exact ih a' w' h | exact h
end Go.Bx
