/- Oracles: a Grace that frees nothing. -/
import Derived.Test.YtmiebhjpdmokoaaGreatDoorBx20
set_option linter.all false
namespace Go.Bx
open Go.RowKit
variable [Valn]

theorem HRel.later {G : Nat} {w0 : Base} {B : Nat} {σ : Sub} {h : Hp} {w w' : World} (hH : HRel G w0 B σ h w) (hb : Below w.heap.size w w') : HRel G w0 B σ h w' :=
  ⟨hH.below.trans (hb.mono hH.Bsize), hH.keep.trans (Keeps.same (fun k hk => hb.block k hk)), Nat.le_trans hH.Bsize hb.size, hH.nb, hH.dom, hH.glob, hH.obj, hH.unb, fun i o hg hd r h1 => by
    have h2 := hH.rel i o hg hd r h1
    exact ORel.mono (Sub.le_refl σ) (hb.block _ (h2.lt hd)) h2, hH.inj⟩

def graceOk (h : Hp) (clock : Nat) : List (V × V × Nat) → Bool
  | [] => true
  | (_, v, born) :: es =>
    match v with
    | .ptr b o => match cellsAt h b (o + 2) 1 with | some [.bool false] => (match Nat.blt born clock with | true => graceOk h clock es | false => false) | _ => false
    | _ => false

/-- Grace where no region is retired: nothing turns. -/
def graceOrc (fG : FuncId) : CallF := fun f args h =>
  match Nat.beq f fG, args with
  | true, [.ptr b o] =>
    match cellsAt h b o 1 with
    | some [.map r] => match h.t.get r with | some (.map es clock) => (match graceOk h clock es with | true => some (.tuple [], h) | false => none) | _ => none
    | _ => none
  | _, _ => none

/-- What a walk of Grace must give. -/
def GraceNone (P : Program) (fG : FuncId) : Prop :=
  ∀ (w : World) (mb mo r : Nat) (ES : Array MapEntry) (clock : Nat), w.cell? ⟨mb, mo, none⟩ = some (.map (some r)) → w.heap[r]? = some (.map ES clock) →
    (∀ e ∈ ES, e.born < clock) → (∀ e ∈ ES, ∃ rb ro, e.val = .pointer (some ⟨rb, ro, none⟩) ∧ w.cell? ⟨rb, ro + 2, none⟩ = some (.bool false)) →
    Calls P fG #[.pointer (some ⟨mb, mo, none⟩)] w fun e w' => e = .returned (.tuple #[]) ∧ Below w.heap.size w w'

theorem graceOk_ok {G : Nat} {w0 : Base} {B : Nat} {σ : Sub} {h : Hp} {w : World} (hH : HRel G w0 B σ h w) {clock : Nat} : ∀ (es : List (V × V × Nat)) (ES : List MapEntry), graceOk h clock es = true → ERels σ es ES →
    ∀ e ∈ ES, e.born < clock ∧ ∃ rb ro, e.val = .pointer (some ⟨rb, ro, none⟩) ∧ w.cell? ⟨rb, ro + 2, none⟩ = some (.bool false)
  | [], ES, _, he => by simp only [ERels] at he; subst he; simp
  | (k, v, born) :: es, ES, hg, he => by
    simp only [ERels] at he
    obtain ⟨k', v', l, rfl, _, hv, hl⟩ := he
    simp only [graceOk] at hg
    split at hg
    case h_2 => cases hg
    rename_i b o
    split at hg
    case h_2 => cases hg
    rename_i hc
    split at hg
    case h_2 => cases hg
    rename_i hb
    intro e he
    rcases List.mem_cons.1 he with rfl | he
    · refine ⟨by rw [Nat.blt_eq] at hb; exact hb, ?_⟩
      simp only [VRel] at hv
      obtain ⟨r, hr, e1⟩ := hv
      obtain ⟨_, r2, hr2, h3⟩ := cellsAt_ok hH hc hr
      rw [hr] at hr2; cases hr2
      obtain ⟨u, h4, h5⟩ := h3 0 (.bool false) rfl
      simp only [VRel] at h5; subst h5
      exact ⟨r.block, r.base + o, e1, by rw [← h4]; congr 2⟩
    · exact graceOk_ok hH es l hg hl e he

theorem graceOrc_ok {P : Program} {G : Nat} {fG : FuncId} (hf : Enters P fG) (hG : GraceNone P fG) : CallOk P G (graceOrc fG) := by
  intro f args h v h' he
  unfold graceOrc at he
  split at he
  case h_2 => cases he
  rename_i b o hb
  have hb := Nat.eq_of_beq_eq_true hb
  subst hb
  split at he
  case h_2 => cases he
  rename_i r hc
  split at he
  case h_2 => cases he
  rename_i es clock hg
  split at he
  case h_2 => cases he
  rename_i hok
  cases he
  refine ⟨hf, fun w0 B σ w args' hH hr => ?_⟩
  simp only [VRels, VRel] at hr
  obtain ⟨v', l', e1, ⟨q, hq, e2⟩, rfl⟩ := hr
  have ha : args' = #[.pointer (some ⟨q.block, q.base + o, none⟩)] := by rw [e2] at e1; exact array_one e1
  subst ha
  obtain ⟨_, q2, hq2, h3⟩ := cellsAt_ok hH hc hq
  rw [hq] at hq2; cases hq2
  obtain ⟨u, h4, h5⟩ := h3 0 (.map r) rfl
  simp only [VRel] at h5
  obtain ⟨p, hp, rfl⟩ := h5
  obtain ⟨p2, hp2, hB, ES, hw, he⟩ := map_obj hH hg hp
  rw [hp] at hp2; cases hp2
  have hall := graceOk_ok hH es ES.toList hok he
  refine (hG w q.block (q.base + o) p.block ES clock (by rw [← h4]; rfl) hw (fun e he => (hall e (by simpa using he)).1) (fun e he => (hall e (by simpa using he)).2)).mono ?_
  rintro e w' ⟨rfl, hbel⟩
  exact ⟨_, σ, rfl, Sub.le_refl _, hH.later hbel, by simp [VRel, VRels]⟩

def saysTrue : Option (V × Hp) → Bool
  | some (.bool b, _) => b
  | _ => false

theorem saysTrue_ok {r : Option (V × Hp)} (h : saysTrue r = true) : ∃ h', r = some (.bool true, h') := by
  unfold saysTrue at h
  split at h
  · subst h; exact ⟨_, rfl⟩
  · cases h

/-- Two tables of calls. -/
def orElse (a b : CallF) : CallF := fun f args h => match a f args h with | some r => some r | none => b f args h

theorem orElse_ok {P : Program} {G : Nat} {a b : CallF} (ha : CallOk P G a) (hb : CallOk P G b) : CallOk P G (orElse a b) := by
  intro f args h v h' he
  unfold orElse at he
  cases h1 : a f args h with
  | some r => rw [h1] at he; simp only [Option.some.injEq] at he; subst he; exact ha f args h v h' h1
  | none => rw [h1] at he; exact hb f args h v h' he

def noDorc : FuncId → List V → Hp → Option Hp := fun _ _ _ => none
theorem noDorc_ok {P : Program} {G : Nat} : DCallOk P G noDorc := by intro f args h h' he; cases he
end Go.Bx
