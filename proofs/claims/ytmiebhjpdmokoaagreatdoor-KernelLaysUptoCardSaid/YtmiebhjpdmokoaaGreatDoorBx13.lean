/- What an operation makes hangs on its own operands alone. -/
import Derived.Test.YtmiebhjpdmokoaaGreatDoorBx12x
set_option linter.all false
namespace Go.Bx
open Go.RowKit
variable [Valn]

theorem mapOpnds_congr {ρ ρ₂ : Operand → V} : ∀ (l : List (Nat × Operand)), (∀ p ∈ l, ρ p.2 = ρ₂ p.2) → mapOpnds ρ l = mapOpnds ρ₂ l
  | [], _ => rfl
  | (i, x) :: l, h => by
    have h1 := h (i, x) (by simp)
    simp only at h1
    simp only [mapOpnds, h1]
    rw [mapOpnds_congr l (fun p hp => h p (by simp [hp]))]

theorem optNat_congr {ρ ρ₂ : Operand → V} {x : Option Operand} (h : ∀ y, x = some y → ρ y = ρ₂ y) : optNat ρ x = optNat ρ₂ x := by
  cases x with
  | none => rfl
  | some y => simp only [optNat, h y rfl]

theorem optX_congr {ρ ρ₂ : Operand → V} {x : Option Operand} (h : ∀ y, x = some y → ρ y = ρ₂ y) : optX ρ x = optX ρ₂ x := by
  cases x with
  | none => rfl
  | some y => simp only [optX, h y rfl]

theorem quiet0_congr (E : Env) (o : Op) {ρ ρ₂ : Operand → V} (h : ∀ x ∈ o.operands, ρ x = ρ₂ x) (hp : Hp) : quiet0 E o ρ hp = quiet0 E o ρ₂ hp := by
  cases o <;> simp only [Op.operands] at h <;> try rfl
  case move x => simp only [quiet0, h x (by simp)]
  case assign x => simp only [quiet0, h x (by simp)]
  case pick c a b => simp only [quiet0, h c (by simp), h a (by simp), h b (by simp)]
  case build t ps => simp only [quiet0]; rw [mapOpnds_congr ps.toList (fun p hp => h p.2 (by simp; exact ⟨p.1, by simpa using hp⟩))]
  case load t a => simp only [quiet0, h a (by simp)]
  case nilCheck x => simp only [quiet0, h x (by simp)]
  case binOp op t x y yt => simp only [quiet0, h x (by simp), h y (by simp)]
  case unOp op t x => simp only [quiet0, h x (by simp)]
  case convert s d x => simp only [quiet0, h x (by simp)]
  case sliceToArrayPointer d x => simp only [quiet0, h x (by simp)]
  case makeInterface t x => simp only [quiet0, h x (by simp)]
  case makeFunc fn f c =>
    simp only [quiet0]
    rw [List.map_congr_left (fun x hx => h x (by simp at hx ⊢; exact .inl hx) : ∀ x ∈ f.toList, ρ x = ρ₂ x), List.map_congr_left (fun x hx => h x (by simp at hx ⊢; exact .inr hx) : ∀ x ∈ c.toList, ρ x = ρ₂ x)]
  case slice t x lo hi mx =>
    simp only [quiet0]
    rw [optNat_congr (x := lo) (fun y e => h y (by simp [e])), optNat_congr (x := hi) (fun y e => h y (by simp [e])), optNat_congr (x := mx) (fun y e => h y (by simp [e])), h x (by simp)]
  case fieldAddr t x f => simp only [quiet0, h x (by simp)]
  case field t x f => simp only [quiet0, h x (by simp)]
  case indexAddr t x i => simp only [quiet0, h x (by simp), h i (by simp)]
  case index t x i => simp only [quiet0, h x (by simp), h i (by simp)]
  case lookup t x i ok => simp only [quiet0, h x (by simp), h i (by simp)]
  case typeAssert x t a ok => simp only [quiet0, h x (by simp)]
  case extract x i => simp only [quiet0, h x (by simp)]
  case call c =>
    obtain ⟨callee, args, argTypes⟩ := c
    cases callee with
    | value f => rfl
    | invoke r m => rfl
    | builtin b =>
      have ha : ∀ x ∈ args.toList, ρ x = ρ₂ x := fun x hx => h x (by simp [Call.operands]; simpa using hx)
      cases b <;> simp only [quiet0] <;> try rfl
      case cap => split <;> first | rfl | (rename_i e1 e2; rw [ha _ (by rw [e1]; simp)])
      case len => split <;> first | rfl | (rename_i e1 e2; rw [ha _ (by rw [e1]; simp)])
      case max =>
        split
        · rename_i x l e1
          rw [ha x (by rw [e1]; simp), List.map_congr_left (fun y hy => ha y (by rw [e1]; simp [hy]))]
        · rfl
      case min =>
        split
        · rename_i x l e1
          rw [ha x (by rw [e1]; simp), List.map_congr_left (fun y hy => ha y (by rw [e1]; simp [hy]))]
        · rfl

theorem quietS_congr (E : Env) (o : Op) {ρ ρ₂ : Operand → V} (h : ∀ x ∈ o.operands, ρ x = ρ₂ x) (hp : Hp) : quietS E o ρ hp = quietS E o ρ₂ hp := by
  cases o <;> simp only [Op.operands] at h <;> try rfl
  case binOp op t x y yt => simp only [quietS, h x (by simp), h y (by simp)]
  case unOp op t x => simp only [quietS, h x (by simp)]
  case convert s d x => simp only [quietS, h x (by simp)]
  case slice t x lo hi mx =>
    simp only [quietS]
    rw [optNat_congr (x := lo) (fun y e => h y (by simp [e])), optNat_congr (x := hi) (fun y e => h y (by simp [e])), optNat_congr (x := mx) (fun y e => h y (by simp [e])),
      optX_congr (x := lo) (fun y e => h y (by simp [e])), optX_congr (x := hi) (fun y e => h y (by simp [e])), optX_congr (x := mx) (fun y e => h y (by simp [e])), h x (by simp)]
  case load t a => simp only [quietS, h a (by simp)]
  case indexAddr t x i => simp only [quietS, h x (by simp), h i (by simp)]
  case index t x i => simp only [quietS, h x (by simp), h i (by simp)]
  case call c =>
    obtain ⟨callee, args, argTypes⟩ := c
    cases callee with
    | value f => rfl
    | invoke r m => rfl
    | builtin b =>
      have ha : ∀ x ∈ args.toList, ρ x = ρ₂ x := fun x hx => h x (by simp [Call.operands]; simpa using hx)
      cases b <;> simp only [quietS] <;> try rfl
      case len => split <;> first | rfl | (rename_i e1 e2; rw [ha _ (by rw [e1]; simp)])
      case max =>
        split
        · rename_i x l e1
          rw [ha x (by rw [e1]; simp), List.map_congr_left (fun y hy => ha y (by rw [e1]; simp [hy]))]
        · rfl
      case min =>
        split
        · rename_i x l e1
          rw [ha x (by rw [e1]; simp), List.map_congr_left (fun y hy => ha y (by rw [e1]; simp [hy]))]
        · rfl

theorem quiet_congr (E : Env) (o : Op) {ρ ρ₂ : Operand → V} (h : ∀ x ∈ o.operands, ρ x = ρ₂ x) (hp : Hp) : quiet E o ρ hp = quiet E o ρ₂ hp := by
  unfold quiet
  rw [quiet0_congr E o h, quietS_congr E o h]

theorem loud_congr (E : Env) (o : Op) {ρ ρ₂ : Operand → V} (h : ∀ x ∈ o.operands, ρ x = ρ₂ x) (hp : Hp) : loud E o ρ hp = loud E o ρ₂ hp := by
  cases o <;> simp only [Op.operands] at h <;> try rfl
  case box t x => simp only [loud, h x (by simp)]
  case buildSlice t n ps => simp only [loud]; rw [mapOpnds_congr ps.toList (fun p hp => h p.2 (by simp; exact ⟨p.1, by simpa using hp⟩))]
  case insert t m k v => simp only [loud, h m (by simp), h k (by simp), h v (by simp)]
  case store t a v => simp only [loud, h a (by simp), h v (by simp)]
  case convert s d x => simp only [loud, h x (by simp)]
  case makeMap t r =>
    cases r with
    | none => rfl
    | some x => simp only [loud, h x (by simp)]
  case makeSlice t l c => simp only [loud, h l (by simp), h c (by simp)]
  case mapUpdate t m k v => simp only [loud, h m (by simp), h k (by simp), h v (by simp)]
  case mapEntry t m k => simp only [loud, h m (by simp), h k (by simp)]
  case entryStore t m k v => simp only [loud, h m (by simp), h k (by simp), h v (by simp)]
  case range t x => simp only [loud, h x (by simp)]
  case next x s => cases s <;> simp only [loud, h x (by simp)]
  case call c =>
    obtain ⟨callee, args, argTypes⟩ := c
    cases callee with
    | value f => rfl
    | invoke r m => rfl
    | builtin b =>
      have ha : ∀ x ∈ args.toList, ρ x = ρ₂ x := fun x hx => h x (by simp [Call.operands]; simpa using hx)
      cases b <;> simp only [loud] <;> try rfl
      case append => split <;> first | rfl | (rename_i e1 e2; rw [ha _ (by rw [e1]; simp), ha _ (by rw [e1]; simp)])
      case copy => split <;> first | rfl | (rename_i e1 e2; rw [ha _ (by rw [e1]; simp), ha _ (by rw [e1]; simp)])
      case delete => split <;> first | rfl | (rename_i e1 e2; rw [ha _ (by rw [e1]; simp), ha _ (by rw [e1]; simp)])
      case clear => split <;> first | rfl | (rename_i e1 e2; rw [ha _ (by rw [e1]; simp)])

theorem loudS_congr (E : Env) (o : Op) {ρ ρ₂ : Operand → V} (h : ∀ x ∈ o.operands, ρ x = ρ₂ x) (hp : Hp) : loudS E o ρ hp = loudS E o ρ₂ hp := by
  cases o <;> simp only [Op.operands] at h <;> try rfl
  case makeSlice t l c => simp only [loudS, h l (by simp), h c (by simp)]
  case range t x => simp only [loudS, h x (by simp)]
  case next x s => cases s <;> simp only [loudS, h x (by simp)]
  case call c =>
    obtain ⟨callee, args, argTypes⟩ := c
    cases callee with
    | value f => rfl
    | invoke r m => rfl
    | builtin b =>
      have ha : ∀ x ∈ args.toList, ρ x = ρ₂ x := fun x hx => h x (by simp [Call.operands]; simpa using hx)
      cases b <;> simp only [loudS] <;> try rfl
      all_goals (split <;> first | rfl | (rename_i e1 e2; rw [ha _ (by rw [e1]; simp), ha _ (by rw [e1]; simp)]))

theorem target_congr (E : Env) (o : Op) {ρ ρ₂ : Operand → V} (h : ∀ x ∈ o.operands, ρ x = ρ₂ x) : target E o ρ = target E o ρ₂ := by
  cases o <;> try rfl
  case call c =>
    obtain ⟨callee, args, argTypes⟩ := c
    simp only [Op.operands] at h
    cases callee with
    | value f =>
      simp only [target, h f (by simp [Call.operands])]
      rw [List.map_congr_left (fun x hx => h x (by simp [Call.operands]; right; simpa using hx) : ∀ x ∈ args.toList, ρ x = ρ₂ x)]
    | invoke r m =>
      simp only [target, h r (by simp [Call.operands])]
      rw [List.map_congr_left (fun x hx => h x (by simp [Call.operands]; right; simpa using hx) : ∀ x ∈ args.toList, ρ x = ρ₂ x)]
    | builtin b => rfl

theorem deferT0_congr (o : Op) {ρ ρ₂ : Operand → V} (h : ∀ x ∈ o.operands, ρ x = ρ₂ x) : deferT0 o ρ = deferT0 o ρ₂ := by
  cases o <;> try rfl
  case defer c =>
    obtain ⟨callee, args, argTypes⟩ := c
    simp only [Op.operands] at h
    cases callee with
    | value f =>
      simp only [deferT0, h f (by simp [Call.operands])]
      rw [List.map_congr_left (fun x hx => h x (by simp [Call.operands]; right; simpa using hx) : ∀ x ∈ args.toList, ρ x = ρ₂ x)]
    | invoke r m => rfl
    | builtin b => rfl

theorem deferT_congr (E : Env) (o : Op) {ρ ρ₂ : Operand → V} (h : ∀ x ∈ o.operands, ρ x = ρ₂ x) : deferT E o ρ = deferT E o ρ₂ := by
  unfold deferT
  rw [deferT0_congr o h]

theorem oneLoud_congr (E : Env) (call : CallF) (o : Oper) {ρ ρ₂ : Operand → V} (h : ∀ x ∈ o.op.operands, ρ x = ρ₂ x) (hp : Hp) (ds : DL) : oneLoud E call o ρ hp ds = oneLoud E call o ρ₂ hp ds := by
  unfold oneLoud
  rw [target_congr E o.op h, deferT_congr E o.op h, loud_congr E o.op h, loudS_congr E o.op h]

/-- A quiet operation that does not look at memory. -/
theorem quiet0_blind (E : Env) (o : Op) (ρ : Operand → V) (h1 h2 : Hp) (hl : looks E o = false) : quiet0 E o ρ h1 = quiet0 E o ρ h2 := by
  cases o <;> simp only [looks] at hl <;> try rfl
  all_goals first | (cases hl; done) | skip
  case convert s d x =>
    have hne : ∀ e, E.und s ≠ some (.slice e) := fun e he => by simp [he] at hl
    simp only [quiet0]
    unfold convQ
    split <;> first | rfl | (exfalso; rename_i q _ _; exact hne _ ‹E.und s = some (TypeDesc.slice _)›)
  case call c =>
    obtain ⟨callee, args, argTypes⟩ := c
    cases callee with
    | value f => rfl
    | invoke r m => rfl
    | builtin b =>
      cases b <;> simp only [quiet0] <;> try rfl
      split
      · rename_i x t e1 e2
        simp only [looks, e2] at hl
        have hne : ∀ k e, E.und t ≠ some (.map k e) := fun k e he => by simp [he] at hl
        unfold lenQ
        split <;> first | rfl | (exfalso; exact hne _ _ ‹E.und t = some (TypeDesc.map _ _)›)
      · rfl

theorem quietS_blind (E : Env) (o : Op) (ρ : Operand → V) (h1 h2 : Hp) (hl : looks E o = false) : quietS E o ρ h1 = quietS E o ρ h2 := by
  cases o <;> simp only [looks] at hl <;> try rfl
  all_goals first | (cases hl; done) | skip
  case convert s d x =>
    have hne : ∀ e, E.und s ≠ some (.slice e) := fun e he => by simp [he] at hl
    simp only [quietS]
    unfold convS
    split <;> first | rfl | (exfalso; rename_i q _ _; exact hne _ ‹E.und s = some (TypeDesc.slice _)›)
  case call c =>
    obtain ⟨callee, args, argTypes⟩ := c
    cases callee with
    | value f => rfl
    | invoke r m => rfl
    | builtin b => cases b <;> rfl

theorem quiet_blind (E : Env) (o : Op) (ρ : Operand → V) (h1 h2 : Hp) (hl : looks E o = false) : quiet E o ρ h1 = quiet E o ρ h2 := by
  unfold quiet
  rw [quiet0_blind E o ρ h1 h2 hl, quietS_blind E o ρ h1 h2 hl]
end Go.Bx
