/- Templates: a state whose numbers are variables; one state as an instance of another. -/
import Derived.Test.YtmiebhjpdmokoaaGreatDoorBx22
set_option linter.all false
namespace Go.Bx
open Go.RowKit

def lookS : Nat → List (Nat × SX) → Option SX
  | _, [] => none
  | i, (j, e) :: l => match Nat.beq i j with | true => some e | false => lookS i l

/-- Variables of numbers, replaced. -/
def SX.sb (s : List (Nat × SX)) : SX → SX
  | .num n => .num n
  | .bit b => .bit b
  | .txt t => .txt t
  | .var k i =>
    match lookS i s with
    | none => .var k i
    | some e => match isI e && inKind k e with | true => e | false => .conv k e
  | .bvar i => .bvar i
  | .lvar k i => .lvar k i
  | .bin op k a b => .bin op k (a.sb s) (b.sb s)
  | .conv k a => .conv k (a.sb s)
  | .cpl k a => .cpl k (a.sb s)
  | .not a => .not (a.sb s)
  | .ap f a => .ap f (a.sb s)
  | .pr a b => .pr (a.sb s) (b.sb s)
  | .cat a b => .cat (a.sb s) (b.sb s)
  | .len a => .len (a.sb s)
  | .win a b c => .win (a.sb s) (b.sb s) (c.sb s)
  | .over a b c => .over (a.sb s) (b.sb s) (c.sb s)
  | .rep a => .rep (a.sb s)
  | .item a b => .item (a.sb s) (b.sb s)
  | .one k a => .one k (a.sb s)
  | .ofk k a => .ofk k (a.sb s)
  | .mx g a b => .mx g (a.sb s) (b.sb s)
  | .teq a b => .teq (a.sb s) (b.sb s)

/-- One valuation is another one behind the replacement. -/
structure Moves (ρ ρ' : Valn) (s : List (Nat × SX)) : Prop where
  hit : ∀ i e, lookS i s = some e → ρ'.int i = (@SX.den ρ e).int
  miss : ∀ i, lookS i s = none → ρ'.int i = ρ.int i
  bool : ρ'.bool = ρ.bool
  list : ρ'.list = ρ.list
  fn : ρ'.fn = ρ.fn

section
variable {ρ ρ' : Valn} {s : List (Nat × SX)} (m : Moves ρ ρ' s)
 include m

theorem den_sb : ∀ e : SX, @SX.den ρ' e = @SX.den ρ (e.sb s) := by
  intro e
  induction e with
  | var k i =>
    simp only [SX.sb]
    cases hl : lookS i s with
    | none => simp only [SX.den, m.miss i hl]
    | some x =>
      have h1 := m.hit i x hl
      simp only
      split
      · rename_i hx
        rw [Bool.and_eq_true] at hx
        have h2 := @isI_ok ρ x hx.1
        have h3 := @inKind_ok ρ k x hx.2
        rw [h2, ← h3]
        simp only [SX.den, h1]
      · simp only [SX.den, h1]
  | bvar i => simp only [SX.sb, SX.den, m.bool]
  | lvar k i => simp only [SX.sb, SX.den, m.list]
  | ap f a ih => simp only [SX.sb, SX.den, m.fn, ih]
  | num | bit | txt => rfl
  | conv k a ih | cpl k a ih | not a ih | len a ih | rep a ih | one k a ih | ofk k a ih => simp only [SX.sb, SX.den, ih]
  | bin op k a b iha ihb => simp only [SX.sb, SX.den, iha, ihb]
  | pr a b iha ihb | cat a b iha ihb | item a b iha ihb | teq a b iha ihb => simp only [SX.sb, SX.den, iha, ihb]
  | mx g a b iha ihb => simp only [SX.sb, SX.den, iha, ihb]
  | win a b c iha ihb ihc | over a b c iha ihb ihc => simp only [SX.sb, SX.den, iha, ihb, ihc]
end

def viaB (π : T Nat) (j i : Nat) : Bool := match π.get j with | some x => Nat.beq x i | none => false

def Sub.via (σ : Sub) (π : T Nat) : Sub := fun j => match π.get j with | some i => σ i | none => none

theorem via_ok {σ : Sub} {π : T Nat} {j i : Nat} (h : viaB π j i = true) : σ.via π j = σ i := by
  unfold viaB at h
  unfold Sub.via
  split at h
  · rename_i x hx; rw [Nat.eq_of_beq_eq_true h]
  · cases h

 mutual
/-- Is a value an instance of the template's? -/
def okV (R : List (SX × SX)) (s : List (Nat × SX)) (π : T Nat) : V → V → Bool
  | .top, b => match b with | .top => true | _ => false
  | .bool x, b => match b with | .top => true | .bool y => (match x with | true => y | false => !y) | .sym .b e => SX.beq (.bit x) (lookX (e.sb s) R) | _ => false
  | .int k n, b => match b with | .top => true | .int k' m => kindBeq k k' && intBeq n m | .sym (.i k') e => kindBeq k k' && SX.beq (.num n) (lookX (e.sb s) R) | _ => false
  | .intNot _ _, b => match b with | .top => true | _ => false
  | .str x, b => match b with | .top => true | .str y => strBeq x y | .sym .s e => SX.beq (.txt x.data.toList) (lookX (e.sb s) R) | _ => false
  | .nilp, b => match b with | .top => true | .nilp => true | _ => false
  | .ptr i o, b => match b with | .top => true | .ptr j p => viaB π j i && Nat.beq o p | _ => false
  | .nils, b => match b with | .top => true | .nils => true | _ => false
  | .slice i o l c, b => match b with | .top => true | .slice j o' l' c' => viaB π j i && Nat.beq o o' && Nat.beq l l' && Nat.beq c c' | _ => false
  | .oslice i o l c z, b => match b with | .top => true | .oslice j o' l' c' z' => viaB π j i && Nat.beq o o' && Nat.beq l l' && Nat.beq c c' && Nat.beq z z' | _ => false
  | .nilm, b => match b with | .top => true | .nilm => true | _ => false
  | .map i, b => match b with | .top => true | .map j => viaB π j i | _ => false
  | .func fn f c, b => match b with | .top => true | .func fn' f' c' => (match fn, fn' with | .func x, .func y => Nat.beq x y | _, _ => false) && okVs R s π f f' && okVs R s π c c' | _ => false
  | .nilFunc, b => match b with | .top => true | .nilFunc => true | _ => false
  | .iface t v, b => match b with | .top => true | .iface u w => Nat.beq t u && okV R s π v w | _ => false
  | .nilIface, b => match b with | .top => true | .nilIface => true | _ => false
  | .agg x, b => match b with | .top => true | .agg y => okVs R s π x y | _ => false
  | .tuple x, b => match b with | .top => true | .tuple y => okVs R s π x y | _ => false
  | .sym t e, b => match b with | .top => true | .sym u f => skBeq t u && SX.beq e (lookX (f.sb s) R) | _ => false
  | .bstr x, b => match b with | .top => true | .bstr y => okVs R s π x y | _ => false
  | .xsl i o n, b => match b with | .top => true | .xsl j p m => viaB π j i && Nat.beq o p && SX.beq n (lookX (m.sb s) R) | _ => false
  | .xarg i n z, b => match b with | .top => true | .xarg j m z' => viaB π j i && SX.beq n (lookX (m.sb s) R) && Nat.beq z z' | _ => false
  | .osl i n z, b => match b with | .top => true | .osl j m z' => viaB π j i && SX.beq n (lookX (m.sb s) R) && Nat.beq z z' | _ => false
  | .xptr i n, b => match b with | .top => true | .xptr j m => viaB π j i && SX.beq n (lookX (m.sb s) R) | _ => false
def okVs (R : List (SX × SX)) (s : List (Nat × SX)) (π : T Nat) : List V → List V → Bool
  | [], b => match b with | [] => true | _ :: _ => false
  | v :: l, b => match b with | [] => false | w :: m => okV R s π v w && okVs R s π l m
end

theorem look_R [Valn] {R : List (SX × SX)} (hR : ∀ l r, (l, r) ∈ R → l.den = r.den) (e : SX) : (lookX e R).den = e.den := by
  induction R with
  | nil => rfl
  | cons x R ih =>
    obtain ⟨l, r⟩ := x
    simp only [lookX]
    split
    · rename_i hb
      rw [← hR l r (by simp), SX.beq_eq _ _ hb]
    · exact ih (fun l r h => hR l r (by simp [h]))

section
variable {ρ ρ' : Valn} {s : List (Nat × SX)} (m : Moves ρ ρ' s) {R : List (SX × SX)} (hR : ∀ l r, (l, r) ∈ R → @SX.den ρ l = @SX.den ρ r) {π : T Nat} {σ : Sub}
 include m hR

theorem beq_sb {e f : SX} (h : SX.beq e (lookX (f.sb s) R) = true) : @SX.den ρ' f = @SX.den ρ e := by
  rw [den_sb m, SX.beq_eq _ _ h, @look_R ρ R hR]

 mutual
theorem okV_ok : ∀ (v w : V), okV R s π v w = true → ∀ x, @VRel ρ σ v x → @VRel ρ' (σ.via π) w x
  | .top, b, h, x, hx => by
    cases b <;> simp only [okV] at h <;> first | (cases h; done) | skip
    simp [VRel]
  | .bool a, b, h, x, hx => by
    cases b <;> simp only [okV] at h <;> first | (cases h; done) | (simp [VRel]; done) | skip
    case bool y => simp only [VRel] at hx ⊢; rw [hx]; cases a <;> cases y <;> simp at h <;> rfl
    case sym t e =>
      cases t <;> simp only at h <;> first | (cases h; done) | skip
      simp only [VRel] at hx ⊢
      rw [hx, beq_sb m hR h]; rfl
  | .int k n, b, h, x, hx => by
    cases b <;> simp only [okV] at h <;> first | (cases h; done) | (simp [VRel]; done) | skip
    case int k' n' =>
      simp only [VRel] at hx ⊢
      rw [Bool.and_eq_true, intBeq_eq] at h
      rw [hx, kindBeq_eq h.1]; simpa using h.2
    case sym t e =>
      cases t <;> simp only at h <;> first | (cases h; done) | skip
      rw [Bool.and_eq_true] at h
      simp only [VRel] at hx ⊢
      rw [hx, beq_sb m hR h.2, kindBeq_eq h.1]; rfl
  | .intNot _ _, b, h, x, hx => by
    cases b <;> simp only [okV] at h <;> first | (cases h; done) | skip
    simp [VRel]
  | .str a, b, h, x, hx => by
    cases b <;> simp only [okV] at h <;> first | (cases h; done) | (simp [VRel]; done) | skip
    case str y => simp only [VRel] at hx ⊢; rw [strBeq_eq, ← beq_toListBytes] at h; rw [hx, beq_str h]
    case sym t e =>
      cases t <;> simp only at h <;> first | (cases h; done) | skip
      simp only [VRel] at hx ⊢
      rw [hx, beq_sb m hR h]
      simp [tv, SX.den, D.list, asBytes_nat]
  | .nilp, b, h, x, hx | .nils, b, h, x, hx | .nilm, b, h, x, hx | .nilFunc, b, h, x, hx | .nilIface, b, h, x, hx => by
    cases b <;> simp only [okV] at h <;> first | (cases h; done) | (simp [VRel]; done) | (simp only [VRel] at hx ⊢; exact hx)
  | .ptr i o, b, h, x, hx => by
    cases b <;> simp only [okV] at h <;> first | (cases h; done) | (simp [VRel]; done) | skip
    case ptr j p =>
      rw [Bool.and_eq_true] at h
      simp only [VRel] at hx ⊢
      rw [via_ok h.1, ← Nat.eq_of_beq_eq_true h.2]; exact hx
  | .slice i o l c, b, h, x, hx => by
    cases b <;> simp only [okV] at h <;> first | (cases h; done) | (simp [VRel]; done) | skip
    case slice =>
      simp only [Bool.and_eq_true] at h
      simp only [VRel] at hx ⊢
      obtain ⟨⟨⟨h1, h2⟩, h3⟩, h4⟩ := h
      rw [via_ok h1, ← Nat.eq_of_beq_eq_true h2, ← Nat.eq_of_beq_eq_true h3, ← Nat.eq_of_beq_eq_true h4]; exact hx
  | .oslice i o l c z, b, h, x, hx => by
    cases b <;> simp only [okV] at h <;> first | (cases h; done) | (simp [VRel]; done) | skip
    case oslice =>
      simp only [Bool.and_eq_true] at h
      simp only [VRel] at hx ⊢
      obtain ⟨⟨⟨⟨h1, h2⟩, h3⟩, h4⟩, h5⟩ := h
      rw [via_ok h1, ← Nat.eq_of_beq_eq_true h2, ← Nat.eq_of_beq_eq_true h3, ← Nat.eq_of_beq_eq_true h4, ← Nat.eq_of_beq_eq_true h5]; exact hx
  | .map i, b, h, x, hx => by
    cases b <;> simp only [okV] at h <;> first | (cases h; done) | (simp [VRel]; done) | skip
    case map j => simp only [VRel] at hx ⊢; rw [via_ok h]; exact hx
  | .func fn f c, b, h, x, hx => by
    cases b <;> simp only [okV] at h <;> first | (cases h; done) | (simp [VRel]; done) | skip
    case func fn' f' c' =>
      simp only [Bool.and_eq_true] at h
      obtain ⟨⟨h1, h2⟩, h3⟩ := h
      simp only [VRel] at hx ⊢
      obtain ⟨F, C, e, hf, hc⟩ := hx
      have : fn = fn' := by
        cases fn <;> cases fn' <;> simp only at h1 <;> first | (cases h1; done) | (rw [Nat.eq_of_beq_eq_true h1])
      subst this
      exact ⟨F, C, e, okVs_ok f f' h2 _ hf, okVs_ok c c' h3 _ hc⟩
  | .iface t v, b, h, x, hx => by
    cases b <;> simp only [okV] at h <;> first | (cases h; done) | (simp [VRel]; done) | skip
    case iface u w =>
      rw [Bool.and_eq_true] at h
      simp only [VRel] at hx ⊢
      obtain ⟨x', e, hv⟩ := hx
      exact ⟨x', by rw [e, Nat.eq_of_beq_eq_true h.1], okV_ok v w h.2 _ hv⟩
  | .agg l, b, h, x, hx => by
    cases b <;> simp only [okV] at h <;> first | (cases h; done) | (simp [VRel]; done) | skip
    case agg l' => simp only [VRel] at hx ⊢; obtain ⟨c, e, hc⟩ := hx; exact ⟨c, e, okVs_ok l l' h _ hc⟩
  | .tuple l, b, h, x, hx => by
    cases b <;> simp only [okV] at h <;> first | (cases h; done) | (simp [VRel]; done) | skip
    case tuple l' => simp only [VRel] at hx ⊢; obtain ⟨c, e, hc⟩ := hx; exact ⟨c, e, okVs_ok l l' h _ hc⟩
  | .sym t e, b, h, x, hx => by
    cases b <;> simp only [okV] at h <;> first | (cases h; done) | (simp [VRel]; done) | skip
    case sym u f =>
      rw [Bool.and_eq_true] at h
      simp only [VRel] at hx ⊢
      rw [hx, beq_sb m hR h.2, skBeq_eq h.1]
  | .bstr l, b, h, x, hx => by
    cases b <;> simp only [okV] at h <;> first | (cases h; done) | (simp [VRel]; done) | skip
    case bstr l' => simp only [VRel] at hx ⊢; obtain ⟨c, e, hc⟩ := hx; exact ⟨c, e, okVs_ok l l' h _ hc⟩
  | .xsl i o n, b, h, x, hx => by
    cases b <;> simp only [okV] at h <;> first | (cases h; done) | (simp [VRel]; done) | skip
    case xsl =>
      simp only [Bool.and_eq_true] at h
      simp only [VRel] at hx ⊢
      rw [via_ok h.1.1, ← Nat.eq_of_beq_eq_true h.1.2, beq_sb m hR h.2]; exact hx
  | .xarg i n z, b, h, x, hx => by
    cases b <;> simp only [okV] at h <;> first | (cases h; done) | (simp [VRel]; done) | skip
    case xarg =>
      simp only [Bool.and_eq_true] at h
      simp only [VRel] at hx ⊢
      rw [via_ok h.1.1, beq_sb m hR h.1.2, ← Nat.eq_of_beq_eq_true h.2]; exact hx
  | .osl i n z, b, h, x, hx => by
    cases b <;> simp only [okV] at h <;> first | (cases h; done) | (simp [VRel]; done) | skip
    case osl =>
      simp only [Bool.and_eq_true] at h
      simp only [VRel] at hx ⊢
      rw [via_ok h.1.1, beq_sb m hR h.1.2, ← Nat.eq_of_beq_eq_true h.2]; exact hx
  | .xptr i n, b, h, x, hx => by
    cases b <;> simp only [okV] at h <;> first | (cases h; done) | (simp [VRel]; done) | skip
    case xptr =>
      simp only [Bool.and_eq_true] at h
      simp only [VRel] at hx ⊢
      rw [via_ok h.1, beq_sb m hR h.2]; exact hx
theorem okVs_ok : ∀ (v w : List V), okVs R s π v w = true → ∀ x, @VRels ρ σ v x → @VRels ρ' (σ.via π) w x
  | [], b, h, x, hx => by
    cases b with
    | nil => simpa only [VRels] using hx
    | cons _ _ => simp [okVs] at h
  | v :: l, b, h, x, hx => by
    cases b with
    | nil => simp [okVs] at h
    | cons w l' =>
      simp only [okVs, Bool.and_eq_true] at h
      simp only [VRels] at hx ⊢
      obtain ⟨v', m', e, h1, h2⟩ := hx
      exact ⟨v', m', e, okV_ok v w h.1 _ h1, okVs_ok l l' h.2 _ h2⟩
end
end
end Go.Bx
