/- Laws of terms: what is not known. -/
import Derived.Test.YtmiebhjpdmokoaaGreatDoorBx3
set_option linter.all false
namespace Go.Bx
open Go.RowKit
variable [Valn]

theorem opBeq_eq {a b : BinOp} (h : opBeq a b = true) : a = b := by
  cases a <;> cases b <;> first | rfl | (simp [opBeq] at h)

theorem SX.beq_eq : ∀ (a b : SX), SX.beq a b = true → a = b := by
  intro a
  induction a with
  | num n => intro b h; cases b <;> simp only [SX.beq] at h <;> first | (cases h; done) | skip
             rw [intBeq_eq] at h; simp at h; rw [h]
  | bit x => intro b h; cases b <;> simp only [SX.beq] at h <;> first | (cases h; done) | skip
             rename_i y; cases x <;> cases y <;> simp at h <;> rfl
  | txt s => intro b h; cases b <;> simp only [SX.beq] at h <;> first | (cases h; done) | skip
             rw [bytesBeq_eq] at h; simp at h; rw [h]
  | var k i =>
    intro b h; cases b <;> simp only [SX.beq] at h <;> first | (cases h; done) | skip
    split at h
    · rename_i hb; rw [Nat.eq_of_beq_eq_true hb, kindBeq_eq h]
    · cases h
  | bvar i => intro b h; cases b <;> simp only [SX.beq] at h <;> first | (cases h; done) | skip
              rw [Nat.eq_of_beq_eq_true h]
  | lvar k i =>
    intro b h; cases b <;> simp only [SX.beq] at h <;> first | (cases h; done) | skip
    split at h
    · rename_i hb; rw [Nat.eq_of_beq_eq_true hb, kindBeq_eq h]
    · cases h
  | bin op k x y ihx ihy =>
    intro b h; cases b <;> simp only [SX.beq] at h <;> first | (cases h; done) | skip
    split at h
    · rename_i h1
      split at h
      · rename_i h2
        split at h
        · rename_i h3; rw [opBeq_eq h1, kindBeq_eq h2, ihx _ h3, ihy _ h]
        · cases h
      · cases h
    · cases h
  | conv k x ih =>
    intro b h; cases b <;> simp only [SX.beq] at h <;> first | (cases h; done) | skip
    split at h
    · rename_i h1; rw [kindBeq_eq h1, ih _ h]
    · cases h
  | cpl k x ih =>
    intro b h; cases b <;> simp only [SX.beq] at h <;> first | (cases h; done) | skip
    split at h
    · rename_i h1; rw [kindBeq_eq h1, ih _ h]
    · cases h
  | not x ih => intro b h; cases b <;> simp only [SX.beq] at h <;> first | (cases h; done) | skip
                rw [ih _ h]
  | ap f x ih =>
    intro b h; cases b <;> simp only [SX.beq] at h <;> first | (cases h; done) | skip
    split at h
    · rename_i h1; rw [Nat.eq_of_beq_eq_true h1, ih _ h]
    · cases h
  | pr x y ihx ihy =>
    intro b h; cases b <;> simp only [SX.beq] at h <;> first | (cases h; done) | skip
    split at h
    · rename_i h1; rw [ihx _ h1, ihy _ h]
    · cases h

  | cat x y ihx ihy =>
    intro b h; cases b <;> simp only [SX.beq] at h <;> first | (cases h; done) | skip
    split at h
    · rename_i h1; rw [ihx _ h1, ihy _ h]
    · cases h
  | len x ih => intro b h; cases b <;> simp only [SX.beq] at h <;> first | (cases h; done) | skip
                rw [ih _ h]
  | win x y z ihx ihy ihz =>
    intro b h; cases b <;> simp only [SX.beq] at h <;> first | (cases h; done) | skip
    split at h
    · rename_i h1
      split at h
      · rename_i h2; rw [ihx _ h1, ihy _ h2, ihz _ h]
      · cases h
    · cases h
  | over x y z ihx ihy ihz =>
    intro b h; cases b <;> simp only [SX.beq] at h <;> first | (cases h; done) | skip
    split at h
    · rename_i h1
      split at h
      · rename_i h2; rw [ihx _ h1, ihy _ h2, ihz _ h]
      · cases h
    · cases h
  | rep x ih => intro b h; cases b <;> simp only [SX.beq] at h <;> first | (cases h; done) | skip
                rw [ih _ h]
  | item x y ihx ihy =>
    intro b h; cases b <;> simp only [SX.beq] at h <;> first | (cases h; done) | skip
    split at h
    · rename_i h1; rw [ihx _ h1, ihy _ h]
    · cases h
  | one k x ih =>
    intro b h; cases b <;> simp only [SX.beq] at h <;> first | (cases h; done) | skip
    split at h
    · rename_i h1; rw [kindBeq_eq h1, ih _ h]
    · cases h
  | ofk k x ih =>
    intro b h; cases b <;> simp only [SX.beq] at h <;> first | (cases h; done) | skip
    split at h
    · rename_i h1; rw [kindBeq_eq h1, ih _ h]
    · cases h
  | mx g x y ihx ihy =>
    intro b h; cases b <;> simp only [SX.beq] at h <;> first | (cases h; done) | skip
    rename_i g' _ _
    split at h
    · rename_i h0
      split at h
      · rename_i h1
        have : g = g' := by cases g <;> cases g' <;> simp at h0 <;> rfl
        rw [this, ihx _ h1, ihy _ h]
      · cases h
    · cases h
  | teq x y ihx ihy =>
    intro b h; cases b <;> simp only [SX.beq] at h <;> first | (cases h; done) | skip
    split at h
    · rename_i h1; rw [ihx _ h1, ihy _ h]
    · cases h

/-- Bytes of a text, as numbers, are that text. -/
theorem asBytes_nat (s : List UInt8) : asBytes (s.map fun b => (b.toNat : Int)) = s := by
  induction s with
  | nil => rfl
  | cons b s ih => simp only [asBytes, List.map_cons] at ih ⊢; rw [ih]; simp

theorem lookX_den {e : SX} : ∀ (l : List (SX × SX)), (∀ a b, (a, b) ∈ l → a.den = b.den) → (lookX e l).den = e.den
  | [], _ => rfl
  | (a, b) :: l, h => by
    simp only [lookX]
    split
    · rename_i hb
      have := SX.beq_eq _ _ hb
      subst this
      exact (h a b (by simp)).symm
    · exact lookX_den l (fun x y hx => h x y (by simp [hx]))

theorem mkS_ok (σ : Sub) (t : SK) (e : SX) : VRel σ (mkS t e) (tv t e.den) := by
  unfold mkS
  split <;> simp [VRel, tv, SX.den, D.int, D.bool, D.list, asBytes_nat]

section
variable {P : Program} {E : Env} (hE : EnvOk P E) {σ : Sub}
 include hE

theorem look_ok (e : SX) : (lookX e E.rw).den = e.den := lookX_den _ hE.rw

theorem mk_ok (t : SK) (e : SX) : VRel σ (E.mk' t e) (tv t e.den) := by
  have := mkS_ok σ t (lookX e E.rw)
  rw [look_ok hE] at this
  exact this

 omit hE in
theorem xInt_ok {x : V} {k : IntKind} {e : SX} (h : xInt x = some (k, e)) {x' : Value} (hx : VRel σ x x') : x' = .int k e.den.int := by
  unfold xInt at h
  split at h
  · cases h; simpa [VRel, SX.den, D.int] using hx
  · cases h; simpa [VRel, tv] using hx
  · cases h

 omit hE in
theorem unsigned_wrap {k : IntKind} (h : unsigned k = true) (n : Int) : 0 ≤ wrapK k n := by
  cases k <;> simp [unsigned] at h <;> simp only [wrapK] <;> exact Int.emod_nonneg _ (by decide)

 omit hE in
theorem wrapK_wrapK (k : IntKind) (n : Int) : wrapK k (wrapK k n) = wrapK k n := by
  rw [wrapK_eq, wrapK_eq]
  cases k <;> simp [IntKind.wrap, IntKind.bits, IntKind.signed] <;> (try split) <;> omega

 omit hE in
theorem inKind_ok {k : IntKind} : ∀ {e : SX}, inKind k e = true → wrapK k e.den.int = e.den.int := by
  intro e h
  cases e <;> simp only [inKind] at h <;> first | (cases h; done) | skip
  case num n => rw [intBeq_eq] at h; simpa [SX.den, D.int] using h
  case var k' i => have := kindBeq_eq h; subst this; simp only [SX.den, D.int, wrapK_wrapK]
  case conv k' a => have := kindBeq_eq h; subst this; simp only [SX.den, D.int, wrapK_wrapK]
  case cpl k' a => have := kindBeq_eq h; subst this; simp only [SX.den, D.int, wrapK_wrapK]
  case bin op k' a b =>
    have key : ∀ x y : Int, kindBeq k' k = true → (op = .add ∨ op = .sub ∨ op = .mul ∨ op = .quo ∨ op = .and ∨ op = .or ∨ op = .xor ∨ op = .andNot ∨ op = .shl) → wrapK k (opD op k' x y).int = (opD op k' x y).int := by
      intro x y hk ho
      have := kindBeq_eq hk; subst this
      have z : wrapK k' 0 = 0 := by cases k' <;> rfl
      rcases ho with rfl | rfl | rfl | rfl | rfl | rfl | rfl | rfl | rfl <;> simp only [opD, intOp, D.int, wrapK_wrapK]
      · cases intBeq y 0 <;> simp only [D.int, wrapK_wrapK, z]
      · cases y <;> simp only [shiftOp, D.int, wrapK_wrapK, z]
    split at h
    all_goals first | (cases h; done) | exact key _ _ h (by simp)

 omit hE in
theorem notNeg_ok {k : IntKind} {e : SX} (h : notNeg k e = true) : 0 ≤ e.den.int := by
  unfold notNeg at h
  split at h
  · rename_i hu
    rw [← inKind_ok h]; exact unsigned_wrap hu _
  · split at h
    · simp [SX.den, D.int]
    · cases h

theorem notZero_ok {k : IntKind} {e : SX} (h : notZero E k e = true) : e.den.int ≠ 0 := by
  unfold notZero at h
  split at h
  · rw [intBeq_eq] at h; simpa [SX.den, D.int] using h
  · split at h
    · rename_i hl
      have := look_ok hE (.bin .eql k e (.num 0))
      rw [hl] at this
      intro h0
      simp only [SX.den, opD, intOp, h0, intBeq_eq] at this
      simp [D.int] at this
    · cases h

def skOk (op : BinOp) (sk : SK) (k : IntKind) (b : Int) : Prop :=
  match op with
  | .add | .sub | .mul | .and | .or | .xor | .andNot => sk = .i k
  | .quo | .rem => sk = .i k ∧ b ≠ 0
  | .eql | .neq | .lss | .leq | .gtr | .geq => sk = .b
  | _ => False

 omit hE in
/-- What the model's operation makes of two numbers. -/
theorem opD_run {op : BinOp} {t : TypeId} {k : IntKind} {a b : Int} (ht : op ≠ .shl ∧ op ≠ .shr) {sk : SK}
    (hk : skOk op sk k b) (w : World) :
    (binOp op t (.int k a) (.int k b)).run P w = .ok (tv sk (opD op k a b)) w := by
  have fin : ∀ {v : V}, intOp op k a b = some v → (∀ σ v', VRel σ v v' → v' = tv sk (opD op k a b)) → (binOp op t (.int k a) (.int k b)).run P w = .ok (tv sk (opD op k a b)) w := by
    intro v h1 h2
    obtain ⟨v', h3, h4⟩ := intOp_run (P := P) (t := t) h1 ht w
    rw [h3, h2 (fun _ => none) v' (h4 _)]
  cases op <;> simp only [skOk] at hk <;> first | (exact absurd rfl ht.1) | (exact absurd rfl ht.2) | (cases hk; done) | skip
  case quo =>
    obtain ⟨rfl, hb⟩ := hk
    have hb' : intBeq b 0 = false := by rw [intBeq_eq]; simpa using hb
    refine fin (v := .int k (wrapK k (a.tdiv b))) (by simp only [intOp, hb']) (fun σ v' h => ?_)
    simp only [VRel] at h
    simp only [opD, intOp, hb', tv, D.int, h]
  case rem =>
    obtain ⟨rfl, hb⟩ := hk
    have hb' : intBeq b 0 = false := by rw [intBeq_eq]; simpa using hb
    refine fin (v := .int k (a.tmod b)) (by simp only [intOp, hb']) (fun σ v' h => ?_)
    simp only [VRel] at h
    simp only [opD, intOp, hb', tv, D.int, h]
  all_goals
    subst hk
    refine fin rfl (fun σ v' h => ?_)
    simp only [VRel] at h
    simp only [opD, intOp, tv, D.int, D.bool, h]

 omit hE in
theorem shiftD_run {op : BinOp} {t : TypeId} {k yk : IntKind} {a b : Int} (ho : op = .shl ∨ op = .shr) (hb : 0 ≤ b) (w : World) :
    (binOp op t (.int k a) (.int yk b)).run P w = .ok (tv (.i k) (opD op k a b)) w := by
  cases b with
  | negSucc m => simp at hb
  | ofNat m =>
    obtain ⟨v, hv⟩ : ∃ v, shiftOp op k a (.ofNat m) = some v := by rcases ho with rfl | rfl <;> exact ⟨_, rfl⟩
    rcases ho with rfl | rfl
    all_goals
      obtain ⟨v', h1, h2⟩ := shiftOp_run (P := P) (t := t) (yk := yk) hv w
      rw [h1]
      have := h2 (fun _ => none)
      simp only [shiftOp, Option.some.injEq] at hv
      subst hv
      simp only [VRel] at this
      simp only [this, opD, shiftOp, tv, D.int]

theorem bin2_ok {op : BinOp} {t : TypeId} {k : IntKind} {a b : SX} {v : V} (h : bin2 E op k a b = some v) (w : World) :
    ∃ v', (binOp op t (.int k a.den.int) (.int k b.den.int)).run P w = .ok v' w ∧ VRel σ v v' := by
  have self : ∀ (a b : SX), SX.beq a b = true → a.den.int = b.den.int := fun a b h => by rw [SX.beq_eq _ _ h]
  have go : ∀ (sk : SK) (ht : op ≠ .shl ∧ op ≠ .shr) (hk : skOk op sk k b.den.int),
      ∃ v', (binOp op t (.int k a.den.int) (.int k b.den.int)).run P w = .ok v' w ∧ VRel σ (E.mk' sk (.bin op k a b)) v' := by
    intro sk ht hk
    exact ⟨_, opD_run (P := P) ht hk w, mk_ok hE sk (.bin op k a b)⟩
  unfold bin2 at h
  split at h <;> first | (cases h; done) | skip
  all_goals first
    | (cases h; exact go _ (by simp) rfl)
    | skip
  all_goals (split at h <;> first | (cases h; done) | skip)
  all_goals first
    | (cases h; rename_i hz; exact go _ (by simp) ⟨rfl, notZero_ok hE hz⟩)
    | (cases h; exact go _ (by simp) rfl)
    | skip
  all_goals
    cases h
    rename_i hs
    refine ⟨_, opD_run (P := P) (sk := .b) (by simp) (by simp [skOk]) w, ?_⟩
    simp only [VRel, tv, opD, intOp, self _ _ hs, D.bool, intBeq_eq, intLe_eq, intLt_eq]
    simp

theorem binS_ok {op : BinOp} {t : TypeId} {x y v : V} {x' y' : Value} (h : binS E op x y = some v) (hx : VRel σ x x') (hy : VRel σ y y') (w : World) :
    ∃ k a k' b, x' = .int k a ∧ y' = .int k' b ∧ ∃ v', (binOp op t x' y').run P w = .ok v' w ∧ VRel σ v v' := by
  unfold binS at h
  split at h
  · rename_i k a k' b h1 h2
    have e1 := xInt_ok h1 hx
    have e2 := xInt_ok h2 hy
    subst e1; subst e2
    refine ⟨_, _, _, _, rfl, rfl, ?_⟩
    split at h
    · split at h
      · rename_i hn; cases h
        exact ⟨_, shiftD_run (.inl rfl) (notNeg_ok hn) w, mk_ok hE (.i k) (.bin .shl k a b)⟩
      · cases h
    · split at h
      · rename_i hn; cases h
        exact ⟨_, shiftD_run (.inr rfl) (notNeg_ok hn) w, mk_ok hE (.i k) (.bin .shr k a b)⟩
      · cases h
    · split at h
      · rename_i hk
        have := kindBeq_eq hk; subst this
        exact bin2_ok hE h w
      · cases h
  · cases h

theorem binS_eql {x y : V} {r : Bool} (h : binS E .eql x y = some (.bool r)) {x' y' : Value} (hx : VRel σ x x') (hy : VRel σ y y') :
    ∃ k a b, x' = .int k a ∧ y' = .int k b ∧ r = (a == b) := by
  have h0 := h
  unfold binS at h
  split at h
  · rename_i k a k' b h1 h2
    have e1 := xInt_ok h1 hx
    have e2 := xInt_ok h2 hy
    simp only at h
    split at h
    · rename_i hk
      have := kindBeq_eq hk; subst this
      refine ⟨k, _, _, e1, e2, ?_⟩
      obtain ⟨v', h3, h4⟩ := bin2_ok (P := P) (σ := σ) (t := 0) hE h (default : World)
      simp only [binOp_eql, Sem.run_pure, Result.ok.injEq] at h3
      simp only [VRel] at h4
      rw [h4] at h3
      simp at h3
      exact h3.symm
    · cases h
  · cases h

 omit hE in
theorem xBytes_ok {x : V} {l : List V} (h : xBytes x = some l) {x' : Value} (hx : VRel σ x x') :
    ∃ s : ByteArray, x' = .string s ∧ VRels σ l (s.data.toList.map fun b => .int .u8 (Int.ofNat b.toNat)) := by
  unfold xBytes at h
  split at h
  · rename_i s
    cases h
    simp only [VRel] at hx
    refine ⟨s, hx, ?_⟩
    generalize s.data.toList = m
    induction m with
    | nil => simp [VRels]
    | cons b m ih => simp only [List.map_cons, VRels]; exact ⟨_, _, rfl, by simp [VRel], ih⟩
  · cases h
    simpa only [VRel] using hx
  · cases h

theorem eqBytes_ok : ∀ (l m : List V) (r : Bool), eqBytes E l m = some r → ∀ (a b : List UInt8), VRels σ l (a.map fun b => .int .u8 (Int.ofNat b.toNat)) → VRels σ m (b.map fun b => .int .u8 (Int.ofNat b.toNat)) → r = (a == b)
  | [], [], r, h, a, b, ha, hb => by
    simp only [eqBytes, Option.some.injEq] at h
    simp only [VRels, List.map_eq_nil_iff] at ha hb
    subst ha; subst hb; subst h; rfl
  | [], y :: m, r, h, a, b, ha, hb => by
    simp only [eqBytes, Option.some.injEq] at h
    simp only [VRels, List.map_eq_nil_iff] at ha hb
    obtain ⟨v', l', e, _⟩ := hb
    subst ha; subst h
    cases b with
    | nil => simp at e
    | cons => rfl
  | x :: l, [], r, h, a, b, ha, hb => by
    simp only [eqBytes, Option.some.injEq] at h
    simp only [VRels, List.map_eq_nil_iff] at ha hb
    obtain ⟨v', l', e, _⟩ := ha
    subst hb; subst h
    cases a with
    | nil => simp at e
    | cons => rfl
  | x :: l, y :: m, r, h, a, b, ha, hb => by
    simp only [eqBytes] at h
    simp only [VRels] at ha hb
    obtain ⟨v1, l1, e1, hv1, hl1⟩ := ha
    obtain ⟨v2, l2, e2, hv2, hl2⟩ := hb
    cases a with
    | nil => simp at e1
    | cons a0 a =>
      cases b with
      | nil => simp at e2
      | cons b0 b =>
        simp only [List.map_cons, List.cons.injEq] at e1 e2
        obtain ⟨rfl, rfl⟩ := e1
        obtain ⟨rfl, rfl⟩ := e2
        cases hb : binS E .eql x y with
        | none => simp [hb] at h
        | some v =>
          rw [hb] at h
          cases v <;> first | (simp at h; done) | skip
          rename_i q
          obtain ⟨k, a1, b1, e3, e4, h3⟩ := binS_eql (P := P) hE hb hv1 hv2
          simp only [Value.int.injEq] at e3 e4
          cases q with
          | true =>
            simp only at h
            have hr := eqBytes_ok l m r h a b hl1 hl2
            have h3 := h3.symm
            simp at h3
            have : a0 = b0 := UInt8.toNat_inj.1 (by have h5 := e3.2; have h6 := e4.2; have h7 : a1 = b1 := h3; simp at h5 h6; omega)
            subst this
            rw [hr]; simp
          | false =>
            simp only [Option.some.injEq] at h
            subst h
            have h3 := h3.symm
            simp at h3
            have : a0 ≠ b0 := fun e => h3 (by rw [← e3.2, ← e4.2, e])
            simp [this]

theorem eqS_ok {x y : V} {r : Bool} (h : eqS E x y = some r) {x' y' : Value} (hx : VRel σ x x') (hy : VRel σ y y') :
    ∃ a b : ByteArray, x' = .string a ∧ y' = .string b ∧ r = (a.data.toList == b.data.toList) := by
  unfold eqS at h
  split at h
  · rename_i l m h1 h2
    obtain ⟨a, e1, ha⟩ := xBytes_ok h1 hx
    obtain ⟨b, e2, hb⟩ := xBytes_ok h2 hy
    refine ⟨a, b, e1, e2, ?_⟩
    split at h
    · exact eqBytes_ok (P := P) hE l m r h _ _ ha hb
    · rename_i hne
      cases h
      have := Nat.ne_of_beq_eq_false hne
      have l1 := ha.length; have l2 := hb.length
      simp at l1 l2
      symm
      rw [beq_eq_false_iff_ne]
      intro e
      apply this
      have := congrArg List.length e
      simp at this
      omega
  · cases h
end
end Go.Bx
