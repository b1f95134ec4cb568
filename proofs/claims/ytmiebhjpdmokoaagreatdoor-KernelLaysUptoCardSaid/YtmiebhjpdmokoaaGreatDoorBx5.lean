/- The quiet operations, further. -/
import Derived.Test.YtmiebhjpdmokoaaGreatDoorBx4
set_option linter.all false
namespace Go.Bx
open Go.RowKit
variable [Valn]

/-- Values of terms. -/
def V.isSym : V → Bool
  | .sym _ _ | .bstr _ => true
  | _ => false

theorem VRel.int_inv {σ : Sub} {a : V} {k : IntKind} {n : Int} (h : VRel σ a (.int k n)) : a = .top ∨ a = .int k n ∨ (∃ k' ex, a = .intNot k' ex) ∨ ∃ e, a = .sym (.i k) e := by
  cases a <;> simp [VRel] at h ⊢
  case int => exact ⟨h.1.symm, h.2.symm⟩
  case sym t e => cases t <;> simp [tv] at h ⊢; exact h.1.symm
theorem VRel.float_inv {σ : Sub} {a : V} {k : FloatKind} {n : Nat} (h : VRel σ a (.float k n)) : a = .top := by
  cases a <;> simp [VRel] at h ⊢
  case sym t e => cases t <;> simp [tv] at h
theorem VRel.complex_inv {σ : Sub} {a : V} {k : FloatKind} {n m : Nat} (h : VRel σ a (.complex k n m)) : a = .top := by
  cases a <;> simp [VRel] at h ⊢
  case sym t e => cases t <;> simp [tv] at h
theorem VRel.string_inv {σ : Sub} {a : V} {s : ByteArray} (h : VRel σ a (.string s)) : a = .top ∨ a = .str s ∨ (∃ e, a = .sym .s e) ∨ ∃ l, a = .bstr l := by
  cases a <;> simp [VRel] at h ⊢
  case str => exact h.symm
  case sym t e => cases t <;> simp [tv] at h ⊢

theorem binOp_eql_gen {t : TypeId} {a b : Value} (h1 : ∀ k n k' n', ¬ (a = .int k n ∧ b = .int k' n')) (h2 : ∀ k n k' n', ¬ (a = .float k n ∧ b = .float k' n'))
    (h3 : ∀ k n m k' n' m', ¬ (a = .complex k n m ∧ b = .complex k' n' m')) (h4 : ∀ s s', ¬ (a = .string s ∧ b = .string s')) :
    binOp .eql t a b = (do pure (.bool (← Op.equal t a b))) := by
  cases a <;> cases b <;> first | rfl | exact absurd ⟨rfl, rfl⟩ (h1 _ _ _ _) | exact absurd ⟨rfl, rfl⟩ (h2 _ _ _ _) | exact absurd ⟨rfl, rfl⟩ (h3 _ _ _ _ _ _) | exact absurd ⟨rfl, rfl⟩ (h4 _ _)
theorem binOp_neq_gen {t : TypeId} {a b : Value} (h1 : ∀ k n k' n', ¬ (a = .int k n ∧ b = .int k' n')) (h2 : ∀ k n k' n', ¬ (a = .float k n ∧ b = .float k' n'))
    (h3 : ∀ k n m k' n' m', ¬ (a = .complex k n m ∧ b = .complex k' n' m')) (h4 : ∀ s s', ¬ (a = .string s ∧ b = .string s')) :
    binOp .neq t a b = (do pure (.bool (!(← Op.equal t a b)))) := by
  cases a <;> cases b <;> first | rfl | exact absurd ⟨rfl, rfl⟩ (h1 _ _ _ _) | exact absurd ⟨rfl, rfl⟩ (h2 _ _ _ _) | exact absurd ⟨rfl, rfl⟩ (h3 _ _ _ _ _ _) | exact absurd ⟨rfl, rfl⟩ (h4 _ _)

theorem binS_right {E : Env} {op : BinOp} {a b v : V} (h : binS E op a b = some v) : (∃ p, xInt a = some p) ∧ ∃ p, xInt b = some p := by
  unfold binS at h
  split at h
  · rename_i h1 h2; exact ⟨⟨_, h1⟩, ⟨_, h2⟩⟩
  · cases h

theorem eqV_not_top {E : Env} {d : Nat} {t : TypeId} {a b : V} {r : Bool} (h : eqV E d t a b = some r) : (a ≠ .top ∧ b ≠ .top) ∧ (∀ k ex, a ≠ .intNot k ex) ∧ ∀ k ex, b ≠ .intNot k ex := by
  cases d with
  | zero => simp [eqV] at h
  | succ d =>
    refine ⟨⟨?_, ?_⟩, ?_, ?_⟩
    · rintro rfl; unfold eqV at h; split at h <;> first | (cases h; done) | (rename_i heq; cases heq) | skip
      all_goals first
        | (simp_all; done)
        | (split at h <;> first | (cases h; done) | (rename_i hb; obtain ⟨⟨_, h1⟩, ⟨_, h2⟩⟩ := binS_right hb; simp [xInt] at h1 h2))
        | (unfold eqS at h; split at h <;> simp_all [xBytes])
        | skip
    · rintro rfl; unfold eqV at h; split at h <;> first | (cases h; done) | (rename_i heq; cases heq) | skip
      all_goals first
        | (simp_all; done)
        | (split at h <;> first | (cases h; done) | (rename_i hb; obtain ⟨⟨_, h1⟩, ⟨_, h2⟩⟩ := binS_right hb; simp [xInt] at h1 h2))
        | (unfold eqS at h; split at h <;> simp_all [xBytes])
        | skip
    · rintro k ex rfl; unfold eqV at h; split at h <;> first | (cases h; done) | (rename_i heq; cases heq) | skip
      all_goals first
        | (simp_all; done)
        | (split at h <;> first | (cases h; done) | (rename_i hb; obtain ⟨⟨_, h1⟩, ⟨_, h2⟩⟩ := binS_right hb; simp [xInt] at h1 h2))
        | (unfold eqS at h; split at h <;> simp_all [xBytes])
        | skip
    · rintro k ex rfl; unfold eqV at h; split at h <;> first | (cases h; done) | (rename_i heq; cases heq) | skip
      all_goals first
        | (simp_all; done)
        | (split at h <;> first | (cases h; done) | (rename_i hb; obtain ⟨⟨_, h1⟩, ⟨_, h2⟩⟩ := binS_right hb; simp [xInt] at h1 h2))
        | (unfold eqS at h; split at h <;> simp_all [xBytes])
        | skip

theorem guardOk_sym {E : Env} {t : TypeId} {x y : Operand} {a b : V} (h : guardOk E t x y a b = true) : (a.isSym = false) ∧ b.isSym = false := by
  unfold guardOk at h
  split at h <;> first | (cases h; done) | skip
  · exact ⟨rfl, rfl⟩
  · exact ⟨rfl, rfl⟩
  · constructor
    · cases a <;> first | rfl | (simp at *)
    · cases b <;> first | rfl | (simp at *)

theorem memInt_ok {n : Int} : ∀ l, memInt n l = true → n ∈ l
  | [], h => by cases h
  | x :: l, h => by
    simp only [memInt] at h
    cases hb : intBeq n x with
    | true => rw [intBeq_eq] at hb; simp at hb; subst hb; exact List.mem_cons_self
    | false => simp only [hb] at h; exact List.mem_cons_of_mem _ (memInt_ok l h)

theorem surelyNe_ok {σ : Sub} {a b : V} (h : surelyNe a b = true) {a' b' : Value} (ha : VRel σ a a') (hb : VRel σ b b') : ∃ k x y, a' = .int k x ∧ b' = .int k y ∧ x ≠ y := by
  unfold surelyNe at h
  split at h
  · rename_i k ex k' n
    split at h
    · rename_i hk
      have := kindBeq_eq hk; subst this
      simp only [VRel] at ha hb
      obtain ⟨m, rfl, hm⟩ := ha
      subst hb
      exact ⟨_, m, n, rfl, rfl, fun e => hm (e ▸ memInt_ok ex h)⟩
    · cases h
  · cases h

section
variable {P : Program} {E : Env} (hE : EnvOk P E) {σ : Sub}
 include hE

theorem binV_ok {op : BinOp} {t : TypeId} {x y : Operand} {a b v : V} {a' b' : Value} (h : binV E op t x y a b = some v) (ha : VRel σ a a') (hb : VRel σ b b') (w : World) :
    ∃ v', (do eqGuard op t x y a' b'; binOp op t a' b' : Sem Value).run P w = .ok v' w ∧ VRel σ v v' := by
  unfold binV at h
  split at h
  · simp only [VRel] at ha hb; subst ha; subst hb
    obtain ⟨v', h1, h2⟩ := shiftOp_run (P := P) (t := t) h w
    exact ⟨v', by rw [eqGuard_shl]; simpa using h1, h2 σ⟩
  · simp only [VRel] at ha hb; subst ha; subst hb
    obtain ⟨v', h1, h2⟩ := shiftOp_run (P := P) (t := t) h w
    exact ⟨v', by rw [eqGuard_shr]; simpa using h1, h2 σ⟩
  · rename_i k a k' b hn1 hn2
    simp only [VRel] at ha hb; subst ha; subst hb
    cases hk : kindBeq k k' with
    | false => simp [hk] at h
    | true =>
      simp only [hk] at h
      have := kindBeq_eq hk; subst this
      obtain ⟨v', h1, h2⟩ := intOp_run (P := P) (t := t) h ⟨hn1, hn2⟩ w
      exact ⟨v', by rw [eqGuard_at_int]; simpa using h1, h2 σ⟩
  · rename_i a b
    simp only [VRel] at ha hb; subst ha; subst hb
    split at h
    · rename_i hle
      cases h
      have := Nat.le_of_ble_eq_true hle
      exact ⟨_, by rw [eqGuard_add]; simp only [binOp_string_add]; simpa using run_string_add_sum w a b this, by simp [VRel]⟩
    · cases h
  · rename_i a b
    simp only [VRel] at ha hb; subst ha; subst hb
    cases h
    exact ⟨_, by rw [eqGuard_at_string]; simp only [binOp_string_eql]; rfl, by simp [VRel, strBeq_eq]⟩
  · rename_i a b
    simp only [VRel] at ha hb; subst ha; subst hb
    cases h
    exact ⟨_, by rw [eqGuard_at_string]; simp only [binOp_string_neq]; rfl, by simp [VRel, strBeq_eq]⟩
  · split at h
    · rename_i hne
      cases h
      obtain ⟨k, x, y, rfl, rfl, hxy⟩ := surelyNe_ok hne ha hb
      exact ⟨_, by rw [eqGuard_at_int]; simp only [binOp_eql]; rfl, by simp [VRel, hxy]⟩
    · cases h
  · split at h
    · rename_i hne
      cases h
      obtain ⟨k, x, y, rfl, rfl, hxy⟩ := surelyNe_ok hne ha hb
      exact ⟨_, by rw [eqGuard_at_int]; simp only [binOp_neq]; rfl, by simp [VRel]; exact hxy⟩
    · cases h
  · rename_i hi hs
    split at h
    · rename_i hg
      split at h
      · rename_i r hr
        cases h
        obtain ⟨⟨nt1, nt2⟩, nn1, nn2⟩ := eqV_not_top hr
        obtain ⟨ns1, ns2⟩ := guardOk_sym hg
        refine ⟨.bool r, ?_, by simp [VRel]⟩
        rw [binOp_eql_gen]
        · simp only [Sem.run_bind, guardOk_run hE hg ha hb, Result.andThen_ok, Op.equal]
          have := eqV_ok hE (σ := σ) _ t a b r hr a' b' ha hb w
          simp only [eqDepth] at this
          simp [Op.maxDepth, this]
        · rintro k n k' n' ⟨rfl, rfl⟩
          rcases ha.int_inv with e | rfl | ⟨_, _, e⟩ | ⟨_, rfl⟩
          · exact nt1 e
          · rcases hb.int_inv with e | rfl | ⟨_, _, e⟩ | ⟨_, rfl⟩
            · exact nt2 e
            · exact hi _ _ _ _ rfl rfl
            · exact nn2 _ _ e
            · cases ns2
          · exact nn1 _ _ e
          · cases ns1
        · rintro k n k' n' ⟨rfl, rfl⟩; exact nt1 ha.float_inv
        · rintro k n m k' n' m' ⟨rfl, rfl⟩; exact nt1 ha.complex_inv
        · rintro s s' ⟨rfl, rfl⟩
          rcases ha.string_inv with e | rfl | ⟨_, rfl⟩ | ⟨_, rfl⟩
          · exact nt1 e
          · rcases hb.string_inv with e | rfl | ⟨_, rfl⟩ | ⟨_, rfl⟩
            · exact nt2 e
            · exact hs _ _ rfl rfl
            · cases ns2
            · cases ns2
          · cases ns1
          · cases ns1
      · cases h
    · cases h
  · rename_i hi hs
    split at h
    · rename_i hg
      split at h
      · rename_i r hr
        cases h
        obtain ⟨⟨nt1, nt2⟩, nn1, nn2⟩ := eqV_not_top hr
        obtain ⟨ns1, ns2⟩ := guardOk_sym hg
        refine ⟨.bool (!r), ?_, by simp [VRel]⟩
        rw [binOp_neq_gen]
        · simp only [Sem.run_bind, guardOk_run hE hg ha hb, Result.andThen_ok, Op.equal]
          have := eqV_ok hE (σ := σ) _ t a b r hr a' b' ha hb w
          simp only [eqDepth] at this
          simp [Op.maxDepth, this]
        · rintro k n k' n' ⟨rfl, rfl⟩
          rcases ha.int_inv with e | rfl | ⟨_, _, e⟩ | ⟨_, rfl⟩
          · exact nt1 e
          · rcases hb.int_inv with e | rfl | ⟨_, _, e⟩ | ⟨_, rfl⟩
            · exact nt2 e
            · exact hi _ _ _ _ rfl rfl
            · exact nn2 _ _ e
            · cases ns2
          · exact nn1 _ _ e
          · cases ns1
        · rintro k n k' n' ⟨rfl, rfl⟩; exact nt1 ha.float_inv
        · rintro k n m k' n' m' ⟨rfl, rfl⟩; exact nt1 ha.complex_inv
        · rintro s s' ⟨rfl, rfl⟩
          rcases ha.string_inv with e | rfl | ⟨_, rfl⟩ | ⟨_, rfl⟩
          · exact nt1 e
          · rcases hb.string_inv with e | rfl | ⟨_, rfl⟩ | ⟨_, rfl⟩
            · exact nt2 e
            · exact hs _ _ rfl rfl
            · cases ns2
            · cases ns2
          · cases ns1
          · cases ns1
      · cases h
    · cases h
  · cases h
end

theorem unV_ok {P : Program} {σ : Sub} {op : UnOp} {x v : V} {x' : Value} (h : unV op x = some v) (hx : VRel σ x x') (w : World) :
    ∃ v', (Op.unary op x').run P w = .ok v' w ∧ VRel σ v v' := by
  unfold unV at h
  split at h
  · simp only [VRel] at hx; subst hx; cases h
    exact ⟨_, by simp [Op.unary, Op.intArith]; rfl, by simp [VRel, wrapK_eq]⟩
  · rename_i k n
    simp only [VRel] at hx; subst hx; cases h
    refine ⟨_, by simp only [Op.unary, Op.intBits]; rfl, ?_⟩
    simp only [VRel, wrapK_eq, toBits_eq, fullBits_eq]
    congr 3
    have : BitVec.ofInt k.bits (if k.signed then -1 else k.max) = BitVec.allOnes k.bits := by
      apply BitVec.eq_of_toNat_eq
      rw [BitVec.toNat_ofInt, BitVec.toNat_allOnes]
      cases k <;> decide
    rw [this]
    have e : BitVec.allOnes k.bits ^^^ BitVec.ofInt k.bits n = ~~~ (BitVec.ofInt k.bits n) := by
      rw [BitVec.not_def]
    rw [e, BitVec.toNat_not]; rfl
  · simp only [VRel] at hx; subst hx; cases h
    exact ⟨_, rfl, by simp [VRel]⟩
  · cases h

end Go.Bx
