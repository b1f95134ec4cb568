/- The quiet operations: the evaluator's value is the model's. -/
import Derived.Test.YtmiebhjpdmokoaaGreatDoorBx3s
import Derived.Laws.Slices
set_option linter.all false
namespace Go.Bx
open Go.RowKit
variable [Valn]

section
variable {P : Program} {E : Env} (hE : EnvOk P E) {σ : Sub}
 include hE

theorem eqFields_ok (d : Nat) (eq : TypeId → V → V → Option Bool)
    (heq : ∀ t x y r, eq t x y = some r → ∀ x' y', VRel σ x x' → VRel σ y y' → ∀ w, (Op.equalIn d t x' y').run P w = .ok r w) {xs ys : List V} {xs' ys' : Array Value} (hx : VRels σ xs xs'.toList) (hy : VRels σ ys ys'.toList) :
    ∀ (fs : List Field) (r : Bool), eqV.eqFields E eq fs xs ys = some r → ∀ w, (Op.eqFields d xs' ys' fs).run P w = .ok r w
  | [], r, h, w => by simp only [eqV.eqFields] at h; cases h; rfl
  | f :: fs, r, h, w => by
    simp only [eqV.eqFields] at h
    simp only [Op.eqFields]
    cases hn : (f.name == "_") with
    | true =>
      simp only [hn] at h
      have hn' : f.name = "_" := by simpa using hn
      simp only [hn', ne_eq, not_true, if_false]
      exact eqFields_ok d eq heq hx hy fs r h w
    | false =>
      simp only [hn] at h
      have hn' : f.name ≠ "_" := by simpa using hn
      cases ha : part E f.type xs f.offset with
      | none => simp only [ha] at h; cases h
      | some a =>
        cases hb : part E f.type ys f.offset with
        | none => simp only [ha, hb] at h; cases h
        | some b =>
          simp only [ha, hb] at h
          obtain ⟨a', ra, va⟩ := part_ok hE ha hx w
          obtain ⟨b', rb, vb⟩ := part_ok hE hb hy w
          cases he : eq f.type a b with
          | none => simp only [he] at h; cases h
          | some q =>
            simp only [he] at h
            have hq := heq f.type a b q he a' b' va vb w
            simp only [ne_eq, hn', not_false_eq_true, if_true, Sem.run_bind, ra, rb, hq, Result.andThen_ok]
            cases q with
            | false => simp only [Option.some.injEq] at h; subst h; simp
            | true => simpa using eqFields_ok d eq heq hx hy fs r h w

set_option maxHeartbeats 1000000 in
theorem eqV_ok : ∀ (d : Nat) (t : TypeId) (x y : V) (r : Bool), eqV E d t x y = some r → ∀ (x' y' : Value), VRel σ x x' → VRel σ y y' → ∀ w, (Op.equalIn d t x' y').run P w = .ok r w := by
  intro d
  induction d with
  | zero => intro t x y r h; simp [eqV] at h
  | succ d ih =>
    intro t x y r h x' y' hx hy w
    unfold eqV at h
    split at h <;> rename_i hu
    all_goals first
      | (cases h; done)
      | skip
    all_goals
      have hx0 := hx
      have hy0 := hy
      simp only [VRel] at hx hy
    · subst hx; subst hy
      rename_i a b
      simp only [Op.equalIn, Sem.run_bind, run_und hE hu, Result.andThen_ok, Sem.run_pure]
      cases a <;> cases b <;> simp at h <;> subst h <;> rfl
    · subst hx; subst hy
      rename_i k a k' b
      cases hk : kindBeq k k' with
      | false => simp [hk] at h
      | true =>
        simp only [hk, Option.some.injEq] at h
        have := kindBeq_eq hk; subst this; subst h
        simp [Op.equalIn, run_und hE hu, intBeq_eq]
    · split at h
      · rename_i q hq
        cases h
        obtain ⟨k, a, b, rfl, rfl, rfl⟩ := binS_eql (P := P) hE hq hx0 hy0
        simp [Op.equalIn, run_und hE hu]
      · cases h
    · split at h
      · rename_i q hq
        cases h
        obtain ⟨k, a, b, rfl, rfl, rfl⟩ := binS_eql (P := P) hE hq hx0 hy0
        simp [Op.equalIn, run_und hE hu]
      · cases h
    · subst hx; subst hy
      simp only [Option.some.injEq] at h; subst h
      simp [Op.equalIn, run_und hE hu, strBeq_eq, beq_toListBytes]
    · obtain ⟨a, b, rfl, rfl, rfl⟩ := eqS_ok (P := P) hE h hx0 hy0
      simp [Op.equalIn, run_und hE hu, ← ByteArray.toList_eq, beq_toListBytes]
    · obtain ⟨a, b, rfl, rfl, rfl⟩ := eqS_ok (P := P) hE h hx0 hy0
      simp [Op.equalIn, run_und hE hu, ← ByteArray.toList_eq, beq_toListBytes]
    · rename_i a b
      simp only [tv] at hx hy
      subst hx; subst hy
      have key : (asBytes a.den.list == asBytes b.den.list) = r := by
        split at h
        · rename_i hb
          cases h
          rw [SX.beq_eq _ _ hb]; simp
        · split at h
          · rename_i q hq
            cases h
            have := look_ok hE (.teq a b)
            rw [hq] at this
            simpa [SX.den] using this.symm
          · cases h
      subst key
      simp [Op.equalIn, run_und hE hu, ← ByteArray.toList_eq, beq_toListBytes]
    · subst hx; subst hy; cases h; simp [Op.equalIn, run_und hE hu]
    · subst hx; obtain ⟨q, _, rfl⟩ := hy; cases h; simp [Op.equalIn, run_und hE hu]
    · subst hy; obtain ⟨q, _, rfl⟩ := hx; cases h; simp [Op.equalIn, run_und hE hu]
    · subst hx; subst hy; cases h; simp [Op.equalIn, run_und hE hu]
    · subst hx; obtain ⟨q, rfl, _⟩ := hy; cases h; simp [Op.equalIn, run_und hE hu]
    · subst hy; obtain ⟨q, rfl, _⟩ := hx; cases h; simp [Op.equalIn, run_und hE hu]
    · subst hx; subst hy; cases h; simp [Op.equalIn, run_und hE hu]
    · subst hx; obtain ⟨q, _, rfl⟩ := hy; cases h; simp [Op.equalIn, run_und hE hu]
    · subst hy; obtain ⟨q, _, rfl⟩ := hx; cases h; simp [Op.equalIn, run_und hE hu]
    · subst hx; obtain ⟨q, a, c, _, rfl, _⟩ := hy; cases h; simp [Op.equalIn, run_und hE hu]
    · subst hy; obtain ⟨q, a, c, _, rfl, _⟩ := hx; cases h; simp [Op.equalIn, run_und hE hu]
    · subst hx; subst hy; cases h; simp [Op.equalIn, run_und hE hu]
    · subst hx; obtain ⟨q, _, rfl⟩ := hy; cases h; simp [Op.equalIn, run_und hE hu]
    · subst hy; obtain ⟨q, _, rfl⟩ := hx; cases h; simp [Op.equalIn, run_und hE hu]
    · subst hx; subst hy; cases h; simp [Op.equalIn, run_und hE hu]
    · subst hx; obtain ⟨q, c, rfl, _⟩ := hy; cases h; simp [Op.equalIn, run_und hE hu]
    · subst hy; obtain ⟨q, c, rfl, _⟩ := hx; cases h; simp [Op.equalIn, run_und hE hu]
    · rename_i fs xs ys
      obtain ⟨xs', rfl, hxs⟩ := hx
      obtain ⟨ys', rfl, hys⟩ := hy
      cases hst : E.P.stoodInHeld t with
      | true => simp [hst] at h
      | false =>
        simp only [hst] at h
        have hu' := und_ok hE hu
        have hfo : P.fieldsOf t = fs := by simp [Program.fieldsOf, hu']
        rw [run_equalIn_struct w d t xs' ys' (by rw [hfo]; exact hu') (by rw [← hE.prog]; exact hst), hfo]
        exact eqFields_ok hE d _ (fun t x y r h x' y' a b w => ih t x y r h x' y' a b w) hxs hys fs.toList r h w

 omit hE in
theorem tv_nilIface (t : SK) (d : D) : (tv t d = .nilIface) = False := by cases t <;> simp [tv]
 omit hE in
theorem tv_agg (t : SK) (d : D) (c : Array Value) : (tv t d = .agg c) = False := by cases t <;> simp [tv]

theorem guardOk_run {op : BinOp} {t : TypeId} {x y : Operand} {a b : V} {a' b' : Value} (hg : guardOk E t x y a b = true) (ha : VRel σ a a') (hb : VRel σ b b') (w : World) :
    (eqGuard op t x y a' b').run P w = .ok () w := by
  have trivial_of : ∀ {a' b' : Value}, (¬ (a' = .nilIface ∧ b' = .nilIface)) → (∀ c d, ¬ (a' = .agg c ∧ b' = .agg d)) → (eqGuard op t x y a' b').run P w = .ok () w := by
    intro a' b' h1 h2
    cases a' with
    | nilIface => cases b' <;> first | exact absurd ⟨rfl, rfl⟩ h1 | (cases op <;> rfl)
    | agg c => cases b' <;> first | exact absurd ⟨rfl, rfl⟩ (h2 _ _) | (cases op <;> rfl)
    | _ => cases op <;> rfl
  cases a with
  | top => simp [guardOk] at hg
  | nilIface =>
    simp only [VRel] at ha; subst ha
    cases b with
    | top => simp [guardOk] at hg
    | nilIface =>
      simp only [VRel] at hb; subst hb
      simp only [guardOk] at hg
      cases op <;> cases x <;> cases y <;> first | rfl | (simp at hg; done)
    | xsl _ _ _ => simp [guardOk] at hg
    | xarg _ _ _ => simp [guardOk] at hg
    | osl _ _ _ => simp [guardOk] at hg
    | xptr _ _ => simp [guardOk] at hg
    | _ =>
      simp only [VRel] at hb
      refine trivial_of ?_ ?_ <;> (first | subst hb | (obtain ⟨_, _, rfl⟩ := hb) | (obtain ⟨_, rfl, _⟩ := hb) | (obtain ⟨_, _, rfl, _⟩ := hb) | (obtain ⟨_, _, _, _, rfl, _⟩ := hb)) <;> simp [tv_nilIface, tv_agg]
  | agg cs =>
    simp only [VRel] at ha; obtain ⟨cs', rfl, _⟩ := ha
    cases b with
    | top => simp [guardOk] at hg
    | agg ds =>
      simp only [VRel] at hb; obtain ⟨ds', rfl, _⟩ := hb
      simp only [guardOk] at hg
      refine run_eqGuard_agg w op t x y cs' ds' ?_
      rw [hE.prog] at hg
      simpa using hg
    | xsl _ _ _ => simp [guardOk] at hg
    | xarg _ _ _ => simp [guardOk] at hg
    | osl _ _ _ => simp [guardOk] at hg
    | xptr _ _ => simp [guardOk] at hg
    | _ =>
      simp only [VRel] at hb
      refine trivial_of ?_ ?_ <;> (first | subst hb | (obtain ⟨_, _, rfl⟩ := hb) | (obtain ⟨_, rfl, _⟩ := hb) | (obtain ⟨_, _, rfl, _⟩ := hb) | (obtain ⟨_, _, _, _, rfl, _⟩ := hb)) <;> simp [tv_nilIface, tv_agg]
  | xsl _ _ _ => cases b <;> simp [guardOk] at hg
  | xarg _ _ _ => cases b <;> simp [guardOk] at hg
  | osl _ _ _ => cases b <;> simp [guardOk] at hg
  | xptr _ _ => cases b <;> simp [guardOk] at hg
  | _ =>
    simp only [VRel] at ha
    refine trivial_of ?_ ?_ <;> (first | subst ha | (obtain ⟨_, _, rfl⟩ := ha) | (obtain ⟨_, rfl, _⟩ := ha) | (obtain ⟨_, _, rfl, _⟩ := ha) | (obtain ⟨_, _, _, _, rfl, _⟩ := ha)) <;> simp [tv_nilIface, tv_agg]

end
end Go.Bx
