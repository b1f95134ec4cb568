/- Floats: new objects of a region that isn't ordered; their names are kept ahead of all. -/
import Derived.Test.YtmiebhjpdmokoaaGreatDoorBx16
set_option linter.all false
namespace Go.Bx
open Go.RowKit
variable [Valn]

theorem HRel.weaken {G : Nat} {w0 w1 : Base} {B : Nat} {σ : Sub} {h : Hp} {w : World} (hH : HRel G w0 B σ h w) (hw : w1.w = w0.w) (hU : ∀ i, w1.U i = true → w0.U i = true) : HRel G w1 B σ h w :=
  ⟨by rw [hw]; exact hH.below, by rw [hw]; exact hH.keep, hH.Bsize, hH.nb, hH.dom, hH.glob, hH.obj, fun i hi => hH.unb i (hU i hi), hH.rel, hH.inj⟩

theorem SRel.weaken {n G : Nat} {w0 w1 : Base} {B : Nat} {σ : Sub} {F : Nat → V} {h : Hp} {ds : DL} {a : Act} {w : World} (hS : SRel n G w0 B σ F h ds a w) (hw : w1.w = w0.w) (hU : ∀ i, w1.U i = true → w0.U i = true) : SRel n G w1 B σ F h ds a w :=
  ⟨hS.size, hS.tm, hS.heap.weaken hw hU, by rw [hw]; exact hS.ds⟩

/-- A name gets its block. -/
theorem HRel.born {G : Nat} {w0 : Base} {B : Nat} {σ : Sub} {h : Hp} {w : World} (hH : HRel G w0 B σ h w) {b : Nat} {o : O} (hU : w0.U b = true) (hg : h.t.get b = some o) (ob : Obj) {r : Ren} (hr : r.block = w.heap.size)
    (ho : ORel (σ.add b r) B r (w.alloc ob) o) : HRel G ⟨w0.w, fun i => w0.U i && !(Nat.beq i b)⟩ B (σ.add b r) h (w.alloc ob) := by
  obtain ⟨hnone, hlt⟩ := hH.unb b hU
  have hle := Sub.le_add (r := r) hnone
  have old : ∀ i q, i ≠ b → (σ.add b r) i = some q → σ i = some q := fun i q hne hq => by simpa [Sub.add, hne] using hq
  refine ⟨hH.below.alloc hH.Bsize ob, hH.keep.trans (Keeps.same (fun k hk => Below.heap_alloc _ _ _ hk)), by simp; have := hH.Bsize; omega, hH.nb, fun i q hq => ?_, fun g hg => ?_, hH.obj, fun i hi => ?_, fun i x hx hxd q hq => ?_, fun i j x y q q' hx hy hxd hyd hq hq' e => ?_⟩
  · by_cases e : i = b
    · subst e; exact hlt
    · exact hH.dom i q (old i q e hq)
  · obtain ⟨q, h1, h2⟩ := hH.glob g hg
    exact ⟨q, hle _ _ h1, h2⟩
  · simp only [Bool.and_eq_true, Bool.not_eq_true'] at hi
    obtain ⟨h1, h2⟩ := hH.unb i hi.1
    have hne : i ≠ b := by rintro rfl; simp at hi
    exact ⟨by simp [Sub.add, hne, h1], h2⟩
  · by_cases e : i = b
    · subst e
      rw [hg] at hx; cases hx
      rw [Sub.add_same] at hq; cases hq
      exact ho
    · have h2 := hH.rel i x hx hxd q (old i q e hq)
      exact ORel.mono hle (Below.heap_alloc _ _ _ (h2.lt hxd)) h2
  · by_cases e1 : i = b
    · by_cases e2 : j = b
      · rw [e1, e2]
      · subst e1
        rw [Sub.add_same] at hq; cases hq
        have h2 := (hH.rel j y hy hyd q' (old j q' e2 hq')).lt hyd
        omega
    · have hq1 := old i q e1 hq
      by_cases e2 : j = b
      · subst e2
        rw [Sub.add_same] at hq'; cases hq'
        have h2 := (hH.rel i x hx hxd q hq1).lt hxd
        omega
      · exact hH.inj i j x y q q' hx hy hxd hyd hq1 (old j q' e2 hq') e

/-- An object whose name has no block yet. -/
theorem HRel.keepName {G : Nat} {w0 : Base} {B : Nat} {σ : Sub} {h : Hp} {w : World} (hH : HRel G w0 B σ h w) {b : Nat} {o : O} {h' : Hp} (ha : h.alloc o = some (b, h')) :
    b = h.n ∧ h'.n = h.n + 1 ∧ HRel G ⟨w0.w, fun i => w0.U i || Nat.beq i h.n⟩ B σ h' w := by
  unfold Hp.alloc at ha
  cases hb : Nat.blt h.n 1000000000 with
  | false => simp [hb] at ha
  | true =>
    have hlt : h.n < 1000000000 := by rw [Nat.blt_eq] at hb; exact hb
    simp only [hb, Option.some.injEq, Prod.mk.injEq] at ha
    obtain ⟨rfl, rfl⟩ := ha
    have hf := hH.fresh
    have gp : ∀ i, T.get (h.t.set 40 h.n o) i = if i = h.n then some o else h.t.get i := fun i => T.get_set o 40 h.t h.n i (pow40 (by omega))
    have up : ∀ i x q, T.get (h.t.set 40 h.n o) i = some x → σ i = some q → h.t.get i = some x := by
      intro i x q hx hq
      rw [gp] at hx
      split at hx
      · rename_i e; subst e; rw [hf] at hq; cases hq
      · exact hx
    refine ⟨rfl, rfl, hH.below, hH.keep, hH.Bsize, by show h.n + 1 ≤ _; omega, fun i q hq => by show i < h.n + 1; have := hH.dom i q hq; omega, hH.glob, fun i x hx => ?_, fun i hi => ?_, fun i x hx hxd q hq => hH.rel i x (up i x q hx hq) hxd q hq,
      fun i j x y q q' hx hy hxd hyd hq hq' e => hH.inj i j x y q q' (up i x q hx hq) (up j y q' hy hq') hxd hyd hq hq' e⟩
    · show i < h.n + 1
      rw [gp] at hx
      split at hx
      · omega
      · have := hH.obj i x hx; omega
    · show _ ∧ i < h.n + 1
      simp only [Bool.or_eq_true] at hi
      rcases hi with hi | hi
      · obtain ⟨h1, h2⟩ := hH.unb i hi
        exact ⟨h1, by omega⟩
      · have := Nat.eq_of_beq_eq_true hi
        subst this
        exact ⟨hf, by omega⟩

theorem reserve_ok {E : Env} {ops : List Oper} {tm : T V} {G : Nat} {w0 : Base} {B : Nat} {σ : Sub} {w : World} : ∀ (fx : List Nat) (h h' : Hp) (U : Nat → Bool), HRel G ⟨w0.w, U⟩ B σ h w → reserve E ops tm fx h = some h' →
    ∃ U' : Nat → Bool, HRel G ⟨w0.w, U'⟩ B σ h' w ∧ ∀ i, (U i = true ∨ h.n ≤ i ∧ i < h.n + fx.length) → U' i = true
  | [], h, h', U, hH, hr => by
    simp only [reserve, Option.some.injEq] at hr; subst hr
    exact ⟨U, hH, fun i hi => by rcases hi with h1 | h1; exact h1; simp at h1; omega⟩
  | j :: l, h, h', U, hH, hr => by
    simp only [reserve] at hr
    split at hr
    · rename_i b h1 ha
      obtain ⟨rfl, hn1, hH1⟩ := hH.keepName ha
      obtain ⟨U', a1, a2⟩ := reserve_ok l h1 h' _ hH1 hr
      refine ⟨U', a1, fun i hi => a2 i ?_⟩
      simp only [List.length_cons] at hi
      by_cases e : i = h.n
      · left; subst e; simp
      · rcases hi with hi | hi
        · left; simp [hi]
        · right; omega
    · cases hr

theorem flAt_range : ∀ (fx : List Nat) (b j i : Nat), flAt fx b j = some i → b ≤ i ∧ i < b + fx.length
  | [], _, _, _, h => by simp [flAt] at h
  | x :: l, b, j, i, h => by
    simp only [flAt] at h
    simp only [List.length_cons]
    cases hb : Nat.beq x j with
    | true => simp only [hb, Option.some.injEq] at h; omega
    | false =>
      simp only [hb] at h
      have := flAt_range l (b + 1) j i h
      omega

theorem flAt_inj : ∀ (fx : List Nat) (b j k i : Nat), flAt fx b j = some i → flAt fx b k = some i → j = k
  | [], _, _, _, _, h, _ => by simp [flAt] at h
  | x :: l, b, j, k, i, h, h' => by
    simp only [flAt] at h h'
    cases hj : Nat.beq x j with
    | true =>
      simp only [hj, Option.some.injEq] at h; subst h
      cases hk : Nat.beq x k with
      | true => rw [← Nat.eq_of_beq_eq_true hj, ← Nat.eq_of_beq_eq_true hk]
      | false =>
        simp only [hk] at h'
        have := (flAt_range l _ _ _ h').1
        omega
    | false =>
      simp only [hj] at h
      cases hk : Nat.beq x k with
      | true =>
        simp only [hk, Option.some.injEq] at h'; subst h'
        have := (flAt_range l _ _ _ h).1
        omega
      | false =>
        simp only [hk] at h'
        exact flAt_inj l (b + 1) j k i h h'

theorem flAt_none : ∀ (fx : List Nat) (b c j : Nat), flAt fx b j = none → flAt fx c j = none
  | [], _, _, _, _ => rfl
  | x :: l, b, c, j, h => by
    simp only [flAt] at h ⊢
    cases hj : Nat.beq x j with
    | true => simp [hj] at h
    | false => simp only [hj] at h; exact flAt_none l _ _ j h

/-- The base where the steps in D have been taken: the names of the others' objects have no block. -/
def baseF (w0 : Base) (fx : List Nat) (bs len : Nat) (D : Nat → Bool) : Base :=
  ⟨w0.w, fun i => w0.U i || (List.range len).any fun j => (match flAt fx bs j with | some b => Nat.beq b i | none => false) && !(D j)⟩

theorem baseF_w {w0 : Base} {fx : List Nat} {bs len : Nat} {D : Nat → Bool} : (baseF w0 fx bs len D).w = w0.w := rfl

theorem baseF_U {w0 : Base} {fx : List Nat} {bs len : Nat} {D : Nat → Bool} {i : Nat} : (baseF w0 fx bs len D).U i = true ↔ w0.U i = true ∨ ∃ j, j < len ∧ flAt fx bs j = some i ∧ D j = false := by
  simp only [baseF, Bool.or_eq_true, List.any_eq_true, List.mem_range, Bool.and_eq_true, Bool.not_eq_true']
  constructor
  · rintro (h | ⟨j, h1, h2, h3⟩)
    · exact .inl h
    · refine .inr ⟨j, h1, ?_, h3⟩
      split at h2
      · rename_i b hb; rw [hb, Nat.eq_of_beq_eq_true h2]
      · cases h2
  · rintro (h | ⟨j, h1, h2, h3⟩)
    · exact .inl h
    · exact .inr ⟨j, h1, by rw [h2]; simp, h3⟩

theorem bornRow_ok {G : Nat} {σ : Sub} {w0 : Base} {B : Nat} {h : Hp} {w : World} (hH : HRel G w0 B σ h w) {b : Nat} {cs : List V} {e : TypeId} (hU : w0.U b = true) (hg : h.t.get b = some (.cells cs e)) (C : Array Value) (t : TypeId) (hc : VRels σ cs C.toList) :
    HRel G ⟨w0.w, fun i => w0.U i && !(Nat.beq i b)⟩ B (σ.add b ⟨w.heap.size, 0, C.size⟩) h (w.alloc (.cells C t)) := by
  have hl := hc.length
  simp at hl
  refine hH.born hU hg (.cells C t) (r := ⟨w.heap.size, 0, C.size⟩) rfl ⟨hH.Bsize, C, t, (0, 0), heap_alloc_new _ _, rfl, fun k _ => by simp, by simp; omega, fun k v hk => ?_⟩
  obtain ⟨v', h1, h2⟩ := ((VRels.iff _ _).1 hc).2 k v hk
  exact ⟨v', by simpa using h1, VRel.mono (Sub.le_add (hH.unb b hU).1) _ _ h2⟩

section
variable {P : Program} {E : Env} (hE : EnvOk P E) {σ : Sub} {w0 : Base} {B : Nat} {h : Hp} {w : World} (hH : HRel E.G w0 B σ h w)

 include hE hH

theorem float_ok {o : Oper} {ρ : Operand → V} {ρ' : Operand → Value} (hρ : ∀ x, VRel σ (ρ x) (ρ' x)) {b : Nat} (hU : w0.U b = true) {v : V} (hq : floatV E o.op ρ h b = some v) :
    ∃ v' w' τ, (execOp ρ' o).run P w = .ok (.value v') w' ∧ σ.le τ ∧ HRel E.G ⟨w0.w, fun i => w0.U i && !(Nat.beq i b)⟩ B τ h w' ∧ VRel τ v v' := by
  have lift : ∀ {s : Sem Value}, (∃ v' w' τ, s.run P w = .ok v' w' ∧ σ.le τ ∧ HRel E.G ⟨w0.w, fun i => w0.U i && !(Nat.beq i b)⟩ B τ h w' ∧ VRel τ v v') →
      ∃ v' w' τ, (do pure (Next.value (← s)) : Sem Next).run P w = .ok (.value v') w' ∧ σ.le τ ∧ HRel E.G ⟨w0.w, fun i => w0.U i && !(Nat.beq i b)⟩ B τ h w' ∧ VRel τ v v' := by
    rintro s ⟨v', w', τ, h1, h2⟩
    exact ⟨v', w', τ, by simp [h1], h2⟩
  obtain ⟨dst, op, type, pos, after, guard⟩ := o
  simp only at hq
  unfold floatV at hq
  split at hq
  case h_2 => cases hq
  rename_i cs e k cs' e' hf hg
  split at hq
  case h_2 => cases hq
  rename_i hcs he
  have hcs := vEqs_eq _ _ hcs
  subst hcs
  simp only [Option.some.injEq] at hq; subst hq
  have hle := Sub.le_add (r := ⟨w.heap.size, 0, 0⟩) (hH.unb b hU).1
  unfold freshOf at hf
  split at hf
  · -- alloc
    rename_i t
    split at hf
    · rename_i z hz
      cases hf
      obtain ⟨zv, hz1, hz2⟩ := zcells_ok (σ := σ) hE hz
      have r3 := bornRow_ok hH hU hg zv.cells e hz2
      refine lift ⟨_, _, _, ?_, Sub.le_add (hH.unb b hU).1, r3, by simp only [freshV, VRel]; exact ⟨_, Sub.add_same _ _ _, rfl⟩⟩
      simp [Instr.alloc, run_zero hE hz1, newVar, newRow]
    · cases hf
  · -- buildSlice
    rename_i t len parts
    split at hf
    case h_2 => cases hf
    rename_i e hu
    split at hf
    case h_2 => cases hf
    rename_i size hs
    split at hf
    case h_2 => cases hf
    rename_i z hz
    split at hf
    case h_2 => cases hf
    rename_i cs2 hlen hfl
    cases hf
    have hlen := Nat.le_of_ble_eq_true hlen
    obtain ⟨hzl, zv, hzr, hzrel, hzs⟩ := zcellsN_ok (P := P) (σ := σ) (w := w) hE hz
    let zero : Array Value := if len * size = 0 then #[] else zv.cells
    have hrel := replRel hzrel len (len * size) (by rw [hzs]) zero rfl
    obtain ⟨C, f1, f2⟩ := fillV_ok (place' := fun i => some (i * size, size)) (fun i p hp => hp) _ _ _ _ _ hfl hrel (mapOpnds_ok hρ parts.toList)
    have r3 := bornRow_ok hH hU hg C e f2
    have r1 : (newRow e C).run P w = .ok ⟨w.heap.size, 0, none⟩ (w.alloc (.cells C e)) := by simp [newRow]
    refine lift ⟨_, _, _, ?_, Sub.le_add (hH.unb b hU).1, r3, by simp only [freshV, VRel]; exact ⟨_, Sub.add_same _ _ _, rfl⟩⟩
    have e24 : (2 : Nat) ^ 24 = 16777216 := by decide
    unfold Instr.buildSlice
    simp only [Sem.run_bind, run_und hE hu, Result.andThen_ok, run_size hE hs]
    rw [if_neg (by omega)]
    by_cases h0 : len * size = 0
    · have hz0 : zero = #[] := if_pos h0
      rw [hz0] at f1
      rw [if_pos h0]
      simp only [Sem.run_bind, Sem.run_pure, Result.andThen_ok, Array.toList_map, f1, r1]
    · have hz0 : zero = zv.cells := if_neg h0
      rw [hz0] at f1
      rw [if_neg h0]
      simp only [Sem.run_bind, hzr, Sem.run_pure, Result.andThen_ok, Array.toList_map, f1, r1]
  · cases hf

theorem freshOf_congr (op : Op) {ρ ρ₂ : Operand → V} (h : ∀ x ∈ op.operands, ρ x = ρ₂ x) : freshOf E op ρ = freshOf E op ρ₂ := by
  cases op
  case buildSlice t n ps => simp only [freshOf]; rw [mapOpnds_congr ps.toList (fun p hp => h p.2 (by simp [Op.operands]; exact ⟨p.1, by simpa using hp⟩))]
  all_goals rfl

/-- A float. -/
theorem float_wp {ro : Option Nat} {o : Oper} {a : Act} {ρ : Operand → V} (hρ : ∀ x ∈ o.op.operands, VRel σ (ρ x) (a.eval x)) {b : Nat} (hU : w0.U b = true) {v : V} (hq : floatV E o.op ρ h b = some v) {K : Act → World → Prop} {Q : Exit → Act → World → Prop}
    (hK : ∀ (τ : Sub) (v' : Value) (w' : World), σ.le τ → HRel E.G ⟨w0.w, fun i => w0.U i && !(Nat.beq i b)⟩ B τ h w' → VRel τ v v' → K (a.put o.dst v') w') : o.wpIn (fw ro) 0 P a w K Q := by
  classical
  let ρ2 : Operand → V := fun x => if x ∈ o.op.operands then ρ x else .top
  have h2 : floatV E o.op ρ2 h b = some v := by
    rw [← hq]
    unfold floatV
    rw [freshOf_congr (P := P) hE hH o.op (ρ := ρ2) (ρ₂ := ρ) (fun x hx => by simp [ρ2, hx])]
  have hρ2 : ∀ x, VRel σ (ρ2 x) (a.eval x) := fun x => by
    by_cases hx : x ∈ o.op.operands
    · simpa [ρ2, hx] using hρ x hx
    · simp [ρ2, hx, VRel]
  obtain ⟨v', w', τ, h3, h4, h5, h6⟩ := float_ok (P := P) hE hH hρ2 hU h2
  refine ⟨fun _ _ => trivial, ?_⟩
  rw [Oper.semAt_eq _ _ _ (fun c hc => by rw [hc] at hq; simp [floatV, freshOf] at hq), h3, Oper.uponIn_value]
  exact hK τ v' w' h4 h5 h6
end
end Go.Bx
