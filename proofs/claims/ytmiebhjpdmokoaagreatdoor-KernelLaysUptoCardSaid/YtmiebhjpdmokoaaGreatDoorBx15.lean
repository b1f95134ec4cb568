/- A region in the order of the text. -/
import Derived.Test.YtmiebhjpdmokoaaGreatDoorBx14
import Derived.OrdersIn
import Derived.LoopNIn
set_option linter.all false
namespace Go.Bx
open Go.RowKit
variable [Valn]

/-- The evaluator's state beside the model's. 'F': what each place holds. -/
structure SRel (n G : Nat) (w0 : Base) (B : Nat) (σ : Sub) (F : Nat → V) (h : Hp) (ds : DL) (a : Act) (w : World) : Prop where
  size : a.tmps.size = n
  tm : ∀ t, VRel σ (F t) (a.tmps.getD t undef)
  heap : HRel G w0 B σ h w
  ds : DRel w0.w.heap.size σ ds a.defers

def setF (F : Nat → V) (dst : Option Tmp) (v : V) : Nat → V := fun t => if dst = some t then v else F t

theorem getD_set {a : Array Value} {d t : Nat} {v u : Value} (hd : d < a.size) : (a.setIfInBounds d v).getD t u = if d = t then v else a.getD t u := by
  by_cases e : d = t
  · subst e; simp [hd]
  · rw [if_neg e]
    simp [Array.getD_eq_getD_getElem?, Array.getElem?_setIfInBounds_ne e]

theorem putT_ok {n : Nat} (hn : n ≤ 1000000) {tm tm' : T V} {dst : Option Tmp} {v : V} (h : putT n tm dst v = some tm') : getT tm' = setF (getT tm) dst v ∧ ∀ d, dst = some d → d < n := by
  cases dst with
  | none => simp only [putT, Option.some.injEq] at h; subst h; exact ⟨by funext t; simp [setF], by simp⟩
  | some d =>
    simp only [putT] at h
    cases hb : Nat.blt d n with
    | false => simp [hb] at h
    | true =>
      have hd : d < n := by rw [Nat.blt_eq] at hb; exact hb
      simp only [hb, Option.some.injEq] at h; subst h
      refine ⟨?_, by rintro _ ⟨⟩; exact hd⟩
      funext t
      simp only [getT, setF, T.get_set v 40 tm d t (pow40 (Nat.le_trans (Nat.le_of_lt hd) (by omega)))]
      by_cases e : t = d
      · subst e; simp
      · have : ¬ (some d = some t) := by simp; exact fun h => e h.symm
        simp [e, this]

theorem put_rel {n : Nat} {σ : Sub} {F : Nat → V} {a : Act} (hs : a.tmps.size = n) (hF : ∀ t, VRel σ (F t) (a.tmps.getD t undef)) {dst : Option Tmp} (hd : ∀ d, dst = some d → d < n) {v : V} {v' : Value} (hv : VRel σ v v') :
    (a.put dst v').tmps.size = n ∧ ∀ t, VRel σ (setF F dst v t) ((a.put dst v').tmps.getD t undef) := by
  cases dst with
  | none => exact ⟨hs, fun t => by simpa [setF, Act.put] using hF t⟩
  | some d =>
    have hd := hd d rfl
    refine ⟨by simp [Act.put, hs], fun t => ?_⟩
    simp only [Act.put, getD_set (by rw [hs]; exact hd : d < a.tmps.size), setF]
    by_cases e : d = t
    · subst e; simpa using hv
    · simpa [e] using hF t

/-- What a condition ahead of an operation says. -/
theorem guardV_ok {ops : Array Oper} {tm : T V} {o : Oper} {b : Bool} (h : guardV ops.toList tm o = some b) {a : Act} {σ : Sub}
    (hrel : ∀ g want t, o.guard = some (g, want) → (ops[g]?).bind (·.dst) = some t → VRel σ (getT tm t) (a.tmps.getD t undef)) : Region.wanted o (yielded ops a.tmps) = b := by
  unfold guardV at h
  unfold Region.wanted
  cases hg : o.guard with
  | none => rw [hg] at h; simp at h; simp [h]
  | some p =>
    obtain ⟨j, want⟩ := p
    rw [hg] at h
    simp only at h ⊢
    cases ho : ops.toList[j]? with
    | none => rw [ho] at h; simp at h
    | some g =>
      rw [ho] at h
      simp only at h
      have ho' : ops[j]? = some g := by simpa using ho
      cases hd : g.dst with
      | none => rw [hd] at h; simp at h
      | some d =>
        rw [hd] at h
        simp only at h
        have hb : (ops[j]?).bind (·.dst) = some d := by rw [ho']; exact hd
        have hr := hrel j want d hg hb
        have hy : ∀ u : Value, a.tmps.getD d undef = u → (∀ q, u ≠ .bool q) → yielded ops a.tmps j = none := by
          intro u hu hq
          unfold yielded
          rw [hb]
          simp only [Option.bind_some]
          cases ht : a.tmps[d]? with
          | none => rfl
          | some x =>
            have : a.tmps.getD d undef = x := by simp [Array.getD_eq_getD_getElem?, ht]
            rw [this] at hu; subst hu
            cases x <;> first | rfl | exact absurd rfl (hq _)
        have hyb : ∀ q : Bool, a.tmps.getD d undef = .bool q → yielded ops a.tmps j = some q := by
          intro q hu
          unfold yielded
          rw [hb]
          simp only [Option.bind_some]
          cases ht : a.tmps[d]? with
          | none => simp [Array.getD_eq_getD_getElem?, ht, undef] at hu
          | some x =>
            have : a.tmps.getD d undef = x := by simp [Array.getD_eq_getD_getElem?, ht]
            rw [this] at hu; subst hu; rfl
        cases hx : tm.get d with
        | none =>
          rw [hx] at h
          simp at h; subst h
          have : getT tm d = undefV := by simp [getT, hx]
          rw [this] at hr
          simp only [undefV, VRel] at hr
          obtain ⟨cs', e, _⟩ := hr
          rw [hy _ e (by simp)]; rfl
        | some x =>
          rw [hx] at h
          rw [getT_get hx] at hr
          cases x
          case bool q =>
            simp only [VRel] at hr
            rw [hyb q hr]
            cases want <;> cases q <;> simp at h <;> subst h <;> rfl
          case top => simp at h
          case sym => simp at h
          all_goals
            simp only [Option.some.injEq] at h; subst h
            simp only [VRel] at hr
            rw [hy (a.tmps.getD d undef) rfl (by
              intro q hq
              rw [hq] at hr
              first
                | (obtain ⟨_, _, _, _, _, _, _, hc, _⟩ := hr; cases hc; done)
                | (obtain ⟨_, _, _, _, _, _, hc, _⟩ := hr; cases hc; done)
                | (obtain ⟨_, _, ⟨_, _, hc, _⟩ | ⟨_, _, _, hc, _⟩⟩ := hr <;> cases hc; done)
                | (obtain ⟨_, _, _, _, hc, _⟩ := hr; cases hc; done)
                | (cases hr; done)
                | (obtain ⟨_, _, hc⟩ := hr; cases hc; done)
                | (obtain ⟨_, hc, _⟩ := hr; cases hc; done)
                | (obtain ⟨_, _, hc, _⟩ := hr; cases hc; done)
                | (obtain ⟨_, _, _, _, hc, _⟩ := hr; cases hc; done))]
            rfl

/-- The fence that lets all in, of a round or of none. -/
abbrev fw (ro : Option Nat) : Fence := { Fence.wide with round := ro }

theorem callsIn_fw {ro : Option Nat} {n : Nat} {P : Program} {f : FuncId} {args : Array Value} {w : World} {R : Ending → World → Prop} (h : Calls P f args w R) : CallsIn (fw ro) n P f args w R :=
  (callsIn_wide (n := n)).2 h

theorem quiet_defer {E : Env} {c : Call} {ρ : Operand → V} {h : Hp} {v : V} (hq : quiet E (.defer c) ρ h = some v) : False := by
  simp [quiet, quiet0, quietS] at hq
theorem loud_defer {E : Env} {c : Call} {ρ : Operand → V} {h : Hp} {r : V × Hp} (hq : loud E (.defer c) ρ h = some r) : False := by
  simp [loud] at hq

section
variable {P : Program} {E : Env} (hE : EnvOk P E) {ro : Option Nat} (hnd : E.nd = false → ro = none) {call : CallF} (hc : CallOk P E.G call) {σ : Sub} {w0 : Base} {B : Nat} {h : Hp} {w : World} (hH : HRel E.G w0 B σ h w)
 include hE hH

/-- An operation that only looks. -/
theorem quiet_wp {o : Oper} {a : Act} {ρ : Operand → V} (hρ : ∀ x ∈ o.op.operands, VRel σ (ρ x) (a.eval x)) {v : V} (hq : quiet E o.op ρ h = some v) {K : Act → World → Prop} {Q : Exit → Act → World → Prop}
    (hK : ∀ v', VRel σ v v' → K (a.put o.dst v') w) : o.wpIn (fw ro) 0 P a w K Q := by
  classical
  let ρ2 : Operand → V := fun x => if x ∈ o.op.operands then ρ x else .top
  have h2 : quiet E o.op ρ2 h = some v := by rw [← hq]; exact quiet_congr E o.op (fun x hx => by simp [ρ2, hx]) h
  have hρ2 : ∀ x, VRel σ (ρ2 x) (a.eval x) := fun x => by
    by_cases hx : x ∈ o.op.operands
    · simpa [ρ2, hx] using hρ x hx
    · simp [ρ2, hx, VRel]
  obtain ⟨v', h3, h4⟩ := quiet_ok hE hH hρ2 h2
  refine ⟨fun _ _ => trivial, ?_⟩
  rw [Oper.semAt_eq _ _ _ (fun c hc => by rw [hc] at hq; exact quiet_defer hq), h3]
  exact hK v' h4

 include hc hnd

/-- One that acts. -/
theorem oneLoud_wp {o : Oper} {a : Act} {ρ : Operand → V} (hρ : ∀ x ∈ o.op.operands, VRel σ (ρ x) (a.eval x)) {ds ds' : DL} {m : Nat} (hD : DRel m σ ds a.defers) {v : V} {h' : Hp} (hq : oneLoud E call o ρ h ds = some (v, h', ds')) {K : Act → World → Prop} {Q : Exit → Act → World → Prop}
    (hK : ∀ (τ : Sub) (v' : Value) (w' : World) (a' : Act), σ.le τ → HRel E.G w0 B τ h' w' → VRel τ v v' → DRel m τ ds' a'.defers → a'.tmps = a.tmps → K (a'.put o.dst v') w') : o.wpIn (fw ro) 0 P a w K Q := by
  classical
  let ρ2 : Operand → V := fun x => if x ∈ o.op.operands then ρ x else .top
  have h2 : oneLoud E call o ρ2 h ds = some (v, h', ds') := by rw [← hq]; exact oneLoud_congr E call o (fun x hx => by simp [ρ2, hx]) h ds
  have hρ2 : ∀ x, VRel σ (ρ2 x) (a.eval x) := fun x => by
    by_cases hx : x ∈ o.op.operands
    · simpa [ρ2, hx] using hρ x hx
    · simp [ρ2, hx, VRel]
  clear hq hρ
  generalize ρ2 = ρ at h2 hρ2
  unfold oneLoud at h2
  cases ht : target E o.op ρ with
  | some p =>
    obtain ⟨f, args⟩ := p
    simp only [ht] at h2
    cases hcall : call f args h with
    | none => simp [hcall] at h2
    | some q =>
      obtain ⟨v1, h1⟩ := q
      simp only [hcall, Option.some.injEq, Prod.mk.injEq] at h2
      obtain ⟨rfl, rfl, rfl⟩ := h2
      obtain ⟨hf, hcon⟩ := hc f args h v1 h1 hcall
      obtain ⟨dst, op, ty, pos, after, guard⟩ := o
      obtain ⟨args', hrun, hargs⟩ := target_ok hρ2 ht hf ty dst pos after guard w hE
      refine ⟨fun _ _ => trivial, ?_⟩
      rw [Oper.semAt_eq _ _ _ (fun c hc => by simp only at hc ht; rw [hc] at ht; simp [target] at ht), hrun, Oper.uponIn_enter]
      refine ⟨fun hh => by simp [Fence.wide] at hh, callsIn_fw ?_⟩
      refine (hcon w0 B σ w args' hH hargs).mono ?_
      rintro e w' ⟨v', τ, rfl, hle, hH', hv⟩
      exact hK τ v' w' a hle hH' hv (DRel.mono hle _ _ hD) rfl
  | none =>
    simp only [ht] at h2
    cases hd : deferT E o.op ρ with
    | some d =>
      simp only [hd, Option.some.injEq, Prod.mk.injEq] at h2
      obtain ⟨rfl, rfl, rfl⟩ := h2
      obtain ⟨dst, op, ty, pos, after, guard⟩ := o
      simp only at hd
      unfold deferT at hd
      split at hd
      case h_2 => cases hd
      rename_i hndf
      obtain rfl := hnd hndf
      unfold deferT0 at hd
      split at hd
      · rename_i g as tys
        have hg := hρ2 g
        split at hd
        · rename_i k first captured hk
          cases hd
          rw [hk] at hg; simp only [VRel] at hg
          obtain ⟨f', c', e, r1, r2⟩ := hg
          refine ⟨fun _ _ => trivial, ?_⟩
          have hrun : (execOp a.eval ⟨dst, .defer ⟨.value g, as, tys⟩, ty, pos, after, guard⟩).run P w = .ok (.defer { target := .fn (.func k) c', args := f' ++ as.map a.eval }) w := by
            simp [execOp, resolve, Deferred.ofValue, e]
          rw [Oper.semAt_none, hrun, Oper.uponIn_defer]
          refine hK σ undef w { a with defers := _ :: a.defers } (Sub.le_refl _) hH (VRel.undef σ) ?_ rfl
          simp only [DRel]
          refine ⟨_, a.defers, c', rfl, rfl, ?_, hD⟩
          have := (r1.append (VRels.map hρ2 as.toList)).append r2
          simpa using this
        · cases hd
      · cases hd
    | none =>
      simp only [hd] at h2
      have fin : ∀ {v1 : V} {h1 : Hp}, v1 = v → h1 = h' → ds = ds' → LPost E.G w0 B σ h1 v1 ((execOp a.eval o).run P w) → (∀ c, o.op = .defer c → False) → o.wpIn (fw ro) 0 P a w K Q := by
        rintro v1 h1 rfl rfl rfl ⟨v', w', τ, hrun, hle, hH', hv⟩ hnd2
        refine ⟨fun _ _ => trivial, ?_⟩
        rw [Oper.semAt_eq _ _ _ (fun c hc => hnd2 c hc)]
        rcases hrun with hrun | ⟨hrun, rfl⟩
        · rw [hrun, Oper.uponIn_value]
          exact hK τ v' w' a hle hH' hv (DRel.mono hle _ _ hD) rfl
        · rw [hrun, Oper.uponIn_skip]
          exact hK τ undef w' a hle hH' hv (DRel.mono hle _ _ hD) rfl
      cases hl : loud E o.op ρ h with
      | none =>
        simp only [hl] at h2
        cases hl2 : loudS E o.op ρ h with
        | none => simp [hl2] at h2
        | some q =>
          obtain ⟨v1, h1⟩ := q
          simp only [hl2, Option.some.injEq, Prod.mk.injEq] at h2
          exact fin h2.1 h2.2.1 h2.2.2 (loudS_ok hE hH hρ2 hl2) (fun c hc => by rw [hc] at hl2; simp [loudS] at hl2)
      | some q =>
        obtain ⟨v1, h1⟩ := q
        simp only [hl, Option.some.injEq, Prod.mk.injEq] at h2
        exact fin h2.1 h2.2.1 h2.2.2 (loud_ok hE hH hρ2 hl) (fun c hc => by rw [hc] at hl; exact loud_defer hl)
end

section
variable {P : Program} {E : Env} (hE : EnvOk P E) {ro : Option Nat} (hnd : E.nd = false → ro = none) {call : CallF} (hc : CallOk P E.G call) {n : Nat} (hn : n ≤ 1000000) {w0 : Base} {B : Nat}
 include hE hnd hc hn

/-- One operation, where it stands. -/
theorem oneOp_wp {σ : Sub} {tm : T V} {h h' : Hp} {ds ds' : DL} {a : Act} {w : World} {o : Oper} {v : V} (hS : SRel n E.G w0 B σ (getT tm) h ds a w) (ho : oneOp E call o tm h ds = some (v, h', ds')) (hd : ∀ d, o.dst = some d → d < n) {K : Act → World → Prop} {Q : Exit → Act → World → Prop}
    (hK : ∀ (τ : Sub) (a' : Act) (w' : World), σ.le τ → SRel n E.G w0 B τ (setF (getT tm) o.dst v) h' ds' a' w' → K a' w') : o.wpIn (fw ro) 0 P a w K Q := by
  have hρ : ∀ x ∈ o.op.operands, VRel σ (opnd E.G tm x) (a.eval x) := fun x _ => opnd_rel hS.heap (fun t => hS.tm t) x
  unfold oneOp at ho
  cases hq : isQuiet E o.op with
  | true =>
    simp only [hq] at ho
    cases hv : quiet E o.op (opnd E.G tm) h with
    | none => simp [hv] at ho
    | some v1 =>
      simp only [hv, Option.some.injEq, Prod.mk.injEq] at ho
      obtain ⟨rfl, rfl, rfl⟩ := ho
      refine quiet_wp hE hS.heap hρ hv (fun v' hv' => ?_)
      obtain ⟨p1, p2⟩ := put_rel hS.size hS.tm hd hv'
      exact hK σ _ w (Sub.le_refl _) ⟨p1, p2, hS.heap, by cases hdd : o.dst <;> simpa [Act.put, hdd] using hS.ds⟩
  | false =>
    simp only [hq] at ho
    refine oneLoud_wp hE hnd hc hS.heap hρ hS.ds ho (fun τ v' w' a' hle hH' hv hD' ht => ?_)
    obtain ⟨p1, p2⟩ := put_rel (a := a') (by rw [ht]; exact hS.size) (fun t => by rw [ht]; exact VRel.mono hle _ _ (hS.tm t)) hd hv
    exact hK τ _ w' hle ⟨p1, p2, hH', by cases hdd : o.dst <;> simpa [Act.put, hdd] using hD'⟩

theorem runOps_ok {ops : Array Oper} {Q : Exit → Act → World → Prop} : ∀ (l : List Oper) (k : Nat) (σ : Sub) (tm : T V) (h : Hp) (ds : DL) (tm' : T V) (h' : Hp) (ds' : DL) (a : Act) (w : World), ops.toList.drop k = l → runOps E call n ops.toList l tm h ds = some (tm', h', ds') →
    SRel n E.G w0 B σ (getT tm) h ds a w → (∀ τ a' w', σ.le τ → SRel n E.G w0 B τ (getT tm') h' ds' a' w' → Q .normal a' w') → wpOpsIn (fw ro) 0 P ops Q (List.range' k l.length) a w
  | [], k, σ, tm, h, ds, tm', h', ds', a, w, _, hr, hS, hQ => by
    simp only [runOps, Option.some.injEq, Prod.mk.injEq] at hr
    obtain ⟨rfl, rfl, rfl⟩ := hr
    exact hQ σ a w (Sub.le_refl _) hS
  | o :: l, k, σ, tm, h, ds, tm', h', ds', a, w, hk, hr, hS, hQ => by
    have ho : ops[k]? = some o := by
      have : (ops.toList.drop k)[0]? = some o := by rw [hk]; rfl
      rw [List.getElem?_drop] at this
      simpa using this
    have hk' : ops.toList.drop (k + 1) = l := by
      rw [← List.drop_drop, hk]; rfl
    rw [List.length_cons, List.range'_succ, wpOpsIn_cons]
    unfold wpOpIn
    rw [ho]
    simp only [runOps] at hr
    cases hg : guardV ops.toList tm o with
    | none => simp [hg] at hr
    | some b =>
      have hw := guardV_ok hg (a := a) (σ := σ) (fun _ _ t _ _ => hS.tm t)
      cases b with
      | true =>
        simp only [hg] at hr
        cases h1 : oneOp E call o tm h ds with
        | none => simp [h1] at hr
        | some q =>
          obtain ⟨v, h2, ds2⟩ := q
          simp only [h1] at hr
          cases hp : putT n tm o.dst v with
          | none => simp [hp] at hr
          | some tm2 =>
            simp only [hp] at hr
            obtain ⟨e1, e2⟩ := putT_ok hn hp
            simp only [hw, if_true]
            refine oneOp_wp hE hnd hc hn hS h1 e2 (fun τ a' w' hle hS' => ?_)
            exact runOps_ok l (k + 1) τ tm2 h2 ds2 tm' h' ds' a' w' hk' hr (by rw [e1]; exact hS') (fun τ2 a2 w2 hle2 hS2 => hQ τ2 a2 w2 (Sub.le_trans hle hle2) hS2)
      | false =>
        simp only [hg] at hr
        cases hp : putT n tm o.dst undefV with
        | none => simp [hp] at hr
        | some tm2 =>
          simp only [hp] at hr
          obtain ⟨e1, e2⟩ := putT_ok hn hp
          simp only [hw, Bool.false_eq_true, if_false]
          refine ⟨fun _ _ => trivial, ?_⟩
          obtain ⟨p1, p2⟩ := put_rel hS.size hS.tm e2 (VRel.undef σ)
          exact runOps_ok l (k + 1) σ tm2 h ds tm' h' ds' _ w hk' hr (by rw [e1]; exact ⟨p1, p2, hS.heap, by cases hdd : o.dst <;> simpa [Act.put, hdd] using hS.ds⟩) hQ
end
end Go.Bx
