/- Functions, and a call from nothing. -/
import Derived.Test.YtmiebhjpdmokoaaGreatDoorBx18
import Derived.RangeFuncLeaves
set_option linter.all false
namespace Go.Bx
open Go.RowKit
variable [Valn]

/-- What a table of put-off calls must be good for. -/
def DCallOk (P : Program) (G : Nat) (dcall : FuncId → List V → Hp → Option Hp) : Prop :=
  ∀ f args h h', dcall f args h = some h' → Enters P f ∧ ∀ w0 B σ w (args' : Array Value), HRel G w0 B σ h w → VRels σ args args'.toList →
    CallsDIn (fw none) 0 P f args' .returning w fun e u' w' => ∃ v' τ, e = .returned v' ∧ u' = .returning ∧ σ.le τ ∧ HRel G w0 B τ h' w'

theorem startT_get : ∀ (l : List V) (k : Nat) (t : T V) (x : Nat), k + l.length ≤ 1000000 → getT (startT l k t) x = if k ≤ x ∧ x < k + l.length then (l[x - k]?).getD undefV else getT t x
  | [], k, t, x, _ => by rw [startT, if_neg (by simp)]
  | v :: l, k, t, x, h => by
    simp only [List.length_cons] at h ⊢
    rw [startT, startT_get l (k + 1) _ x (by omega)]
    have hs : getT (T.set 40 t k v) x = if x = k then v else getT t x := by
      simp only [getT, T.get_set v 40 t k x (pow40 (by omega))]
      by_cases e : x = k
      · simp only [e, if_true]
      · simp only [e, if_false]
    by_cases e : x = k
    · subst e
      rw [if_neg (by omega), hs, if_pos rfl, if_pos (by omega), Nat.sub_self]
      rfl
    · by_cases hx : k + 1 ≤ x ∧ x < k + 1 + l.length
      · rw [if_pos hx, if_pos (by omega), show x - k = (x - (k + 1)) + 1 by omega, List.getElem?_cons_succ]
      · rw [if_neg hx, hs, if_neg e, if_neg (by omega)]

/-- The frame at the begin. -/
theorem start_rel {n G : Nat} {w0 : Base} {B : Nat} {σ : Sub} {h : Hp} {w : World} (hH : HRel G w0 B σ h w) {args : List V} {args' : Array Value} (hr : VRels σ args args'.toList) (hl : args.length ≤ n) (hn : n ≤ 1000000) :
    SRel n G w0 B σ (getT (startT args 0 .nil)) h [] { tmps := args' ++ Array.replicate (n - args'.size) undef, defers := [] } w := by
  have hlen := hr.length
  simp at hlen
  refine ⟨by simp; omega, fun t => ?_, hH, rfl⟩
  rw [startT_get args 0 .nil t (by omega)]
  simp only [Array.getD_eq_getD_getElem?]
  by_cases ht : t < args.length
  · rw [if_pos ⟨Nat.zero_le _, by omega⟩, Nat.sub_zero]
    obtain ⟨v', h1, h2⟩ := ((VRels.iff _ _).1 hr).2 t args[t] (List.getElem?_eq_getElem ht)
    rw [List.getElem?_eq_getElem ht]
    have h1' : args'[t]? = some v' := by simpa using h1
    rw [Array.getElem?_append_left (by omega), h1']
    exact h2
  · rw [if_neg (by omega)]
    have : getT (.nil : T V) t = undefV := rfl
    rw [this, Array.getElem?_append_right (by omega), Array.getElem?_replicate]
    split <;> exact VRel.undef σ

section
variable {P : Program} {E : Env} (hE : EnvOk P E)
 include hE

theorem results_ok {w0 : Base} {B : Nat} {σ : Sub} {tm : T V} {h : Hp} {a : Array Value} {w : World} (hH : HRel E.G w0 B σ h w) (hT : ∀ t, VRel σ (getT tm t) (a.getD t undef)) {fn : Func} {v : V} (hr : results1 (resV E tm h fn.results.toList) = some v) :
    ∃ v', (results fn a).run P w = .ok v' w ∧ VRel σ v v' := by
  have key : ∀ (g : ResultVar → Sem Value), (∀ t, (g (.tmp t)).run P w = .ok (a.getD t undef) w) → (∀ x t, (g (.cell x t)).run P w = ((asAddr (a.getD x undef)).run P w).andThen fun y w' => (loadVar t y).run P w') →
      ∀ (l : List ResultVar) (vs : List V), resV E tm h l = some vs → ∃ VS : List Value, (l.mapM g).run P w = .ok VS w ∧ VRels σ vs VS := by
    intro g g1 g2 l
    induction l with
    | nil => intro vs hv; simp only [resV, Option.some.injEq] at hv; subst hv; exact ⟨[], rfl, by simp [VRels]⟩
    | cons r l ih =>
      intro vs hv
      rw [List.mapM_cons]
      cases r with
      | tmp t =>
        simp only [resV] at hv
        cases hr : resV E tm h l with
        | none => simp [hr] at hv
        | some rs =>
          simp only [hr, Option.some.injEq] at hv; subst hv
          obtain ⟨VS, h1, h2⟩ := ih rs hr
          refine ⟨a.getD t undef :: VS, ?_, ?_⟩
          · simp only [Sem.run_bind, g1, Sem.run_pure, Result.andThen_ok, h1]
          · simp only [VRels]; exact ⟨_, _, rfl, hT t, h2⟩
      | cell x t =>
        simp only [resV] at hv
        split at hv
        · rename_i b o rs hx hr
          obtain ⟨VS, h1, h2⟩ := ih rs hr
          cases hl : loadAt E h t b o with
          | none => simp [hl] at hv
          | some u =>
            simp only [hl, Option.some.injEq] at hv; subst hv
            have hpx := hT x
            rw [hx] at hpx; simp only [VRel] at hpx
            obtain ⟨q2, hq2, e⟩ := hpx
            obtain ⟨q, hq, u', h3, h4⟩ := loadAt_ok (P := P) hE hH hl hq2
            rw [hq] at hq2; cases hq2
            refine ⟨u' :: VS, ?_, ?_⟩
            · simp only [Sem.run_bind, g2, e, asAddr, Sem.run_pure, Result.andThen_ok, h3, h1]
            · simp only [VRels]; exact ⟨_, _, rfl, h4, h2⟩
        · cases hv
  cases hv : resV E tm h fn.results.toList with
  | none => rw [hv] at hr; simp [results1] at hr
  | some vs =>
    have fin : ∀ (g : ResultVar → Sem Value), (∀ t, (g (.tmp t)).run P w = .ok (a.getD t undef) w) → (∀ x t, (g (.cell x t)).run P w = ((asAddr (a.getD x undef)).run P w).andThen fun y w' => (loadVar t y).run P w') →
        ∃ v', ((do let vs ← List.toArray <$> fn.results.toList.mapM g
                   pure (if h : vs.size = 1 then vs[0] else .tuple vs)) : Sem Value).run P w = .ok v' w ∧ VRel σ v v' := by
      intro g g1 g2
      obtain ⟨VS, h1, h2⟩ := key g g1 g2 _ vs hv
      refine ⟨if h : VS.toArray.size = 1 then VS.toArray[0] else .tuple VS.toArray, ?_, ?_⟩
      · simp only [Sem.run_bind, Sem.run_map, h1, Result.andThen_ok, Sem.run_pure]
      · rw [hv] at hr
        cases vs with
        | nil =>
          simp only [VRels] at h2; subst h2
          simp only [results1, Option.some.injEq] at hr; subst hr
          simp only [VRel]; exact ⟨_, rfl, by simp [VRels]⟩
        | cons x l =>
          cases l with
          | nil =>
            simp only [VRels] at h2
            obtain ⟨x', l', rfl, hx, rfl⟩ := h2
            simp only [results1, Option.some.injEq] at hr; subst hr
            simpa using hx
          | cons y l =>
            simp only [results1, Option.some.injEq] at hr; subst hr
            have hlen := h2.length
            have : ¬ (VS.toArray.size = 1) := by simp at hlen ⊢; omega
            rw [dif_neg this]
            simp only [VRel]; exact ⟨_, rfl, by simpa using h2⟩
    unfold results
    rw [Array.mapM_eq_mapM_toList]
    exact fin _ (fun _ => rfl) (fun _ _ => by simp only [Sem.run_bind])
variable (hmix : P.follows .mixedOrders = true) (hprog : ∀ (f : FuncId) (fn : Func) (c : Code), P.funcs[f]? = some fn → fn.body = some c → codeOk E c = true ∧ fn.name ≠ "runtime.NumGoroutine")
 include hmix hprog

theorem evBody_ok {call : CallF} (hc : CallOk P E.G call) {cf : Nat} {f : FuncId} {fn : Func} (hf : P.funcs[f]? = some fn) {args : List V} {h : Hp} {tm : T V} {h' : Hp} {ds : DL} (he : evBody E call cf fn args h = some (tm, h', ds)) :
    ∃ c, fn.body = some c ∧ ∀ (w0 : Base) (B : Nat) (σ : Sub) (w : World) (args' : Array Value) (Q : Exit → Act → World → Prop), HRel E.G w0 B σ h w → VRels σ args args'.toList →
      (∀ (τ : Sub) (a' : Act) (w' : World), σ.le τ → SRel fn.ntmps E.G w0 B τ (getT tm) h' ds a' w' → Q .normal a' w' ∧ Q .ret a' w') → c.wp P Q { tmps := args' ++ Array.replicate (fn.ntmps - args'.size) undef, defers := [] } w := by
  unfold evBody at he
  cases hb : fn.body with
  | none => simp [hb] at he
  | some c =>
    simp only [hb] at he
    refine ⟨c, rfl, fun w0 B σ w args' Q hH hr hQ => ?_⟩
    have hok := (hprog f fn c hf hb).1
    split at he
    · rename_i h1 h2
      have h1 := Nat.le_of_ble_eq_true h1
      have h2 := Nat.le_of_ble_eq_true h2
      have hS := start_rel hH hr h1 h2
      split at he
      · rename_i hev
        simp only [Option.some.injEq, Prod.mk.injEq] at he
        obtain ⟨rfl, rfl, rfl⟩ := he
        exact wpIn_wide.1 ((evCode_ok hmix h2 cf (ro := none) hE (fun _ => rfl) hc).1 c σ _ _ _ .normal _ _ _ _ w Q hok hev hS (fun τ a' w' hle hS' => (hQ τ a' w' hle hS').1))
      · rename_i hev
        simp only [Option.some.injEq, Prod.mk.injEq] at he
        obtain ⟨rfl, rfl, rfl⟩ := he
        exact wpIn_wide.1 ((evCode_ok hmix h2 cf (ro := none) hE (fun _ => rfl) hc).1 c σ _ _ _ .ret _ _ _ _ w Q hok hev hS (fun τ a' w' hle hS' => (hQ τ a' w' hle hS').2))
      · cases he
    · cases he

theorem evD_ok {call : CallF} (hc : CallOk P E.G call) {dorc : FuncId → List V → Hp → Option Hp} (hd : DCallOk P E.G dorc) (cf : Nat) : DCallOk P E.G (evD E call dorc cf) := by
  intro f args h h' he
  unfold evD at he
  cases ho : dorc f args h with
  | some x =>
    simp only [ho, Option.some.injEq] at he; subst he
    exact hd f args h _ ho
  | none =>
    simp only [ho] at he
    cases hfn : E.funcs.get f with
    | none => simp [hfn] at he
    | some fn =>
      simp only [hfn] at he
      have hf := hE.funcs f fn hfn
      split at he
      · rename_i tm h1 hb
        obtain ⟨c, hbody, hcode⟩ := evBody_ok hE hmix hprog hc hf hb
        refine ⟨⟨fn, hf, by rw [hbody]; simp, (hprog f fn c hf hbody).2⟩, fun w0 B σ w args' hH hr => ?_⟩
        split at he
        · rename_i v hres
          cases he
          refine (callsDIn_of_wp (F := fw none) (n := 0) (R := fun e w' => ∃ v' τ, e = .returned v' ∧ HRel E.G w0 B τ h' w' ∧ σ.le τ) hf hbody trivial (wpIn_wide.2 ?_)).mono ?_
          · refine hcode w0 B σ w args' _ hH hr (fun τ a' w' hle hS => ?_)
            obtain ⟨v', hv1, hv2⟩ := results_ok (P := P) hE hS.heap hS.tm hres
            have hd0 : a'.defers = [] := hS.ds
            exact ⟨⟨hd0, v', hv1, v', τ, rfl, hS.heap, hle⟩, ⟨hd0, v', hv1, v', τ, rfl, hS.heap, hle⟩⟩
          · rintro e u' w' ⟨rfl, v', τ, rfl, h1, h2⟩
            exact ⟨v', τ, rfl, rfl, h2, h1⟩
        · cases he
      · cases he

theorem evDefers_ok {dcall : FuncId → List V → Hp → Option Hp} (hd : DCallOk P E.G dcall) {fn : Func} {tmps : Array Value} {R : Ending → World → Prop} : ∀ (ds : DL) (h h2 : Hp) (w0 : Base) (B : Nat) (σ : Sub) (l : List Deferred) (w : World), evDefers dcall ds h = some h2 → DRel w0.w.heap.size σ ds l → HRel E.G w0 B σ h w →
    (∀ (τ : Sub) (w' : World), σ.le τ → HRel E.G w0 B τ h2 w' → ∃ v, (results fn tmps).run P w' = .ok v w' ∧ R (.returned v) w') → LeavesInM (fw none) 0 P fn tmps R l .returning w
  | [], h, h2, w0, B, σ, l, w, he, hD, hH, hR => by
    simp only [evDefers, Option.some.injEq] at he; subst he
    simp only [DRel] at hD; subst hD
    exact hR σ w (Sub.le_refl σ) hH
  | .coll b :: ds, h, h2, w0, B, σ, l, w, he, hD, hH, hR => by
    simp only [evDefers] at he
    simp only [DRel] at hD
    obtain ⟨r, l', rfl, hr, hm, hD'⟩ := hD
    split at he
    · rename_i hg
      obtain ⟨h3, h4⟩ := hH.taken (P := P) hg hr hm
      exact ⟨by simp, .inl ⟨r.block, _, rfl, h3, evDefers_ok hd ds _ h2 w0 B σ l' _ he hD' h4 hR⟩⟩
    · cases he
  | .fn f args :: ds, h, h2, w0, B, σ, l, w, he, hD, hH, hR => by
    simp only [evDefers] at he
    simp only [DRel] at hD
    obtain ⟨d, l', cap, rfl, ht, hargs, hD'⟩ := hD
    cases hc : dcall f args h with
    | none => simp [hc] at he
    | some h1 =>
      simp only [hc] at he
      obtain ⟨hf, hcon⟩ := hd f args h h1 hc
      obtain ⟨tg, dargs⟩ := d
      simp only at ht hargs
      subst ht
      refine ⟨by simp, .inr ⟨fun hh => by simp [Fence.wide] at hh, .func f, cap, f, dargs ++ cap, rfl, by simp only [invoke]; exact run_callFunc hf _ _, fun _ _ => trivial, ?_⟩⟩
      refine CallsDIn.mono (hcon w0 B σ w (dargs ++ cap) hH (by simpa using hargs)) ?_
      rintro e u' w' ⟨v', τ, rfl, rfl, hle, hH'⟩
      exact evDefers_ok hd ds h1 h2 w0 B τ l' w' he (DRel.mono hle _ _ hD') hH' (fun τ2 w2 hle2 hH2 => hR τ2 w2 (Sub.le_trans hle hle2) hH2)

theorem evFn_ok {orc : CallF} {dorc : FuncId → List V → Hp → Option Hp} (ho : CallOk P E.G orc) (hd : DCallOk P E.G dorc) (cf : Nat) : ∀ d, CallOk P E.G (evFn E orc dorc cf d) := by
  intro d
  induction d with
  | zero => intro f args h v h' he; simp [evFn] at he
  | succ d ih =>
    intro f args h v h' he
    unfold evFn at he
    cases hoc : orc f args h with
    | some x =>
      simp only [hoc, Option.some.injEq] at he; subst he
      exact ho f args h v h' hoc
    | none =>
      simp only [hoc] at he
      cases hfn : E.funcs.get f with
      | none => simp [hfn] at he
      | some fn =>
        simp only [hfn] at he
        have hf := hE.funcs f fn hfn
        split at he
        · rename_i tm h1 ds hb
          obtain ⟨c, hbody, hcode⟩ := evBody_ok hE hmix hprog ih hf hb
          refine ⟨⟨fn, hf, by rw [hbody]; simp, (hprog f fn c hf hbody).2⟩, fun w0 B σ w args' hH hr => ?_⟩
          split at he
          · rename_i h2 hdef
            split at he
            · rename_i v2 hres
              simp only [Option.some.injEq, Prod.mk.injEq] at he
              obtain ⟨rfl, rfl⟩ := he
              refine callsIn_wide.1 (callsIn_of_wp_marks (F := fw none) (n := 0) hf hbody trivial (wpIn_wide.2 ?_))
              refine hcode w0 B σ w args' _ hH hr (fun τ a' w' hle hS => ?_)
              have := evDefers_ok (fn := fn) (tmps := a'.tmps) (R := fun e w' => ∃ v' τ, e = .returned v' ∧ σ.le τ ∧ HRel E.G w0 B τ h2 w' ∧ VRel τ v2 v') hE hmix hprog (evD_ok hE hmix hprog ih hd cf) ds h1 h2 w0 B τ a'.defers w' hdef hS.ds hS.heap (fun τ2 w2 hle2 hH2 => by
                obtain ⟨v', hv1, hv2⟩ := results_ok (P := P) hE hH2 (fun t => VRel.mono hle2 _ _ (hS.tm t)) hres
                exact ⟨v', hv1, v', τ2, rfl, Sub.le_trans hle hle2, hH2, hv2⟩)
              exact ⟨this, this⟩
            · cases he
          · cases he
        · cases he

/-- A call without arguments, in any world: what the evaluator says. -/
theorem closed_call {orc : CallF} {dorc : FuncId → List V → Hp → Option Hp} (ho : CallOk P E.G orc) (hd : DCallOk P E.G dorc) {cf d : Nat} {f : FuncId} {v : V} {h' : Hp} (he : evFn E orc dorc cf d f [] ⟨.nil, E.G⟩ = some (v, h')) (hG : E.G ≤ 1000000) (w : World) :
    Calls P f #[] w fun e w' => ∃ v' τ, e = .returned v' ∧ VRel τ v v' ∧ Below w.heap.size w w' := by
  obtain ⟨_, hcon⟩ := evFn_ok hE hmix hprog ho hd cf d f [] _ v h' he
  have hH : HRel E.G ⟨w, fun _ => false⟩ w.heap.size (fun g => if g < E.G then some ⟨g, 0, 0⟩ else none) ⟨.nil, E.G⟩ w := by
    refine ⟨Below.refl _ _, Keeps.refl _, Nat.le_refl _, by show E.G ≤ _; omega, fun i r hi => ?_, fun g hg => ⟨⟨g, 0, 0⟩, by simp [hg], rfl, rfl⟩, fun i o ho => ?_, fun i hi => by simp at hi, fun i o ho => ?_, fun i j o o' r r' ho => ?_⟩
    · by_cases hlt : i < E.G
      · exact hlt
      · simp [hlt] at hi
    · cases ho
    · cases ho
    · cases ho
  refine (hcon ⟨w, fun _ => false⟩ w.heap.size _ w #[] hH (by simp [VRels])).mono ?_
  rintro e w' ⟨v', τ, rfl, _, hH', hv⟩
  exact ⟨v', τ, rfl, hv, hH'.below⟩
end

theorem T.get_ofListFrom {α : Type} : ∀ (l : List α) (k : Nat) (t : T α) (x : Nat), k + l.length ≤ 1000000 → (T.ofListFrom l k t).get x = if k ≤ x ∧ x < k + l.length then l[x - k]? else t.get x
  | [], k, t, x, _ => by rw [T.ofListFrom, if_neg (by simp)]
  | v :: l, k, t, x, h => by
    simp only [List.length_cons] at h ⊢
    rw [T.ofListFrom, T.get_ofListFrom l (k + 1) _ x (by omega), T.get_set v 40 t k x (pow40 (by omega))]
    by_cases e : x = k
    · subst e
      rw [if_neg (by omega), if_pos rfl, if_pos (by omega), Nat.sub_self]
      rfl
    · by_cases hx : k + 1 ≤ x ∧ x < k + 1 + l.length
      · rw [if_pos hx, if_pos (by omega), show x - k = (x - (k + 1)) + 1 by omega, List.getElem?_cons_succ]
      · rw [if_neg hx, if_neg e, if_neg (by omega)]

theorem T.get_ofList {α : Type} (l : List α) (h : l.length ≤ 1000000) (x : Nat) (a : α) (hx : (T.ofList l).get x = some a) : l[x]? = some a := by
  unfold T.ofList at hx
  rw [T.get_ofListFrom l 0 .nil x (by omega)] at hx
  split at hx
  · simpa using hx
  · cases hx

theorem envOk_of (P : Program) (h1 : P.types.size ≤ 1000000) (h2 : P.funcs.size ≤ 1000000) : EnvOk P (Env.of P) := by
  refine ⟨rfl, rfl, fun t i ht => ?_, fun f fn hf => ?_, fun l r h => by simp [Env.of] at h⟩
  · have := T.get_ofList P.types.toList (by simpa using h1) t i ht
    have h3 : P.types[t]? = some i := by simpa using this
    have hlt : t < P.types.size := (Array.getElem?_eq_some_iff.1 h3).1
    simp only [Tables.info?, hlt, if_true]; exact h3
  · have := T.get_ofList P.funcs.toList (by simpa using h2) f fn hf
    simpa using this

/-- With facts about terms. -/
theorem EnvOk.with' {P : Program} {E : Env} (h : EnvOk P E) {rw : List (SX × SX)} (hr : ∀ l r, (l, r) ∈ rw → l.den = r.den) : EnvOk P (E.with rw) :=
  ⟨h.prog, h.glob, h.types, h.funcs, hr⟩

theorem progOk_spec {E : Env} : ∀ (l : List Func), progOk E l = true → ∀ fn ∈ l, ∀ c, fn.body = some c → codeOk E c = true ∧ fn.name ≠ "runtime.NumGoroutine"
  | [], _, fn, h, _, _ => by simp at h
  | x :: l, hp, fn, h, c, hb => by
    simp only [progOk, Bool.and_eq_true] at hp
    obtain ⟨⟨h1, h2⟩, h3⟩ := hp
    rcases List.mem_cons.1 h with rfl | h
    · rw [hb] at h1; exact ⟨h1, by simpa using h2⟩
    · exact progOk_spec l h3 fn h c hb

theorem hprog_of {P : Program} {E : Env} (h : progOk E P.funcs.toList = true) : ∀ (f : FuncId) (fn : Func) (c : Code), P.funcs[f]? = some fn → fn.body = some c → codeOk E c = true ∧ fn.name ≠ "runtime.NumGoroutine" := by
  intro f fn c hf hb
  refine progOk_spec _ h fn ?_ c hb
  have : P.funcs.toList[f]? = some fn := by simpa using hf
  exact List.mem_of_getElem? this

end Go.Bx
