/- A range over a function that hands over, again and again, what another one tells. -/
import Derived.Test.YtmiebhjpdmokoaaGreatDoorBx17
import Derived.RangeFuncRecord
set_option linter.all false
namespace Go.Bx
open Go.RowKit
variable [Valn]

section
variable {G : Nat} {w0 : Base} {B : Nat} {σ τ : Sub} {h h' : Hp} {w w' : World}

theorem HRel.rebase (hH : HRel G w0 B σ h w) : HRel G ⟨w, w0.U⟩ B σ h w :=
  ⟨Below.refl _ _, Keeps.refl _, hH.Bsize, hH.nb, hH.dom, hH.glob, hH.obj, hH.unb, hH.rel, hH.inj⟩

theorem HRel.back (hH : HRel G w0 B σ h w) (h2 : HRel G ⟨w, w0.U⟩ B τ h' w') : HRel G w0 B τ h' w' :=
  ⟨hH.below.trans h2.below, hH.keep.trans h2.keep, h2.Bsize, h2.nb, h2.dom, h2.glob, h2.obj, h2.unb, h2.rel, h2.inj⟩

theorem below_putObj {l : Nat} {o : Obj} (hB : B ≤ l) : Below B w (w.putObj l o) :=
  ⟨rfl, rfl, rfl, by simp, fun k hk => World.putObj_heap_other (by omega)⟩

theorem ORel.notLoop {r : Ren} {o : O} (hd : o.isDead = false) (ho : ORel σ B r w o) {x : Loop} : w.heap[r.block]? ≠ some (.loop x) := by
  intro e
  cases o with
  | cells c t => obtain ⟨_, C, _, F, h1, _⟩ := ho; rw [h1] at e; cases e
  | ro c => obtain ⟨_, C, _, F, h1, _⟩ := ho; rw [h1] at e; cases e
  | map es c => obtain ⟨_, ES, h1, _⟩ := ho; rw [h1] at e; cases e
  | iter s p => obtain ⟨_, _, h1⟩ := ho; rw [h1] at e; cases e
  | coll => obtain ⟨_, h1⟩ := ho; rw [h1] at e; cases e
  | arr c => obtain ⟨_, _, C, _, F, h1, _⟩ := ho; rw [h1] at e; cases e
  | xro t f => obtain ⟨_, C, _, F, h1, _⟩ := ho; rw [h1] at e; cases e
  | mit m => obtain ⟨_, _, _, _, _, _, h1⟩ := ho; rw [h1] at e; cases e
  | buf own k c n sz => obtain ⟨_, C, _, F, N, h1, _⟩ := ho; rw [h1] at e; cases e
  | dead => cases hd

/-- The record turns. -/
theorem HRel.reloop (hH : HRel G w0 B σ h w) {l : Nat} {x : Loop} (hx : w.heap[l]? = some (.loop x)) (hB : B ≤ l) (h0 : w0.w.heap.size ≤ l) (o : Obj) : HRel G w0 B σ h (w.putObj l o) :=
  ⟨hH.below.trans (below_putObj hB), fun k y e hl => by
      have hk := (Array.getElem?_eq_some_iff.1 e).1
      rw [World.putObj_heap_other (by omega)]; exact hH.keep k y e hl,
    by have := hH.Bsize; simpa using this, hH.nb, hH.dom, hH.glob, hH.obj, hH.unb,
    fun i y hy hyd q hq => by
      have h1 := hH.rel i y hy hyd q hq
      refine ORel.mono (Sub.le_refl σ) (World.putObj_heap_other ?_) h1
      intro e
      exact h1.notLoop hyd (by rw [e]; exact hx),
    hH.inj⟩

/-- A block that nothing names. -/
theorem HRel.allocOnly (hH : HRel G w0 B σ h w) (ob : Obj) : HRel G w0 B σ h (w.alloc ob) := by
  refine ⟨hH.below.alloc hH.Bsize ob, hH.keep.trans (Keeps.same (fun k hk => Below.heap_alloc _ _ _ hk)), by simp; have := hH.Bsize; omega, hH.nb, hH.dom, hH.glob, hH.obj, hH.unb, fun i x hx hxd q h1 => ?_, hH.inj⟩
  have h2 := hH.rel i x hx hxd q h1
  exact ORel.mono (Sub.le_refl σ) (Below.heap_alloc _ _ _ (h2.lt hxd)) h2

/-- What a loop has put off is taken. -/
theorem HRel.taken {P : Program} (hH : HRel G w0 B σ h w) {b : Nat} (hg : h.t.get b = some .coll) {r : Ren} (hr : σ b = some r) (h0 : w0.w.heap.size ≤ r.block) :
    (Instr.takeDeferred r.block).run P w = .ok [] (w.putObj r.block (.deferred none)) ∧ HRel G w0 B σ (h.put b .dead) (w.putObj r.block (.deferred none)) := by
  obtain ⟨hB, hw⟩ := hH.rel b .coll hg rfl r hr
  refine ⟨run_takeDeferred hw, ?_⟩
  have hK := hH.kill hg
  refine ⟨hH.below.trans (below_putObj hB), fun k y e hl => by
      have hk := (Array.getElem?_eq_some_iff.1 e).1
      rw [World.putObj_heap_other (by omega)]; exact hH.keep k y e hl,
    by have := hH.Bsize; simpa using this, hK.nb, hK.dom, hK.glob, hK.obj, hK.unb,
    fun i y hy hyd q hq => ?_, hK.inj⟩
  have h1 := hK.rel i y hy hyd q hq
  refine ORel.mono (Sub.le_refl σ) (World.putObj_heap_other ?_) h1
  intro e
  have hbn := hH.obj _ _ hg
  rw [get_put (by have := hH.nb; omega)] at hy
  split at hy
  · cases hy; cases hyd
  · rename_i hne
    exact hne (hH.inj i b y .coll q r hy hg hyd rfl hq hr e)
end

/-- What iterOf finds. -/
theorem iterOf_spec {E : Env} {gf : FuncId} {fetch : FuncId} {t : TypeId} (hi : iterOf E gf = some (fetch, t)) :
    ∃ (fn : Func) (b0 id b2 : Nat) (o0 o1 o2 o3 : Oper) (ty2 ty3 : Array TypeId), E.funcs.get gf = some fn ∧ fn.name ≠ "runtime.NumGoroutine" ∧ fn.ntmps = 7 ∧ fn.results = #[] ∧
      fn.body = some (.block b0 (.loop (.seq (.seq (.region id #[o0, o1, o2, o3] false) (.cond (.tmp 6) .skip (.exit b0))) (.block b2 .skip)))) ∧
      (o0.dst = some 3 ∧ o0.op = .move (.tmp 0) ∧ o0.guard = none) ∧ (o1.dst = some 4 ∧ o1.op = .load t (.tmp 1) ∧ o1.guard = none) ∧
      (o2.dst = some 5 ∧ o2.op = .call ⟨.value (.func fetch), #[.tmp 4], ty2⟩ ∧ o2.guard = none) ∧ (o3.dst = some 6 ∧ o3.op = .call ⟨.value (.tmp 3), #[.tmp 5], ty3⟩ ∧ o3.guard = none) := by
  unfold iterOf at hi
  split at hi
  · rename_i hfn
    split at hi
    · rename_i hb hnm
      have hb := Nat.eq_of_beq_eq_true hb
      subst hb
      simp only [Option.some.injEq, Prod.mk.injEq] at hi
      obtain ⟨rfl, rfl⟩ := hi
      exact ⟨_, _, _, _, _, _, _, _, _, _, hfn, by simpa using hnm, rfl, rfl, rfl, ⟨rfl, rfl, rfl⟩, ⟨rfl, rfl, rfl⟩, ⟨rfl, rfl, rfl⟩, ⟨rfl, rfl, rfl⟩⟩
    · cases hi
  · cases hi

def exOf : Ex → Exit
  | .normal => .normal
  | .exit id => .exit id
  | .ret => .ret

/-- The record of a loop. -/
def recOf (fn : FuncId) (tmps : Array Value) (p : Tmp) (assign body : Code) (D : Nat) (st : LoopState) (pe : Option Code) : Loop :=
  { state := st, pending := pe, fn, tmps, params := #[p], assign, body, defers := D }

def jumpOf : Ex → Code
  | .normal => .skip
  | .exit id => .exit id
  | .ret => .ret

theorem DRel.nil_inv {m : Nat} {σ : Sub} {l : List Deferred} (h : DRel m σ [] l) : l = [] := h

section
variable {P : Program} {E : Env} (hE : EnvOk P E) {call : CallF} (hc : CallOk P E.G call) {n : Nat} (hn : n ≤ 1000000) {w0 : Base} {B : Nat} {ev : Code → T V → Hp → DL → Option (Ex × T V × Hp × DL)}
  (hev : ∀ (l : Nat) (w1 : Base) (c : Code) (σ : Sub) (tm : T V) (h : Hp) (ex : Ex) (tm' : T V) (h' : Hp) (ds' : DL) (a : Act) (w : World) (Q : Exit → Act → World → Prop), codeOk E c = true → ev c tm h [] = some (ex, tm', h', ds') →
    SRel n E.G w1 B σ (getT tm) h [] a w → (∀ (τ : Sub) (a' : Act) (w' : World), σ.le τ → SRel n E.G w1 B τ (getT tm') h' ds' a' w' → Q (exOf ex) a' w') → c.wpIn (fw (some l)) 0 P Q a w)
 include hE hc hn hev

/-- The rounds. -/
theorem evRange_ok {tm : T V} {p : Tmp} {assign body : Code} (hoa : codeOk E assign = true) (hob : codeOk E body = true) {fetch : FuncId} {t : TypeId} {b o : Nat} {b0 id b2 : Nat} {o0 o1 o2 o3 : Oper} {ty2 ty3 : Array TypeId}
    (h0 : o0.dst = some 3 ∧ o0.op = .move (.tmp 0) ∧ o0.guard = none) (h1 : o1.dst = some 4 ∧ o1.op = .load t (.tmp 1) ∧ o1.guard = none)
    (h2 : o2.dst = some 5 ∧ o2.op = .call ⟨.value (.func fetch), #[.tmp 4], ty2⟩ ∧ o2.guard = none) (h3 : o3.dst = some 6 ∧ o3.op = .call ⟨.value (.tmp 3), #[.tmp 5], ty3⟩ ∧ o3.guard = none)
    {A : Array Value} (hA : A.size = n) {fn : FuncId} {l D : Nat} (hl : B ≤ l) (hl0 : w0.w.heap.size ≤ l) :
    ∀ (k : Nat) (h : Hp) (ex : Ex) (hf : Hp), evRange E call ev n tm p assign body fetch t b o k h = some (ex, hf) →
      ∃ m, ∀ (σ : Sub) (a : Act) (w : World) (Q : Exit → Act → World → Prop), HRel E.G w0 B σ h w → TRel σ tm A → a.defers = [] → a.tmps.size = 7 → a.tmps.getD 0 undef = .func (.yield l) #[] #[] → VRel σ (.ptr b o) (a.tmps.getD 1 undef) →
        w.heap[l]? = some (.loop (recOf fn A p assign body D .ready none)) →
        (∀ (τ : Sub) (a' : Act) (w' : World), σ.le τ → HRel E.G w0 B τ hf w' → a'.defers = [] → w'.heap[l]? = some (.loop (recOf fn A p assign body D .done (some (jumpOf ex)))) → Q (.exit b0) a' w') →
        Code.roundsIn (fw none) 0 P (.seq (.seq (.region id #[o0, o1, o2, o3] false) (.cond (.tmp 6) .skip (.exit b0))) (.block b2 .skip)) Q m a w
  | 0, h, ex, hf, he => by simp [evRange] at he
  | k + 1, h, ex, hf, he => by
    unfold evRange at he
    cases hc1 : loadAt E h t b o with
    | none => simp [hc1] at he
    | some cv =>
    simp only [hc1] at he
    cases hc2 : call fetch [cv] h with
    | none => simp [hc2] at he
    | some q =>
    obtain ⟨item, hp1⟩ := q
    simp only [hc2] at he
    cases hc3 : putT n tm (some p) item with
    | none => simp [hc3] at he
    | some tm1 =>
    simp only [hc3] at he
    obtain ⟨e1, e2⟩ := putT_ok hn hc3
    have hpn := e2 p rfl
    cases hc4 : ev assign tm1 hp1 [] with
    | none => simp [hc4] at he
    | some r1 =>
    obtain ⟨ex1, tm2, hp2, ds1⟩ := r1
    rw [hc4] at he
    cases ex1 <;> first | (simp at he; done) | skip
    cases ds1 with
    | cons d ds => simp at he
    | nil =>
    simp only at he
    cases hc5 : ev body tm2 hp2 [] with
    | none => simp [hc5] at he
    | some r2 =>
    obtain ⟨ex2, tm3, hp3, ds2⟩ := r2
    rw [hc5] at he
    cases ds2 with
    | cons d ds => cases ex2 <;> simp at he
    | nil =>
    -- one round, whatever comes behind it
    have round : ∀ (σ : Sub) (a : Act) (w : World) (K : Exit → Act → World → Prop), HRel E.G w0 B σ h w → TRel σ tm A → a.defers = [] → a.tmps.size = 7 → a.tmps.getD 0 undef = .func (.yield l) #[] #[] → VRel σ (.ptr b o) (a.tmps.getD 1 undef) →
        w.heap[l]? = some (.loop (recOf fn A p assign body D .ready none)) →
        (∀ (τ : Sub) (a' : Act) (w' : World), σ.le τ → HRel E.G w0 B τ hp3 w' → a'.defers = [] → a'.tmps.size = 7 → a'.tmps.getD 0 undef = .func (.yield l) #[] #[] → a'.tmps.getD 1 undef = a.tmps.getD 1 undef →
          a'.tmps.getD 6 undef = .bool (match ex2 with | .normal => true | _ => false) →
          w'.heap[l]? = some (.loop (recOf fn A p assign body D (match ex2 with | .normal => .ready | _ => .done) (match ex2 with | .normal => none | e => some (jumpOf e)))) → K .normal a' w') →
        (Code.region id #[o0, o1, o2, o3] false).wpIn (fw none) 0 P K a w := by
      intro σ a w K hH hT hd hsz hy hp hrec hK
      obtain ⟨d0, p0, g0⟩ := h0
      obtain ⟨d1, p1, g1⟩ := h1
      obtain ⟨d2, p2, g2⟩ := h2
      obtain ⟨d3, p3, g3⟩ := h3
      refine wpIn_region ?_
      show wpOpsIn (fw none) 0 P #[o0, o1, o2, o3] K [0, 1, 2, 3] a w
      have want : ∀ (o : Oper) (y : Nat → Option Bool), o.guard = none → Region.wanted o y = true := fun o y hg => by simp [Region.wanted, hg]
      -- the function that is handed the rounds
      rw [wpOpsIn_cons]
      unfold wpOpIn
      simp only [List.getElem?_toArray, List.getElem?_cons_zero, want o0 _ g0, if_true]
      have ev0 : a.eval (.tmp 0) = .func (.yield l) #[] #[] := hy
      refine ⟨fun _ _ => trivial, ?_⟩
      rw [Oper.semAt_none, show (execOp a.eval o0).run P w = .ok (.value (.func (.yield l) #[] #[])) w by simp [execOp, p0, ev0], Oper.uponIn_value, d0]
      obtain ⟨a1, ha1⟩ : ∃ a1, a1 = a.put (some 3) (.func (.yield l) #[] #[]) := ⟨_, rfl⟩
      rw [← ha1]
      have t1 : a1.tmps = a.tmps.setIfInBounds 3 (.func (.yield l) #[] #[]) := by rw [ha1]; rfl
      have f1 : a1.defers = [] := by rw [ha1]; exact hd
      have s1 : a1.tmps.size = 7 := by rw [t1]; simpa using hsz
      have y1 : ∀ t, a1.tmps.getD t undef = if 3 = t then .func (.yield l) #[] #[] else a.tmps.getD t undef := fun t => by rw [t1]; exact getD_set (by omega)
      -- what it captured
      rw [wpOpsIn_cons]
      unfold wpOpIn
      simp only [List.getElem?_toArray, List.getElem?_cons_succ, List.getElem?_cons_zero, want o1 _ g1, if_true]
      refine quiet_wp hE hH (ρ := fun x => match x with | .tmp 1 => .ptr b o | _ => .top) (v := cv) (fun x hx => ?_) (by rw [p1]; simp [quiet, quiet0, hc1]) (fun u1 hu1 => ?_)
      · rw [p1] at hx
        simp [Op.operands] at hx
        subst hx
        show VRel σ (.ptr b o) (a1.tmps.getD 1 undef)
        rw [y1]; exact hp
      rw [d1]
      obtain ⟨a2, ha2⟩ : ∃ a2, a2 = a1.put (some 4) u1 := ⟨_, rfl⟩
      rw [← ha2]
      have t2 : a2.tmps = a1.tmps.setIfInBounds 4 u1 := by rw [ha2]; rfl
      have f2 : a2.defers = [] := by rw [ha2]; exact f1
      have s2 : a2.tmps.size = 7 := by rw [t2]; simpa using s1
      have y2 : ∀ t, a2.tmps.getD t undef = if 4 = t then u1 else a1.tmps.getD t undef := fun t => by rw [t2]; exact getD_set (by omega)
      -- what it tells
      rw [wpOpsIn_cons]
      unfold wpOpIn
      simp only [List.getElem?_toArray, List.getElem?_cons_succ, List.getElem?_cons_zero, want o2 _ g2, if_true]
      refine oneLoud_wp (w0 := ⟨w, w0.U⟩) (m := 0) (ds := []) (ds' := []) (v := item) (h' := hp1) hE (fun _ => rfl) hc hH.rebase (ρ := fun x => match x with | .tmp 4 => cv | .func f => .func (.func f) [] [] | _ => .top) (fun x hx => ?_) (by rw [f2]; simp [DRel]) ?_ (fun τ u2 w2 a3' hle2 hH2 hu2 hD2 ht3 => ?_)
      · rw [p2] at hx
        simp [Op.operands, Call.operands] at hx
        rcases hx with rfl | rfl
        · show VRel σ (.func (.func fetch) [] []) (.func (.func fetch) #[] #[])
          simp [VRel, VRels]
        · show VRel σ cv (a2.tmps.getD 4 undef)
          rw [y2]; exact hu1
      · simp [oneLoud, p2, target, hc2]
      have hH2' := hH.back hH2
      have f3' : a3'.defers = [] := hD2
      rw [d2]
      obtain ⟨a3, ha3⟩ : ∃ a3, a3 = a3'.put (some 5) u2 := ⟨_, rfl⟩
      rw [← ha3]
      have t3 : a3.tmps = a2.tmps.setIfInBounds 5 u2 := by rw [ha3, ← ht3]; rfl
      have f3 : a3.defers = [] := by rw [ha3]; exact f3'
      have s3 : a3.tmps.size = 7 := by rw [t3]; simpa using s2
      have y3 : ∀ t, a3.tmps.getD t undef = if 5 = t then u2 else a2.tmps.getD t undef := fun t => by rw [t3]; exact getD_set (by omega)
      have rec2 := hH2.keep l _ hrec rfl
      -- the round
      rw [wpOpsIn_cons]
      unfold wpOpIn
      simp only [List.getElem?_toArray, List.getElem?_cons_succ, List.getElem?_cons_zero, want o3 _ g3, if_true]
      refine ⟨fun _ _ => trivial, ?_⟩
      have ev3 : a3.eval (.tmp 3) = .func (.yield l) #[] #[] := by show a3.tmps.getD 3 undef = _; rw [y3, y2, y1]; rfl
      have ev5 : a3.eval (.tmp 5) = u2 := by show a3.tmps.getD 5 undef = _; rw [y3]; rfl
      have hyl := run_yield (P := P) (args := #[u2]) rec2 (by simp [recOf])
      rw [Oper.semAt_none, show (execOp a3.eval o3).run P w2 = (Instr.yield l #[u2]).run P w2 by simp [execOp, p3, resolve, Deferred.ofValue, ev3, ev5, invoke], hyl, Oper.uponIn_round, d3]
      refine ⟨fun hh => by simp [Fence.wide] at hh, roundIn_of_wpIn (F := fw none) trivial ?_⟩
      have htm : ((recOf fn A p assign body D .ready none).params.zip #[u2]).foldl (fun tmps (t, a) => tmps.setIfInBounds t a) (recOf fn A p assign body D .ready none).tmps = A.setIfInBounds p u2 := by simp [recOf]
      rw [htm]
      refine hev l ⟨w2, w0.U⟩ assign τ tm1 hp1 .normal tm2 hp2 [] _ w2 _ hoa hc4 ⟨by simpa using hA, fun t => ?_, hH2'.rebase, rfl⟩ (fun τ3 a3r w3 hle3 hS3 => ?_)
      · rw [e1]
        simp only [setF]
        rw [getD_set (by rw [hA]; exact hpn)]
        by_cases e : p = t
        · subst e; simpa using hu2
        · simp only [Option.some.injEq, e, if_false]; exact VRel.mono hle2 _ _ (hT t)
      have rec3 := hS3.heap.keep l _ rec2 rfl
      have hH3 := hH2'.back hS3.heap
      have hlt3 : l < w3.heap.size := (Array.getElem?_eq_some_iff.1 rec3).1
      refine ⟨_, run_beginRound rec3 rfl, ?_⟩
      have hH3b := hH3.reloop rec3 hl hl0 (.loop { recOf fn A p assign body D .ready none with state := .busy })
      have rec3b := World.putObj_heap_same (w := w3) (o := .loop { recOf fn A p assign body D .ready none with state := .busy }) hlt3
      generalize w3.putObj l (.loop { recOf fn A p assign body D .ready none with state := .busy }) = w3b at hH3b rec3b
      refine hev l ⟨w3b, w0.U⟩ body τ3 tm2 hp2 ex2 tm3 hp3 [] a3r w3b _ hob hc5 ⟨hS3.size, hS3.tm, hH3b.rebase, hS3.ds⟩ (fun τ4 a4 w4 hle4 hS4 => ?_)
      have rec4 := hS4.heap.keep l _ rec3b rfl
      have hH4 := hH3b.back hS4.heap
      have hlt4 : l < w4.heap.size := (Array.getElem?_eq_some_iff.1 rec4).1
      have hle : σ.le τ4 := Sub.le_trans hle2 (Sub.le_trans hle3 hle4)
      have fin : ∀ (bb : Bool) (o : Obj), (∀ t, t ≠ 6 → t ≠ 5 → t ≠ 4 → t ≠ 3 → (a3.put (some 6) (.bool bb)).tmps.getD t undef = a.tmps.getD t undef) ∧ (a3.put (some 6) (.bool bb)).defers = [] ∧ (a3.put (some 6) (.bool bb)).tmps.size = 7 ∧
          (a3.put (some 6) (.bool bb)).tmps.getD 6 undef = .bool bb ∧ HRel E.G w0 B τ4 hp3 (w4.putObj l o) ∧ (w4.putObj l o).heap[l]? = some o := by
        intro bb o
        have t6 : (a3.put (some 6) (.bool bb)).tmps = a3.tmps.setIfInBounds 6 (.bool bb) := rfl
        refine ⟨fun t n6 n5 n4 n3 => ?_, f3, by rw [t6]; simpa using s3, by rw [t6, getD_set (by omega)]; rfl, hH4.reloop rec4 hl hl0 o, World.putObj_heap_same hlt4⟩
        rw [t6, getD_set (by omega), if_neg (Ne.symm n6), y3, if_neg (Ne.symm n5), y2, if_neg (Ne.symm n4), y1, if_neg (Ne.symm n3)]
      cases ex2 with
      | normal =>
        refine ⟨_, _, run_endRound none rec4, ?_⟩
        obtain ⟨q1, q2, q3, q4, q5, q6⟩ := fin true (.loop (recOf fn A p assign body D .ready none))
        exact hK τ4 _ _ hle q5 q2 q3 ((q1 0 (by omega) (by omega) (by omega) (by omega)).trans hy) (q1 1 (by omega) (by omega) (by omega) (by omega)) q4 q6
      | exit id' =>
        refine ⟨_, _, run_endRound (some (.exit id')) rec4, ?_⟩
        obtain ⟨q1, q2, q3, q4, q5, q6⟩ := fin false (.loop (recOf fn A p assign body D .done (some (.exit id'))))
        exact hK τ4 _ _ hle q5 q2 q3 ((q1 0 (by omega) (by omega) (by omega) (by omega)).trans hy) (q1 1 (by omega) (by omega) (by omega) (by omega)) q4 q6
      | ret =>
        refine ⟨_, _, run_endRound (some .ret) rec4, ?_⟩
        obtain ⟨q1, q2, q3, q4, q5, q6⟩ := fin false (.loop (recOf fn A p assign body D .done (some .ret)))
        exact hK τ4 _ _ hle q5 q2 q3 ((q1 0 (by omega) (by omega) (by omega) (by omega)).trans hy) (q1 1 (by omega) (by omega) (by omega) (by omega)) q4 q6
    clear hev
    have isb : ∀ (a : Act) (c : Bool), a.tmps.getD 6 undef = .bool c → a.eval (.tmp 6) = .bool c := fun a c h => h
    cases ex2 with
    | normal =>
      simp only at he
      obtain ⟨m, hm⟩ := evRange_ok hoa hob h0 h1 h2 h3 hA hl hl0 k hp3 ex hf he
      refine ⟨m + 1, fun σ a w Q hH hT hd hsz hy hp hrec hQ => ?_⟩
      rw [roundsIn_succ]
      refine wpIn_seq (wpIn_seq (round σ a w _ hH hT hd hsz hy hp hrec (fun τ a' w' hle hH' hd' hsz' hy' hp' h6 hrec' => ?_)))
      refine wpIn_cond_true (isb _ _ h6) (wpIn_skip ?_)
      refine wpIn_block (wpIn_skip ?_)
      exact hm τ a' w' Q hH' (hT.mono hle) hd' hsz' hy' (by rw [hp']; exact VRel.mono hle _ _ hp) hrec' (fun τ2 a2 w2 hle2 hH2 hd2 hr2 => hQ τ2 a2 w2 (Sub.le_trans hle hle2) hH2 hd2 hr2)
    | exit id' =>
      simp only [Option.some.injEq, Prod.mk.injEq] at he
      obtain ⟨rfl, rfl⟩ := he
      refine ⟨1, fun σ a w Q hH hT hd hsz hy hp hrec hQ => ?_⟩
      rw [roundsIn_succ]
      refine wpIn_seq (wpIn_seq (round σ a w _ hH hT hd hsz hy hp hrec (fun τ a' w' hle hH' hd' hsz' hy' hp' h6 hrec' => ?_)))
      refine wpIn_cond_false (isb _ _ h6) (wpIn_exit ?_)
      exact hQ τ a' w' hle hH' hd' hrec'
    | ret =>
      simp only [Option.some.injEq, Prod.mk.injEq] at he
      obtain ⟨rfl, rfl⟩ := he
      refine ⟨1, fun σ a w Q hH hT hd hsz hy hp hrec hQ => ?_⟩
      rw [roundsIn_succ]
      refine wpIn_seq (wpIn_seq (round σ a w _ hH hT hd hsz hy hp hrec (fun τ a' w' hle hH' hd' hsz' hy' hp' h6 hrec' => ?_)))
      refine wpIn_cond_false (isb _ _ h6) (wpIn_exit ?_)
      exact hQ τ a' w' hle hH' hd' hrec'

/-- The statement. -/
theorem range_ok {tm : T V} {p : Tmp} {assign body : Code} (hoa : codeOk E assign = true) (hob : codeOk E body = true) {g : Operand} {gf fetch : FuncId} {t : TypeId} {b o : Nat} (hi : iterOf E gf = some (fetch, t)) (hg : opnd E.G tm g = .func (.func gf) [] [.ptr b o])
    {σ : Sub} {h h0 h1 : Hp} {ds : DL} {a : Act} {w : World} (hS : SRel n E.G w0 B σ (getT tm) h ds a w) {d : Nat} (ha : h.alloc .coll = some (d, h0)) {k : Nat} {ex : Ex} (he : evRange E call ev n tm p assign body fetch t b o k h0 = some (ex, h1)) (hd1 : h1.t.get d = some .coll) {Q : Exit → Act → World → Prop}
    (hQ : ∀ (τ : Sub) (a' : Act) (w' : World), σ.le τ → SRel n E.G w0 B τ (getT tm) h1 (.coll d :: ds) a' w' → Q (exOf ex) a' w') : (Code.rangeFunc g #[p] assign body).wpIn (fw none) 0 P Q a w := by
  obtain ⟨fn, b0, id, b2, o0, o1, o2, o3, ty2, ty3, hfn, hnm, hnt, hres, hbody, q0, q1, q2, q3⟩ := iterOf_spec hi
  have hf := hE.funcs gf fn hfn
  have hgv := opnd_rel (a := a) hS.heap (fun t => hS.tm t) g
  rw [hg] at hgv
  simp only [VRel] at hgv
  obtain ⟨f', c', eg, hf', hc'⟩ := hgv
  simp only [VRels] at hf'
  have hf'' : f' = #[] := by apply Array.ext'; simpa using hf'
  subst hf''
  refine wpIn_rangeFunc (fun fid _ => ?_)
  have hH0 : d = h.n ∧ HRel E.G w0 B (σ.add h.n ⟨w.heap.size, 0, 0⟩) h0 (w.alloc (.deferred (some []))) :=
    hS.heap.alloc ha (.deferred (some [])) (r := ⟨w.heap.size, 0, 0⟩) rfl ⟨hS.heap.Bsize, World.alloc_heap_new w _⟩
  obtain ⟨rfl, hH0⟩ := hH0
  have hH1 := hH0.allocOnly (.loop (recOf fid a.tmps p assign body w.heap.size .ready none))
  have hrec : ((w.alloc (.deferred (some []))).alloc (.loop (recOf fid a.tmps p assign body w.heap.size .ready none))).heap[w.heap.size + 1]? = some (.loop (recOf fid a.tmps p assign body w.heap.size .ready none)) := by
    have := World.alloc_heap_new (w.alloc (.deferred (some []))) (.loop (recOf fid a.tmps p assign body w.heap.size .ready none)); rwa [World.size_alloc] at this
  obtain ⟨W1, hW1⟩ : ∃ W1, (w.alloc (.deferred (some []))).alloc (.loop (recOf fid a.tmps p assign body w.heap.size .ready none)) = W1 := ⟨_, rfl⟩
  rw [hW1] at hH1 hrec
  have hle0 := Sub.le_add (r := ⟨w.heap.size, 0, 0⟩) hS.heap.fresh
  have hcap : ∃ pv, c' = #[pv] ∧ VRel σ (.ptr b o) pv := by
    simp only [VRels] at hc'
    obtain ⟨pv, l', e, hp, rfl⟩ := hc'
    refine ⟨pv, ?_, by simpa only [VRel] using hp⟩
    apply Array.ext'; simpa using e
  obtain ⟨pv, rfl, hpv⟩ := hcap
  have hlen0 : w0.w.heap.size ≤ w.heap.size := hS.heap.below.size
  have hent : Enters P gf := ⟨fn, hf, by rw [hbody]; simp, hnm⟩
  obtain ⟨m, hm⟩ := evRange_ok (w0 := w0) hE hc hn hev hoa hob q0 q1 q2 q3 hS.size (fn := fid) (l := w.heap.size + 1) (D := w.heap.size) (by have := hS.heap.Bsize; omega) (by omega) k h0 ex h1 he
  refine ⟨w.heap.size + 1, [{ target := .collected w.heap.size, args := #[] }], W1, { target := .fn (.func gf) #[pv], args := #[.func (.yield (w.heap.size + 1)) #[] #[]] }, W1, gf, #[.func (.yield (w.heap.size + 1)) #[] #[]] ++ #[pv], W1,
    by rw [← hW1]; exact run_enterLoop_outer _ _ _ _ _, ?_, fun _ _ => trivial, by simp only [invoke]; exact run_callFunc hent _ _, fun hh => by simp [Fence.wide] at hh, ?_⟩
  · simp only [resolve, eg]
    simp [go_sem]
  · refine callsIn_of_wp (F := fw none) hf hbody trivial ?_
    refine wpIn_block (wpIn_loop_rounds m ?_)
    refine hm _ _ _ _ hH1 (fun t => VRel.mono hle0 _ _ (hS.tm t)) rfl (by simp [hnt]) (by simp [hnt]) (by simp only [hnt]; exact VRel.mono hle0 _ _ hpv) hrec (fun τ a' w' hle hH' hd' hrec' => ?_)
    simp only [Exit.inBlock, if_true]
    have hres' : (results fn a'.tmps).run P w' = .ok (.tuple #[]) w' := by simp [results, hres]
    refine ⟨hd', _, hres', some (jumpOf ex), _, run_endLoop hrec' (by simp [recOf]), ?_⟩
    have hH2 := hH'.reloop hrec' (by have := hS.heap.Bsize; omega) (by omega) (.loop { recOf fid a.tmps p assign body w.heap.size .done (some (jumpOf ex)) with state := .exhausted })
    have hle2 := Sub.le_trans hle0 hle
    have fin : Q (exOf ex) { a with defers := [{ target := .collected w.heap.size, args := #[] }] ++ a.defers } (w'.putObj (w.heap.size + 1) (.loop { recOf fid a.tmps p assign body w.heap.size .done (some (jumpOf ex)) with state := .exhausted })) := by
      refine hQ τ _ _ hle2 ⟨hS.size, fun t => VRel.mono hle2 _ _ (hS.tm t), hH2, ?_⟩
      simp only [DRel]
      exact ⟨⟨w.heap.size, 0, 0⟩, a.defers, rfl, hle _ _ (Sub.add_same _ _ _), hlen0, DRel.mono hle2 _ _ hS.ds⟩
    cases ex with
    | normal => exact wpIn_skip fin
    | exit id' => exact wpIn_exit fin
    | ret => exact wpIn_ret fin
end
end Go.Bx
