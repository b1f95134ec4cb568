/- Functions with a loop: the code ahead of it, behind it, and the contract of the whole. -/
import Derived.Test.YtmiebhjpdmokoaaGreatDoorBx26
set_option linter.all false
namespace Go.Bx
open Go.RowKit

/-- Where in a code a part stands. -/
inductive Way where
  | l | r | d
abbrev Path := List Way

def Code.sub : Code → Path → Option Code
  | c, [] => some c
  | .seq a _, .l :: p => Code.sub a p
  | .seq _ b, .r :: p => Code.sub b p
  | .block _ c, .d :: p => Code.sub c p
  | _, _ :: _ => none

/-- All that is carried out ahead of the part. -/
def evPre (E : Env) (call : CallF) (n f : Nat) : Code → Path → T V → Hp → Option (T V × Hp)
  | _, [], tm, h => some (tm, h)
  | .seq a _, .l :: p, tm, h => evPre E call n f a p tm h
  | .seq a b, .r :: p, tm, h => match evCode E call n f a tm h [] with | some (.normal, tm', h', []) => evPre E call n f b p tm' h' | _ => none
  | .block _ c, .d :: p, tm, h => evPre E call n f c p tm h
  | _, _ :: _, _, _ => none

/-- All that is carried out behind the part. -/
def evPost (E : Env) (call : CallF) (n f : Nat) : Code → Path → Ex → T V → Hp → Option (Ex × T V × Hp)
  | _, [], ex, tm, h => some (ex, tm, h)
  | .seq a b, .l :: p, ex, tm, h =>
    match evPost E call n f a p ex tm h with
    | some (.normal, tm', h') => match evCode E call n f b tm' h' [] with | some (ex', tm2, h2, []) => some (ex', tm2, h2) | _ => none
    | r => r
  | .seq _ b, .r :: p, ex, tm, h => evPost E call n f b p ex tm h
  | .block id c, .d :: p, ex, tm, h =>
    match evPost E call n f c p ex tm h with
    | some (.exit id', tm', h') => match Nat.beq id' id with | true => some (.normal, tm', h') | false => some (.exit id', tm', h')
    | r => r
  | _, _ :: _, _, _, _ => none

/-- What must hold behind the part. -/
def postOf (P : Program) : Code → Path → (Exit → Act → World → Prop) → Exit → Act → World → Prop
  | _, [], Q => Q
  | .seq a b, .l :: p, Q => postOf P a p (Exit.then (b.wpIn (fw none) 0 P Q) Q)
  | .seq _ b, .r :: p, Q => postOf P b p Q
  | .block id c, .d :: p, Q => postOf P c p (Exit.inBlock id Q)
  | _, _ :: _, _ => fun _ _ _ => False

section
variable [Valn] {P : Program} (hmix : P.follows .mixedOrders = true) {call : CallF} {n : Nat} (hn : n ≤ 1000000) {B : Nat} {E : Env} (hE : EnvOk P E) (hnd : E.nd = false) (hc : CallOk P E.G call) {w0 : Base}
 include hmix hn hE hnd hc

theorem evPre_ok {f : Nat} {part : Code} : ∀ (c : Code) (p : Path) (Q : Exit → Act → World → Prop) (σ : Sub) (tm tm' : T V) (h h' : Hp) (a : Act) (w : World), codeOk E c = true → Code.sub c p = some part → evPre E call n f c p tm h = some (tm', h') → SRel n E.G w0 B σ (getT tm) h [] a w →
    (∀ (τ : Sub) (a' : Act) (w' : World), σ.le τ → SRel n E.G w0 B τ (getT tm') h' [] a' w' → part.wpIn (fw none) 0 P (postOf P c p Q) a' w') → c.wpIn (fw none) 0 P Q a w := by
  intro c p
  induction p generalizing c with
  | nil =>
    intro Q σ tm tm' h h' a w hok hs he hS hQ
    simp only [Code.sub, Option.some.injEq] at hs
    simp only [evPre, Option.some.injEq, Prod.mk.injEq] at he
    obtain ⟨rfl, rfl⟩ := he
    subst hs
    simpa only [postOf] using hQ σ a w (Sub.le_refl σ) hS
  | cons x p ih =>
    intro Q σ tm tm' h h' a w hok hs he hS hQ
    cases c with
    | seq c1 c2 =>
      simp only [codeOk, Bool.and_eq_true] at hok
      cases x with
      | l =>
        simp only [Code.sub] at hs
        simp only [evPre] at he
        exact wpIn_seq (ih c1 _ σ tm tm' h h' a w hok.1 hs he hS (fun τ a' w' hle hS' => by simpa only [postOf] using hQ τ a' w' hle hS'))
      | r =>
        simp only [Code.sub] at hs
        simp only [evPre] at he
        split at he
        · rename_i tm1 h1 hev
          refine wpIn_seq ((evCode_ok hmix hn f (ro := none) hE (fun _ => rfl) hc).1 c1 σ _ _ _ .normal tm1 h1 [] a w _ hok.1 hev hS (fun τ a' w' hle hS' => ?_))
          exact ih c2 Q τ tm1 tm' h1 h' a' w' hok.2 hs he hS' (fun τ2 a2 w2 hle2 hS2 => by simpa only [postOf] using hQ τ2 a2 w2 (Sub.le_trans hle hle2) hS2)
        · cases he
      | d => simp [Code.sub] at hs
    | block id b =>
      cases x with
      | d =>
        simp only [codeOk] at hok
        simp only [Code.sub] at hs
        simp only [evPre] at he
        exact wpIn_block (ih b _ σ tm tm' h h' a w hok hs he hS (fun τ a' w' hle hS' => by simpa only [postOf] using hQ τ a' w' hle hS'))
      | _ => simp [Code.sub] at hs
    | _ => simp [Code.sub] at hs

theorem evPost_ok {f : Nat} : ∀ (c : Code) (p : Path) (Q : Exit → Act → World → Prop) (σ : Sub) (ex ex' : Ex) (tm tm' : T V) (h h' : Hp) (a : Act) (w : World), codeOk E c = true → evPost E call n f c p ex tm h = some (ex', tm', h') → SRel n E.G w0 B σ (getT tm) h [] a w →
    (∀ (τ : Sub) (a' : Act) (w' : World), σ.le τ → SRel n E.G w0 B τ (getT tm') h' [] a' w' → Q (exOf ex') a' w') → postOf P c p Q (exOf ex) a w := by
  intro c p
  induction p generalizing c with
  | nil =>
    intro Q σ ex ex' tm tm' h h' a w hok he hS hQ
    simp only [evPost, Option.some.injEq, Prod.mk.injEq] at he
    obtain ⟨rfl, rfl, rfl⟩ := he
    simpa only [postOf] using hQ σ a w (Sub.le_refl σ) hS
  | cons x p ih =>
    intro Q σ ex ex' tm tm' h h' a w hok he hS hQ
    cases c with
    | seq c1 c2 =>
      simp only [codeOk, Bool.and_eq_true] at hok
      cases x with
      | l =>
        simp only [evPost] at he
        simp only [postOf]
        cases h1 : evPost E call n f c1 p ex tm h with
        | none => simp [h1] at he
        | some r =>
          obtain ⟨ex1, tm1, hp1⟩ := r
          refine ih c1 _ σ ex ex1 tm tm1 h hp1 a w hok.1 h1 hS (fun τ a' w' hle hS' => ?_)
          rw [h1] at he
          cases ex1 with
          | normal =>
            simp only at he
            split at he
            · rename_i ex2 tm2 h2 hev
              simp only [Option.some.injEq, Prod.mk.injEq] at he
              obtain ⟨rfl, rfl, rfl⟩ := he
              exact (evCode_ok hmix hn f (ro := none) hE (fun _ => rfl) hc).1 c2 τ _ _ _ ex2 tm2 h2 [] a' w' _ hok.2 hev hS' (fun τ2 a2 w2 hle2 hS2 => hQ τ2 a2 w2 (Sub.le_trans hle hle2) hS2)
            · cases he
          | exit id =>
            simp only [Option.some.injEq, Prod.mk.injEq] at he
            obtain ⟨rfl, rfl, rfl⟩ := he
            exact hQ τ a' w' hle hS'
          | ret =>
            simp only [Option.some.injEq, Prod.mk.injEq] at he
            obtain ⟨rfl, rfl, rfl⟩ := he
            exact hQ τ a' w' hle hS'
      | r =>
        simp only [evPost] at he
        simp only [postOf]
        exact ih c2 Q σ ex ex' tm tm' h h' a w hok.2 he hS hQ
      | d => simp [evPost] at he
    | block id b =>
      cases x with
      | d =>
        simp only [codeOk] at hok
        simp only [evPost] at he
        simp only [postOf]
        cases h1 : evPost E call n f b p ex tm h with
        | none => simp [h1] at he
        | some r =>
          obtain ⟨ex1, tm1, hp1⟩ := r
          refine ih b _ σ ex ex1 tm tm1 h hp1 a w hok h1 hS (fun τ a' w' hle hS' => ?_)
          rw [h1] at he
          cases ex1 with
          | normal =>
            simp only [Option.some.injEq, Prod.mk.injEq] at he
            obtain ⟨rfl, rfl, rfl⟩ := he
            exact hQ τ a' w' hle hS'
          | ret =>
            simp only [Option.some.injEq, Prod.mk.injEq] at he
            obtain ⟨rfl, rfl, rfl⟩ := he
            exact hQ τ a' w' hle hS'
          | exit id' =>
            simp only [exOf, Exit.inBlock]
            simp only at he
            split at he
            · rename_i hb
              have hb := Nat.eq_of_beq_eq_true hb
              simp only [Option.some.injEq, Prod.mk.injEq] at he
              obtain ⟨rfl, rfl, rfl⟩ := he
              rw [if_pos hb]; exact hQ τ a' w' hle hS'
            · rename_i hb
              have hb := Nat.ne_of_beq_eq_false hb
              simp only [Option.some.injEq, Prod.mk.injEq] at he
              obtain ⟨rfl, rfl, rfl⟩ := he
              rw [if_neg hb]; exact hQ τ a' w' hle hS'
      | _ => simp [evPost] at he
    | _ => simp [evPost] at he
end

/-- A return, with nothing put off. -/
theorem ret_ok [Valn] {P : Program} {E : Env} (hE : EnvOk P E) {fn : Func} {w0 : Base} {B : Nat} {σ : Sub} {nt : Nat} {tm : T V} {h : Hp} {a : Act} {w : World} (hS : SRel nt E.G w0 B σ (getT tm) h [] a w) {v : V} (hr : results1 (resV E tm h fn.results.toList) = some v) {R : Ending → World → Prop}
    (hR : ∀ v', VRel σ v v' → R (.returned v') w) : LeavesInM (fw none) 0 P fn a.tmps R a.defers .returning w := by
  have hd : a.defers = [] := hS.ds
  rw [hd]
  obtain ⟨v', h1, h2⟩ := results_ok (P := P) hE hS.heap hS.tm hr
  exact ⟨v', h1, hR v' h2⟩

/-- How a function with one loop answers behind it: from a template at the loop's exit to a value. -/
def ends (E : Env) (call : CallF) (cf : Nat) (fn : Func) (p : Path) (q : Tpl) (ex : Ex) (want : V → Bool) : Bool :=
  match fn.body with
  | some c =>
    match evPost E call fn.ntmps cf c p ex q.tms q.hp with
    | some (ex', tm, h) =>
      match ex', results1 (resV E tm h fn.results.toList) with
      | .normal, some v | .ret, some v => want v
      | _, _ => false
    | _ => false
  | none => false

theorem ends_ok {P : Program} (hmix : P.follows .mixedOrders = true) {ρ : Valn} {E : Env} (hE : @EnvOk ρ P E) (hnd : E.nd = false) {call : CallF} (hc : @CallOk ρ P E.G call) {cf : Nat} {fn : Func} (hn : fn.ntmps ≤ 1000000) {c : Code} (hb : fn.body = some c) (hok : codeOk E c = true) {p : Path} {q : Tpl} {ex : Ex} {want : V → Bool} (he : ends E call cf fn p q ex want = true)
    {w0 : Base} {B : Nat} {a : Act} {w : World} (hA : At ρ fn.ntmps E.G w0 B q a w) {R : Ending → World → Prop} (hR : ∀ v v' σ w', want v = true → @VRel ρ σ v v' → Below B w0.w w' → R (.returned v') w') : postOf P c p (bodyPostM (fw none) 0 P fn R) (exOf ex) a w := by
  letI := ρ
  obtain ⟨σ, hS⟩ := hA
  unfold ends at he
  rw [hb] at he
  simp only at he
  split at he
  · rename_i ex' tm h hev
    refine evPost_ok hmix hn hE hnd hc c p _ σ ex ex' q.tms tm q.hp h a w hok hev hS (fun τ a' w' hle hS' => ?_)
    split at he
    · rename_i v hr
      exact ret_ok (P := P) hE hS' hr (fun v' hv => hR v v' τ w' he hv hS'.heap.below)
    · rename_i v hr
      exact ret_ok (P := P) hE hS' hr (fun v' hv => hR v v' τ w' he hv hS'.heap.below)
    · cases he
  · cases he

/-- How the state ahead of the loop is an instance of its template. -/
def begins (E : Env) (call : CallF) (cf : Nat) (fn : Func) (args : List V) (h : Hp) (p : Path) (q : Tpl) (s : List (Nat × SX)) (πl : List (Nat × Nat)) : Bool :=
  match fn.body with
  | some c =>
    match Nat.ble args.length fn.ntmps, evPre E call fn.ntmps cf c p (startT args 0 .nil) h with
    | true, some (tm, h') => okSt E.rw s πl E.G fn.ntmps q tm h'
    | _, _ => false
  | none => false

/-- A function with one loop: from its template at the loop's head. -/
theorem loop_calls {P : Program} (hmix : P.follows .mixedOrders = true) {ρ ρ' : Valn} {E : Env} (hE : @EnvOk ρ P E) (hnd : E.nd = false) {call : CallF} (hc : @CallOk ρ P E.G call) {cf : Nat} {f : FuncId} {fn : Func} (hf : P.funcs[f]? = some fn) (hn : fn.ntmps ≤ 1000000) {c : Code} (hb : fn.body = some c) (hok : codeOk E c = true)
    {p : Path} {b : Code} (hs : Code.sub c p = some (.loop b)) {args : List V} {h : Hp} {q : Tpl} {s : List (Nat × SX)} {πl : List (Nat × Nat)} (he : begins E call cf fn args h p q s πl = true) (m : Moves ρ ρ' s)
    {w0 : Base} (hU : ∀ i, w0.U i = false) {B : Nat} {σ : Sub} {w : World} (hH : @HRel ρ E.G w0 B σ h w) {args' : Array Value} (hr : @VRels ρ σ args args'.toList) {R : Ending → World → Prop}
    (hl : ∀ a w', At ρ' fn.ntmps E.G w0 B q a w' → (Code.loop b).wpIn (fw none) 0 P (postOf P c p (bodyPostM (fw none) 0 P fn R)) a w') : Calls P f args' w R := by
  letI := ρ
  unfold begins at he
  rw [hb] at he
  simp only at he
  split at he
  · rename_i tm h' hlen hev
    have hlen := Nat.le_of_ble_eq_true hlen
    refine callsIn_wide.1 (callsIn_of_wp_marks (F := fw none) (n := 0) hf hb trivial ?_)
    exact evPre_ok hmix hn hE hnd hc c p _ σ _ tm h h' _ w hok hs hev (start_rel hH hr hlen hn) (fun τ a' w' _ hS' => hl a' w' ⟨_, okSt_ok m (@EnvOk.rw ρ P E hE) he hU hS'⟩)
  · cases he

theorem codeOk_sub {E : Env} {part : Code} : ∀ (c : Code) (p : Path), codeOk E c = true → Code.sub c p = some part → codeOk E part = true := by
  intro c p
  induction p generalizing c with
  | nil => intro h hs; simp only [Code.sub, Option.some.injEq] at hs; subst hs; exact h
  | cons x p ih =>
    intro h hs
    cases c with
    | seq a b =>
      simp only [codeOk, Bool.and_eq_true] at h
      cases x with
      | l => exact ih a h.1 hs
      | r => exact ih b h.2 hs
      | d => simp [Code.sub] at hs
    | block id b =>
      cases x with
      | d => exact ih b h hs
      | _ => simp [Code.sub] at hs
    | _ => simp [Code.sub] at hs

/-- An argument that is a list of numbers. -/
theorem arg_buf [Valn] {G : Nat} (hG : G ≤ 1000000) {w : World} {k : IntKind} {c n : SX} {sz N : Nat} {ns : List Int} (hn : n.den.int = Int.ofNat N) (hc : c.den.list = ns) (hl : ns.length = N * sz) {v : Value}
    (hv : (∃ q cap, v = .slice q 0 cap ∧ N = 0) ∨ ∃ blk base cap C e F, v = .slice (some ⟨blk, base, none⟩) N cap ∧ w.heap[blk]? = some (.cells C e F) ∧ base + ns.length ≤ C.size ∧ ∀ (j : Nat) (x : Int), ns[j]? = some x → C[base + j]? = some (.int k x)) :
    ∃ σ, HRel G ⟨w, fun _ => false⟩ w.heap.size σ ⟨T.set 40 .nil G (.buf false k c n sz), G + 1⟩ w ∧ VRel σ (.xarg G n sz) v := by
  have hget : ∀ (i : Nat) (o : O), (T.set 40 .nil G (O.buf false k c n sz)).get i = some o → i = G ∧ o = O.buf false k c n sz := by
    intro i o hi
    rw [T.get_set _ 40 .nil G i (pow40 (by omega))] at hi
    split at hi
    · exact ⟨by assumption, by cases hi; rfl⟩
    · cases hi
  rcases hv with ⟨q, cap, rfl, h0⟩ | ⟨blk, base, cap, C, e, F, rfl, hw, hsz, hcell⟩
  · refine ⟨fun i => if i < G then some ⟨i, 0, 0⟩ else none, ?_, ?_⟩
    · refine ⟨Below.refl _ _, Keeps.refl _, Nat.le_refl _, by show G + 1 ≤ _; omega, fun i r hi => ?_, fun g hg => ⟨⟨g, 0, 0⟩, by simp [hg], rfl, rfl⟩, fun i o ho => ?_, fun i hi => (nomatch hi), fun i o ho _ r hr => ?_, fun i j o o' r r' hi hj _ _ _ _ _ => ?_⟩
      · by_cases h : i < G
        · show i < G + 1; omega
        · simp [h] at hi
      · obtain ⟨rfl, _⟩ := hget i o ho; show i < i + 1; omega
      · obtain ⟨rfl, _⟩ := hget i o ho; simp at hr
      · rw [(hget i o hi).1, (hget j o' hj).1]
    · simp only [VRel]
      exact ⟨0, by rw [hn, h0], .inl ⟨q, cap, rfl, rfl⟩⟩
  · have hlt : blk < w.heap.size := (Array.getElem?_eq_some_iff.1 hw).1
    refine ⟨fun i => if i < G then some ⟨i, 0, 0⟩ else if i = G then some ⟨blk, base, base + ns.length⟩ else none, ?_, ?_⟩
    · refine ⟨Below.refl _ _, Keeps.refl _, Nat.le_refl _, by show G + 1 ≤ _; omega, fun i r hi => ?_, fun g hg => ⟨⟨g, 0, 0⟩, by simp [hg], rfl, rfl⟩, fun i o ho => ?_, fun i hi => (nomatch hi), fun i o ho _ r hr => ?_, fun i j o o' r r' hi hj _ _ _ _ _ => ?_⟩
      · by_cases h : i < G
        · show i < G + 1; omega
        · by_cases h2 : i = G
          · show i < G + 1; omega
          · simp [h, h2] at hi
      · obtain ⟨rfl, _⟩ := hget i o ho; show i < i + 1; omega
      · obtain ⟨rfl, rfl⟩ := hget i o ho
        simp at hr
        subst hr
        exact ⟨fun h => (nomatch h), C, e, F, N, hw, fun h => (nomatch h), hsz, hn, by rw [hc]; exact hl, by show base + N * sz ≤ base + ns.length; omega, fun j x hj => hcell j x (by rw [← hc]; exact hj)⟩
      · rw [(hget i o hi).1, (hget j o' hj).1]
    · simp only [VRel]
      exact ⟨N, hn, .inr ⟨⟨blk, base, base + ns.length⟩, cap, by simp, rfl, by show base + N * sz ≤ base + ns.length; omega⟩⟩
end Go.Bx
