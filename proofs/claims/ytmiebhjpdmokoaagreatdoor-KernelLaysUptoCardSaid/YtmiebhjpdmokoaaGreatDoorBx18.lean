/- Code, bodies, functions: the evaluator's answer is the model's, on every tape. -/
import Derived.Test.YtmiebhjpdmokoaaGreatDoorBx18r
import Derived.LoopN
import Derived.ScopeJumps
import Derived.Defers
set_option linter.all false
namespace Go.Bx
open Go.RowKit
variable [Valn]

section
variable {E E' : Env} (ht : E'.types = E.types)
 include ht

theorem und_same (t : TypeId) : E'.und t = E.und t := by unfold Env.und Env.info; rw [ht]
theorem isQuiet_same (o : Op) : isQuiet E' o = isQuiet E o := by
  unfold isQuiet
  split <;> first | rfl | (rw [und_same ht])
theorem calmF_same (fx : List Nat) (i : Nat) (o : Op) : calmF E' fx i o = calmF E fx i o := by
  unfold calmF; rw [isQuiet_same ht]
theorem floatsGo_same (m : List Nat) : ∀ (l : List Oper) (i : Nat) (ls : List Nat), floatsGo E' m l i ls = floatsGo E m l i ls
  | [], _, _ => rfl
  | o :: l, i, ls => by
    simp only [floatsGo, isQuiet_same ht, floatsGo_same m l]
theorem pairsOk_same (fx : List Nat) (ops : List Oper) (m : List Nat) (j : Nat) (b : Oper) : ∀ (l : List Oper) (i : Nat), pairsOk E' fx ops m j b l i = pairsOk E fx ops m j b l i
  | [], _ => rfl
  | a :: l, i => by
    simp only [pairsOk, pairOk, calmF_same ht, pairsOk_same fx ops m j b l]
theorem regionGo_same (ops : List Oper) (fx m : List Nat) : ∀ (l : List Oper) (j : Nat), regionOk.go E' ops fx m l j = regionOk.go E ops fx m l j
  | [], _ => rfl
  | b :: l, j => by
    simp only [regionOk.go, pairsOk_same ht, regionGo_same ops fx m l]
theorem codeOk_same : ∀ c : Code, codeOk E' c = codeOk E c := by
  intro c
  induction c with
  | region id ops d =>
    cases d with
    | false => rfl
    | true => simp only [codeOk, regionOk, floatsOf, floatsGo_same ht, regionGo_same ht]
  | seq a b iha ihb => simp only [codeOk, iha, ihb]
  | cond x a b iha ihb => simp only [codeOk, iha, ihb]
  | block _ b ih => simp only [codeOk, ih]
  | loop b ih => simp only [codeOk, ih]
  | scope b ih => simp only [codeOk, ih]
  | rangeFunc _ _ a b iha ihb => simp only [codeOk, iha, ihb]
  | _ => rfl
end

theorem codeOk_inRound (E : Env) (c : Code) : codeOk E.inRound c = codeOk E c := codeOk_same (E := E) (E' := E.inRound) rfl c
theorem codeOk_with (E : Env) (rw : List (SX × SX)) (c : Code) : codeOk (E.with rw) c = codeOk E c := codeOk_same (E := E) (E' := E.with rw) rfl c

theorem EnvOk.inRound {P : Program} {E : Env} (h : EnvOk P E) : EnvOk P E.inRound := ⟨h.prog, h.glob, h.types, h.funcs, h.rw⟩

section
variable {P : Program} {E : Env} (hE : EnvOk P E) {ro : Option Nat} (hnd : E.nd = false → ro = none) (hmix : P.follows .mixedOrders = true) {call : CallF} (hc : CallOk P E.G call) {n : Nat} (hn : n ≤ 1000000) {w0 : Base} {B : Nat}
 include hE hnd hmix hc hn

theorem drawOps_ok {ops : Array Oper} {Q : Exit → Act → World → Prop} (id : Nat) (hR : regionOk E ops.toList = true) {σ : Sub} {tm tm' : T V} {h h' : Hp} {ds ds' : DL} {a : Act} {w : World} (hd : drawOps E call n ops.toList tm h ds = some (tm', h', ds'))
    (hS : SRel n E.G w0 B σ (getT tm) h ds a w) (hQ : ∀ (τ : Sub) (a' : Act) (w' : World), σ.le τ → SRel n E.G w0 B τ (getT tm') h' ds' a' w' → Q .normal a' w') : (Code.region id ops true).wpIn (fw ro) 0 P Q a w := by
  unfold drawOps drawOpsF at hd
  split at hd
  · cases hd
  · rename_i hp1 hres
    -- the names kept
    obtain ⟨U', hHU, hUU⟩ : ∃ U' : Nat → Bool, HRel E.G ⟨w0.w, U'⟩ B σ hp1 w ∧ ∀ i, (w0.U i = true ∨ h.n ≤ i ∧ i < h.n + (floatsOf E ops.toList).length) → U' i = true := by
      have hH0 : HRel E.G ⟨w0.w, w0.U⟩ B σ h w := hS.heap
      split at hres
      · rename_i hfx
        cases hres
        exact ⟨w0.U, hH0, fun i hi => by rcases hi with h1 | h1; exact h1; rw [hfx] at h1; simp at h1; omega⟩
      · exact reserve_ok (w0 := w0) _ h hp1 w0.U hH0 hres
    have hX : ∀ j b, flAt (floatsOf E ops.toList) h.n j = some b → w0.U b = false := by
      intro j b hb
      have h1 := (flAt_range _ _ _ _ hb).1
      cases hu : w0.U b with
      | false => rfl
      | true => have := (hS.heap.unb b hu).2; omega
    cases ht : traceOps E call n ops.toList (floatsOf E ops.toList) h.n ops.toList 0 tm hp1 ds with
    | none => simp [ht] at hd
    | some r =>
      obtain ⟨tr, tm1, h1, ds1⟩ := r
      simp only [ht] at hd
      split at hd
      · rename_i hW
        simp only [Option.some.injEq, Prod.mk.injEq] at hd
        obtain ⟨rfl, rfl, rfl⟩ := hd
        obtain ⟨hT, h0⟩ := traceOps_spec E call (floatsOf E ops.toList) h.n n ops.toList ops.toList 0 tm hp1 ds tr _ ht
        refine wpIn_region_any hmix ?_
        have hlen : ops.toList.length = ops.size := by simp
        obtain ⟨p, p1, p2, p3, p4⟩ := nextLoud E (floatsOf E ops.toList) ops.toList ops.toList.length 0 (by omega)
        have hspan : (stAt tr (tm1, h1, ds1) p).2 = (stAt tr (tm1, h1, ds1) 0).2 := by
          have := quiet_span hT (a := 0) p (by omega) (fun q hq hlt => p4 q hq (by omega))
          rwa [Nat.zero_add] at this
        have hfalse : ∀ k, (Array.replicate ops.size false).getD k false = false := fun k => by
          simp only [Array.getD_eq_getD_getElem?, Array.getElem?_replicate]
          split <;> rfl
        refine draw_any hE hnd hc hn (regionOk_spec hR) hT hW hX (σ0 := σ) (fun τ a' w' hle hS' => hQ τ a' w' hle hS') ops.size _ p σ a _ (Sub.le_refl σ) ?_ ?_
        · refine ⟨by simp, fun j hj => ?_, p2, fun hlt => ⟨p3 hlt, hfalse p⟩, fun q hq hql => absurd hql (p4 q (by omega) hq), ?_⟩
          · rw [hfalse] at hj; cases hj
          · rw [hspan, h0]
            have hF : FD (getT tm) ops.toList tr (fun k => (Array.replicate ops.size false).getD k false) ops.toList.length = getT tm := by
              funext x
              have := FD_stop (F0 := getT tm) (L := ops.toList) (tr := tr) (D := fun k => (Array.replicate ops.size false).getD k false) (t := x) (i := 0) (fun k _ _ => hfalse k) ops.toList.length
              rw [Nat.zero_add] at this
              exact this
            simp only
            rw [hF]
            refine ⟨hS.size, hS.tm, hHU.drew.weaken rfl (fun k hk => ?_), hS.ds⟩
            refine hUU k ?_
            rcases baseF_U.1 hk with hk | ⟨j, _, h2, _⟩
            · exact .inl hk
            · exact .inr (flAt_range _ _ _ _ h2)
        · clear hspan
          have : ∀ m, cntF (fun k => (Array.replicate ops.size false).getD k false) m ≤ m := by
            intro m
            induction m with
            | zero => simp [cntF]
            | succ m ih => simp only [cntF]; split <;> omega
          exact this ops.size
      · cases hd

end

section
variable {P : Program} (hmix : P.follows .mixedOrders = true) {call : CallF} {n : Nat} (hn : n ≤ 1000000) {B : Nat}
 include hmix hn

theorem evCode_ok : ∀ (f : Nat) {E : Env} (hE : EnvOk P E) {ro : Option Nat} (hnd : E.nd = false → ro = none) (hc : CallOk P E.G call) {w0 : Base},
    (∀ (c : Code) (σ : Sub) (tm : T V) (h : Hp) (ds : DL) (ex : Ex) (tm' : T V) (h' : Hp) (ds' : DL) (a : Act) (w : World) (Q : Exit → Act → World → Prop), codeOk E c = true → evCode E call n f c tm h ds = some (ex, tm', h', ds') →
      SRel n E.G w0 B σ (getT tm) h ds a w → (∀ (τ : Sub) (a' : Act) (w' : World), σ.le τ → SRel n E.G w0 B τ (getT tm') h' ds' a' w' → Q (exOf ex) a' w') → c.wpIn (fw ro) 0 P Q a w) ∧
    (∀ (b : Code) (tm : T V) (h : Hp) (ds : DL) (ex : Ex) (tm' : T V) (h' : Hp) (ds' : DL), codeOk E b = true → evCode E call n f (.loop b) tm h ds = some (ex, tm', h', ds') →
      ∃ m, ∀ (σ : Sub) (a : Act) (w : World) (Q : Exit → Act → World → Prop), SRel n E.G w0 B σ (getT tm) h ds a w → (∀ (τ : Sub) (a' : Act) (w' : World), σ.le τ → SRel n E.G w0 B τ (getT tm') h' ds' a' w' → Q (exOf ex) a' w') → Code.roundsIn (fw ro) 0 P b Q m a w) := by
  intro f
  induction f with
  | zero => intro E hE ro hnd hc w0; exact ⟨fun c σ tm h ds ex tm' h' ds' a w Q _ he => by simp [evCode] at he, fun b tm h ds ex tm' h' ds' _ he => by simp [evCode] at he⟩
  | succ f ih =>
    intro E hE ro hnd hc w0
    obtain ⟨ihA, ihB⟩ := @ih E hE ro hnd hc w0
    have loopB : ∀ (b : Code) (tm : T V) (h : Hp) (ds : DL) (ex : Ex) (tm' : T V) (h' : Hp) (ds' : DL), codeOk E b = true → evCode E call n (f + 1) (.loop b) tm h ds = some (ex, tm', h', ds') →
      ∃ m, ∀ (σ : Sub) (a : Act) (w : World) (Q : Exit → Act → World → Prop), SRel n E.G w0 B σ (getT tm) h ds a w → (∀ (τ : Sub) (a' : Act) (w' : World), σ.le τ → SRel n E.G w0 B τ (getT tm') h' ds' a' w' → Q (exOf ex) a' w') → Code.roundsIn (fw ro) 0 P b Q m a w := by
      intro b tm h ds ex tm' h' ds' hok he
      simp only [evCode] at he
      cases hb : evCode E call n f b tm h ds with
      | none => simp [hb] at he
      | some r =>
        obtain ⟨ex1, tm1, h1, ds1⟩ := r
        cases ex1 with
        | normal =>
          simp only [hb] at he
          obtain ⟨m, hm⟩ := ihB b tm1 h1 ds1 ex tm' h' ds' hok he
          refine ⟨m + 1, fun σ a w Q hS hQ => ?_⟩
          rw [roundsIn_succ]
          exact ihA b σ tm h ds .normal tm1 h1 ds1 a w _ hok hb hS (fun τ a' w' hle hS' => hm τ a' w' Q hS' (fun τ2 a2 w2 hle2 hS2 => hQ τ2 a2 w2 (Sub.le_trans hle hle2) hS2))
        | exit id =>
          simp only [hb, Option.some.injEq, Prod.mk.injEq] at he
          obtain ⟨rfl, rfl, rfl, rfl⟩ := he
          refine ⟨1, fun σ a w Q hS hQ => ?_⟩
          rw [roundsIn_succ]
          exact ihA b σ tm h ds (.exit id) tm1 h1 ds1 a w _ hok hb hS (fun τ a' w' hle hS' => hQ τ a' w' hle hS')
        | ret =>
          simp only [hb, Option.some.injEq, Prod.mk.injEq] at he
          obtain ⟨rfl, rfl, rfl, rfl⟩ := he
          refine ⟨1, fun σ a w Q hS hQ => ?_⟩
          rw [roundsIn_succ]
          exact ihA b σ tm h ds .ret tm1 h1 ds1 a w _ hok hb hS (fun τ a' w' hle hS' => hQ τ a' w' hle hS')
    refine ⟨?_, loopB⟩
    intro c σ tm h ds ex tm' h' ds' a w Q hok he hS hQ
    cases c with
    | skip => simp only [evCode, Option.some.injEq, Prod.mk.injEq] at he; obtain ⟨rfl, rfl, rfl, rfl⟩ := he; exact wpIn_skip (hQ σ a w (Sub.le_refl σ) hS)
    | label l => simp only [evCode, Option.some.injEq, Prod.mk.injEq] at he; obtain ⟨rfl, rfl, rfl, rfl⟩ := he; exact wpIn_label (hQ σ a w (Sub.le_refl σ) hS)
    | exit id => simp only [evCode, Option.some.injEq, Prod.mk.injEq] at he; obtain ⟨rfl, rfl, rfl, rfl⟩ := he; exact wpIn_exit (hQ σ a w (Sub.le_refl σ) hS)
    | ret => simp only [evCode, Option.some.injEq, Prod.mk.injEq] at he; obtain ⟨rfl, rfl, rfl, rfl⟩ := he; exact wpIn_ret (hQ σ a w (Sub.le_refl σ) hS)
    | region id ops draw =>
      cases draw with
      | false =>
        simp only [evCode] at he
        cases hr : runOps E call n ops.toList ops.toList tm h ds with
        | none => simp [hr] at he
        | some r =>
          obtain ⟨tm1, h1, ds1⟩ := r
          simp only [hr, Option.some.injEq, Prod.mk.injEq] at he
          obtain ⟨rfl, rfl, rfl, rfl⟩ := he
          refine wpIn_region ?_
          have := runOps_ok hE hnd hc hn (ops := ops) (Q := Q) ops.toList 0 σ tm h ds _ _ _ a w (by simp) hr hS (fun τ a' w' hle hS' => hQ τ a' w' hle hS')
          rw [List.range_eq_range']
          simpa using this
      | true =>
        simp only [evCode] at he
        cases hr : drawOps E call n ops.toList tm h ds with
        | none => simp [hr] at he
        | some r =>
          obtain ⟨tm1, h1, ds1⟩ := r
          simp only [hr, Option.some.injEq, Prod.mk.injEq] at he
          obtain ⟨rfl, rfl, rfl, rfl⟩ := he
          exact drawOps_ok hE hnd hmix hc hn id (by simpa [codeOk] using hok) hr hS hQ
    | seq x y =>
      simp only [codeOk, Bool.and_eq_true] at hok
      simp only [evCode] at he
      refine wpIn_seq ?_
      cases hx : evCode E call n f x tm h ds with
      | none => simp [hx] at he
      | some r =>
        obtain ⟨ex1, tm1, h1, ds1⟩ := r
        cases ex1 with
        | normal =>
          simp only [hx] at he
          exact ihA x σ tm h ds .normal tm1 h1 ds1 a w _ hok.1 hx hS (fun τ a' w' hle hS' => ihA y τ tm1 h1 ds1 ex tm' h' ds' a' w' Q hok.2 he hS' (fun τ2 a2 w2 hle2 hS2 => hQ τ2 a2 w2 (Sub.le_trans hle hle2) hS2))
        | exit id =>
          simp only [hx, Option.some.injEq, Prod.mk.injEq] at he
          obtain ⟨rfl, rfl, rfl, rfl⟩ := he
          exact ihA x σ tm h ds (.exit id) tm1 h1 ds1 a w _ hok.1 hx hS (fun τ a' w' hle hS' => hQ τ a' w' hle hS')
        | ret =>
          simp only [hx, Option.some.injEq, Prod.mk.injEq] at he
          obtain ⟨rfl, rfl, rfl, rfl⟩ := he
          exact ihA x σ tm h ds .ret tm1 h1 ds1 a w _ hok.1 hx hS (fun τ a' w' hle hS' => hQ τ a' w' hle hS')
    | cond x thn els =>
      simp only [codeOk, Bool.and_eq_true] at hok
      simp only [evCode] at he
      have hx := opnd_rel hS.heap (a := a) (fun t => hS.tm t) x
      split at he
      · rename_i hb; rw [hb] at hx; simp only [VRel] at hx
        exact wpIn_cond_true hx (ihA thn σ tm h ds ex tm' h' ds' a w Q hok.1 he hS hQ)
      · rename_i hb; rw [hb] at hx; simp only [VRel] at hx
        exact wpIn_cond_false hx (ihA els σ tm h ds ex tm' h' ds' a w Q hok.2 he hS hQ)
      · cases he
    | block id b =>
      simp only [codeOk] at hok
      simp only [evCode] at he
      refine wpIn_block ?_
      cases hx : evCode E call n f b tm h ds with
      | none => simp [hx] at he
      | some r =>
        obtain ⟨ex1, tm1, h1, ds1⟩ := r
        cases ex1 with
        | normal =>
          simp only [hx, Option.some.injEq, Prod.mk.injEq] at he
          obtain ⟨rfl, rfl, rfl, rfl⟩ := he
          exact ihA b σ tm h ds .normal tm1 h1 ds1 a w _ hok hx hS (fun τ a' w' hle hS' => hQ τ a' w' hle hS')
        | ret =>
          simp only [hx, Option.some.injEq, Prod.mk.injEq] at he
          obtain ⟨rfl, rfl, rfl, rfl⟩ := he
          exact ihA b σ tm h ds .ret tm1 h1 ds1 a w _ hok hx hS (fun τ a' w' hle hS' => hQ τ a' w' hle hS')
        | exit id' =>
          simp only [hx] at he
          refine ihA b σ tm h ds (.exit id') tm1 h1 ds1 a w _ hok hx hS (fun τ a' w' hle hS' => ?_)
          simp only [exOf, Exit.inBlock]
          split at he
          · rename_i hb
            have hb := Nat.eq_of_beq_eq_true hb
            simp only [Option.some.injEq, Prod.mk.injEq] at he
            obtain ⟨rfl, rfl, rfl, rfl⟩ := he
            rw [if_pos hb]; exact hQ τ a' w' hle hS'
          · rename_i hb
            have hb := Nat.ne_of_beq_eq_false hb
            simp only [Option.some.injEq, Prod.mk.injEq] at he
            obtain ⟨rfl, rfl, rfl, rfl⟩ := he
            rw [if_neg hb]; exact hQ τ a' w' hle hS'
    | loop b =>
      simp only [codeOk] at hok
      obtain ⟨m, hm⟩ := loopB b tm h ds ex tm' h' ds' hok he
      exact wpIn_loop_rounds m (hm σ a w Q hS hQ)
    | scope b =>
      simp only [codeOk] at hok
      simp only [evCode] at he
      cases hn0 : E.nd with
      | true => simp [hn0] at he
      | false =>
      simp only [hn0] at he
      obtain rfl := hnd hn0
      refine wpIn_wide.2 (wp_scope_straight ((wpIn_wide (n := 0)).1 ?_))
      refine ihA b σ tm h ds ex tm' h' ds' a w _ hok he hS (fun τ a' w' hle hS' => ?_)
      have := hQ τ a' w' hle hS'
      cases ex <;> exact this
    | rangeFunc g ps assign body =>
      simp only [codeOk, Bool.and_eq_true] at hok
      simp only [evCode] at he
      split at he
      case h_2 => cases he
      rename_i gf b o p hn0 hg hps
      obtain rfl := hnd hn0
      have hps' : ps = #[p] := by apply Array.ext'; simpa using hps
      subst hps'
      split at he
      · cases he
      · rename_i fetch t hi
        split at he
        · cases he
        · rename_i d h0 ha
          split at he
          · cases he
          · rename_i ex1 h1 hr
            split at he
            · rename_i hd1
              simp only [Option.some.injEq, Prod.mk.injEq] at he
              obtain ⟨rfl, rfl, rfl, rfl⟩ := he
              exact range_ok hE hc hn (ev := fun c tm h ds => evCode E.inRound call n f c tm h ds) (fun l w1 c σ tm h ex tm' h' ds' a w Q hok2 he2 hS2 hQ2 =>
                (@ih E.inRound hE.inRound (some l) (fun hh => by simp [Env.inRound] at hh) hc w1).1 c σ tm h [] ex tm' h' ds' a w Q (by rw [codeOk_inRound]; exact hok2) he2 hS2 hQ2) hok.1 hok.2 hi hg hS ha hr hd1 hQ
            · cases he
    | goto l => simp [evCode] at he
    | refuse s => simp [evCode] at he
end
end Go.Bx
