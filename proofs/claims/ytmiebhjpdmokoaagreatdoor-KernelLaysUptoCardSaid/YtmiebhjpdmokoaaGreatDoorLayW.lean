/- The contract of a function with a loop over numbers that lays them as bytes: whatever its program. -/
import Derived.Test.YtmiebhjpdmokoaaGreatDoorLayF
set_option linter.all false
namespace Go.Bx.Lay
open Go Go.Bx Go.RowKit

/-- All that a run of the evaluator must show. -/
structure Runs (P : Program) (call : Env → CallF) (cf : Nat) (f : FuncId) (fn : Func) (c b : Code) (p : Path) (t : Nat) (tpl : Tpl) (fa fb : List (SX × SX)) (id : Nat) (ids0 idsB idsX : List (Nat × Nat)) : Prop where
  func : P.funcs[f]? = some fn
  body : fn.body = some c
  tmps : fn.ntmps ≤ 1000000
  sub : Code.sub c p = some (.loop b)
  begins : begins ((Env.of P).with fa) (call ((Env.of P).with fa)) cf fn (args (Env.of P).G) ⟨T.set 40 .nil (Env.of P).G (arg0 (Env.of P).G), (Env.of P).G + 1⟩ p tpl zero ids0 = true
  round : leads ((Env.of P).with fb) (call ((Env.of P).with fb)) fn.ntmps cf b tpl .normal tpl next idsB = true
  last : leads ((Env.of P).with factsX) (call ((Env.of P).with factsX)) fn.ntmps cf b tpl (.exit id) tpl [] idsX = true
  ends : ends ((Env.of P).with factsR) (call ((Env.of P).with factsR)) cf fn p tpl (.exit id) want = true

section
variable {P : Program} (hmix : P.follows .mixedOrders = true) (hprog : progOk (Env.of P) P.funcs.toList = true) (hE : ∀ ρ : Valn, @EnvOk ρ P (Env.of P)) {call : Env → CallF} (hc : ∀ (ρ : Valn) (facts : List (SX × SX)), @AllDen ρ facts → @CallOk ρ P (Env.of P).G (call ((Env.of P).with facts)))
variable (hG : (Env.of P).G ≤ 1000000)
 include hmix hprog hE hc hG

theorem lay_calls {cf : Nat} {f : FuncId} {fn : Func} {c b : Code} {p : Path} {t : Nat} {tpl : Tpl} {fb : List (SX × SX)} {id : Nat} {ids0 idsB idsX : List (Nat × Nat)} (R : Runs P call cf f fn c b p t tpl factsA fb id ids0 idsB idsX)
    (ns Tl : List Int) (cm : Int) (hw : ns.map (wrapK .i64) = ns) (hT : Tl.map (wrapK .u8) = Tl) (h1 : ns.length ≤ 10000000) (h2 : Tl.length ≤ 10000000) (hfb : ∀ k, k < ns.length → @AllDen (rho ns Tl cm k) fb)
    {w : World} {v : Value} (hv : (∃ q cap, v = .slice q 0 cap ∧ ns = []) ∨ ∃ blk base cap C e F, v = .slice (some ⟨blk, base, none⟩) ns.length cap ∧ w.heap[blk]? = some (.cells C e F) ∧ base + ns.length ≤ C.size ∧ ∀ j x, ns[j]? = some x → C[base + j]? = some (.int .i64 x)) :
    Calls P f #[.int .i64 cm, v, .string ⟨⟨asBytes Tl⟩⟩] w fun e w' => e = .returned (.agg #[.int .i64 cm, .string ⟨⟨asBytes (by4 ns ++ Tl)⟩⟩]) ∧ Below w.heap.size w w' := by
  have hok : codeOk (Env.of P) c = true := (@hprog_of anyVal P (Env.of P) hprog f fn c R.func R.body).1
  have okw : ∀ facts, codeOk ((Env.of P).with facts) c = true := fun facts => by rw [@codeOk_with anyVal]; exact hok
  have hn := hvn ns Tl cm 0 hw
  -- the entry
  have key : ∀ (σ : Sub), @HRel (rho ns Tl cm 0) (Env.of P).G ⟨w, fun _ => false⟩ w.heap.size σ ⟨T.set 40 .nil (Env.of P).G (arg0 (Env.of P).G), (Env.of P).G + 1⟩ w → @VRel (rho ns Tl cm 0) σ (.xarg (Env.of P).G vn 1) v →
      Calls P f #[.int .i64 cm, v, .string ⟨⟨asBytes Tl⟩⟩] w fun e w' => e = .returned (.agg #[.int .i64 cm, .string ⟨⟨asBytes (by4 ns ++ Tl)⟩⟩]) ∧ Below w.heap.size w w' := by
    intro σ hH hx
    have hr : @VRels (rho ns Tl cm 0) σ (args (Env.of P).G) #[.int .i64 cm, v, .string ⟨⟨asBytes Tl⟩⟩].toList := by
      letI : Valn := rho ns Tl cm 0
      simp only [args, VRels]
      exact ⟨_, _, rfl, by simp only [VRel, tv]; rfl, _, _, rfl, hx, _, _, rfl, by simp only [VRel, tv]; show _ = Value.string ⟨⟨asBytes (Tl.map (wrapK .u8))⟩⟩; rw [hT], rfl⟩
    refine loop_calls hmix (E := (Env.of P).with factsA) (ρ := rho ns Tl cm 0) (@EnvOk.with' (rho ns Tl cm 0) _ _ (hE _) _ (@AllDen.mem (rho ns Tl cm 0) _ (facts_A ns Tl cm hw h1 h2))) rfl (hc _ _ (facts_A ns Tl cm hw h1 h2)) R.func R.tmps R.body (okw _) R.sub R.begins (moves_zero ns Tl cm) (fun _ => rfl) hH hr ?_
    intro a w' hA
    -- behind the loop
    have hend : ∀ k a w', k = ns.length → At (rho ns Tl cm k) fn.ntmps (Env.of P).G ⟨w, fun _ => false⟩ w.heap.size tpl a w' → postOf P c p (bodyPostM (fw none) 0 P fn fun e w' => e = .returned (.agg #[.int .i64 cm, .string ⟨⟨asBytes (by4 ns ++ Tl)⟩⟩]) ∧ Below w.heap.size w w') (.exit id) a w' := by
      rintro k a w' rfl hA
      have hf := facts_R ns Tl cm ns.length (by omega) (Nat.le_refl _) h1 h2
      refine ends_ok hmix (E := (Env.of P).with factsR) (ρ := rho ns Tl cm ns.length) (@EnvOk.with' (rho ns Tl cm ns.length) _ _ (hE _) _ (@AllDen.mem (rho ns Tl cm ns.length) _ hf)) rfl (hc _ _ hf) R.tmps R.body (okw _) R.ends hA (fun u v' τ w2 hu hv hb => ⟨?_, hb⟩)
      letI : Valn := rho ns Tl cm ns.length
      have hu := vEq_eq _ _ hu
      subst hu
      simp only [VRel, VRels] at hv
      obtain ⟨cs, rfl, a1, l1, e1, rfl, a2, l2, rfl, rfl, rfl⟩ := hv
      obtain ⟨cs⟩ := cs
      simp only at e1
      subst e1
      simp only [tv]
      have e1 : (SX.cat (pre vi) vt).den.list = by4 ns ++ Tl.map (wrapK .u8) := by
        show (@SX.den (rho ns Tl cm ns.length) (pre vi)).list ++ _ = _
        rw [hpre ns Tl cm ns.length (by omega), List.take_length]
        rfl
      rw [e1, hT]
      rfl
    have hb : codeOk (Env.of P) b = true := codeOk_sub (part := .loop b) c p hok R.sub
    refine wpIn_loop_rounds (ns.length + 1) (rounds_ok (fun d a w' => d ≤ ns.length ∧ At (rho ns Tl cm (ns.length - d)) fn.ntmps (Env.of P).G ⟨w, fun _ => false⟩ w.heap.size tpl a w') ?_ ?_ ns.length a w' ⟨Nat.le_refl _, by rw [Nat.sub_self]; exact hA⟩)
    · rintro a w' ⟨_, hA⟩
      rw [Nat.sub_zero] at hA
      have hf := facts_X ns Tl cm ns.length (by omega) hw (Nat.le_refl _)
      exact leads_ok (E := (Env.of P).with factsX) hmix (@EnvOk.with' (rho ns Tl cm ns.length) _ _ (hE _) _ (@AllDen.mem (rho ns Tl cm ns.length) _ hf)) rfl (hc _ _ hf) R.tmps R.last (by rw [@codeOk_with anyVal]; exact hb) (movesNone _) (fun _ => rfl) hA (fun a2 w2 h => hend ns.length a2 w2 rfl h)
    · rintro d a w' ⟨hd, hA⟩
      have hlt : ns.length - (d + 1) < ns.length := by omega
      have hf := hfb _ hlt
      have m := moves_next ns Tl cm (ns.length - (d + 1)) (by omega)
      rw [show ns.length - (d + 1) + 1 = ns.length - d by omega] at m
      exact leads_ok (E := (Env.of P).with fb) hmix (@EnvOk.with' (rho ns Tl cm _) _ _ (hE _) _ (@AllDen.mem (rho ns Tl cm _) _ hf)) rfl (hc _ _ hf) R.tmps R.round (by rw [@codeOk_with anyVal]; exact hb) m (fun _ => rfl) hA (fun a2 w2 h => ⟨by omega, h⟩)
  have hv' : (∃ q cap, v = .slice q 0 cap ∧ ns.length = 0) ∨ ∃ blk base cap C e F, v = .slice (some ⟨blk, base, none⟩) ns.length cap ∧ w.heap[blk]? = some (.cells C e F) ∧ base + ns.length ≤ C.size ∧ ∀ (j : Nat) (x : Int), ns[j]? = some x → C[base + j]? = some (.int .i64 x) :=
    hv.imp (fun ⟨q, cap, h, h0⟩ => ⟨q, cap, h, by rw [h0]; rfl⟩) (fun h => h)
  obtain ⟨σ, hH, hx⟩ := @arg_buf (rho ns Tl cm 0) (Env.of P).G hG w .i64 (.lvar .i64 0) vn 1 ns.length ns (by rw [hn]; rfl) (by rw [hlv ns Tl cm 0 hw]; rfl) (by omega) v hv'
  exact key σ hH hx
end
end Go.Bx.Lay
