/- A call with two registers' numbers. -/
import Derived.Test.YtammiaaocohdaaaGreatSumsP
set_option linter.all false
namespace Go.Bx
open Go.RowKit

/-- The numbers of the registers, as terms' variables. -/
abbrev valS (n0 n1 : Int) : Valn := ⟨fun i => match i with | 0 => n0 | _ => n1, fun _ => false, fun _ => [], fun _ d => d⟩
def argsS (k : V) : List V := [k, .agg [.sym (.i .u64) (vx 0), .sym (.i .u64) (vx 1)]]
def noOrc : CallF := fun _ _ _ => none
def orcS (g : CallF) (a : FuncId) : CallF := orElse g (trueOrc a)

variable [Valn]

theorem noOrc_ok {P : Program} {G : Nat} : CallOk P G noOrc := by intro f args h v h' he; cases he

theorem hprog_with {P : Program} {facts : List (SX × SX)} (h : progOk (Env.of P) P.funcs.toList = true) : ∀ (f : FuncId) (fn : Func) (c : Code), P.funcs[f]? = some fn → fn.body = some c → codeOk ((Env.of P).with facts) c = true ∧ fn.name ≠ "runtime.NumGoroutine" := by
  intro f fn c hf hb
  rw [codeOk_with]
  exact hprog_of h f fn c hf hb

theorem sums_call {P : Program} (hE : EnvOk P (Env.of P)) (hmix : P.follows .mixedOrders = true) (hprog : progOk (Env.of P) P.funcs.toList = true) {orc : CallF} (ho : CallOk P (Env.of P).G orc) {facts : List (SX × SX)} (hf : ∀ l r, (l, r) ∈ facts → l.den = r.den)
    {cf d : Nat} {f : FuncId} {k : V} (he : saysTrue (evFn ((Env.of P).with facts) orc noDorc cf d f (argsS k) ⟨.nil, (Env.of P).G⟩) = true) (hG : (Env.of P).G ≤ 1000000) (w : World) {k' : Value} {n0 n1 : Int} (hk : ∀ σ, VRel σ k k') (h0 : (vx 0).den = .I n0) (h1 : (vx 1).den = .I n1) :
    Calls P f #[k', .agg #[.int .u64 n0, .int .u64 n1]] w fun e w' => e = .returned (.bool true) ∧ Below w.heap.size w w' := by
  obtain ⟨h', he⟩ := saysTrue_ok he
  refine (open_call (E := (Env.of P).with facts) (hE.with' hf) hmix (hprog_with hprog) ho noDorc_ok he hG w _ (fun σ => ?_)).mono ?_
  · simp only [argsS, VRels, VRel, tv, h0, h1, D.int]
    exact ⟨k', _, rfl, hk σ, _, [], rfl, ⟨_, rfl, _, _, rfl, rfl, _, [], rfl, rfl, rfl⟩, rfl⟩
  · rintro e w' ⟨v', τ, rfl, hv, hb⟩
    simp only [VRel] at hv; subst hv
    exact ⟨rfl, hb⟩

 omit [Valn] in
theorem valS_den (n0 n1 : Int) (h0 : wrapK .u64 n0 = n0) (h1 : wrapK .u64 n1 = n1) : @SX.den (valS n0 n1) (vx 0) = .I n0 ∧ @SX.den (valS n0 n1) (vx 1) = .I n1 := ⟨congrArg D.I h0, congrArg D.I h1⟩

theorem mem_app {α : Type} {P : α → α → Prop} {a b : List (α × α)} (ha : ∀ l r, (l, r) ∈ a → P l r) (hb : ∀ l r, (l, r) ∈ b → P l r) : ∀ l r, (l, r) ∈ a ++ b → P l r := by
  intro l r h
  rcases List.mem_append.1 h with h | h
  · exact ha l r h
  · exact hb l r h

theorem zeroX_ok {n1 : Int} (h1 : (vx 1).den = .I n1) (hn : 0 ≤ n1) (b : Bool) (hb : b = decide (n1 = 0)) : ∀ l r, (l, r) ∈ zeroX b → l.den = r.den := by
  intro l r h
  have hle : decide (n1 ≤ 0) = decide (n1 = 0) := by rw [decide_eq_decide]; omega
  simp only [zeroX, List.mem_cons, Prod.mk.injEq, List.not_mem_nil, or_false] at h
  rcases h with ⟨rfl, rfl⟩ | ⟨rfl, rfl⟩ | ⟨rfl, rfl⟩
  · simp only [SX.den, h1, opD, intOp, D.int, intBeq_eq, hb]; rfl
  · simp only [SX.den, h1, opD, intOp, D.int, intLe_eq, hb, hle]
  · simp only [SX.den, h1, opD, intOp, D.int, intLe_eq, hb, hle]

theorem isZero_ok {n1 : Int} (h1 : (vx 1).den = .I n1) (b : Bool) (hb : b = decide (n1 = 0)) : ∀ l r, (l, r) ∈ isZero b → l.den = r.den := by
  intro l r h
  simp only [isZero, List.mem_cons, Prod.mk.injEq, List.not_mem_nil, or_false] at h
  obtain ⟨rfl, rfl⟩ := h
  simp only [SX.den, h1, opD, intOp, D.int, intBeq_eq, hb]; rfl

theorem minus1_ok {n1 : Int} (h1 : (vx 1).den = .I n1) (hr : wrapK .u64 n1 = n1) (hz : n1 ≠ 0) (b : Bool) (hb : b = decide (wrapK .i64 n1 = -1)) : ∀ l r, (l, r) ∈ minus1 b → l.den = r.den := by
  intro l r h
  have hnz : wrapK .i64 n1 ≠ 0 := by
    rw [wrapK_eq] at hr ⊢
    simp [IntKind.wrap, IntKind.bits, IntKind.signed] at hr ⊢
    split <;> omega
  simp only [minus1, List.mem_cons, Prod.mk.injEq, List.not_mem_nil, or_false] at h
  rcases h with ⟨rfl, rfl⟩ | ⟨rfl, rfl⟩
  · simp only [sx, SX.den, h1, opD, intOp, D.int, intBeq_eq, hb]; rfl
  · simp only [sx, SX.den, h1, opD, intOp, D.int, intBeq_eq]; congr 1; simpa using hnz

/-- By -1. -/
theorem neg_ok {n1 : Int} (h1 : (vx 1).den = .I n1) (hm : wrapK .i64 n1 = -1) : ∀ l r, (l, r) ∈ [(quoS, negS)] → l.den = r.den := by
  intro l r h
  simp only [List.mem_cons, Prod.mk.injEq, List.not_mem_nil, or_false] at h
  obtain ⟨rfl, rfl⟩ := h
  have hz : intBeq (-1) 0 = false := rfl
  simp only [quoS, negS, sx, SX.den, h1, opD, intOp, D.int, hm, hz]
  congr 3
  simp [Int.tdiv_neg]

/-- A term of a number, by its form. -/
def isNum : SX → Bool
  | .num _ => true
  | .var _ _ => true
  | .conv _ _ => true
  | .cpl _ _ => true
  | .bin op _ _ _ => match op with | .add | .sub | .mul | .and | .or | .xor | .andNot | .shl | .shr | .quo | .rem => true | _ => false
  | _ => false

theorem den_is (e : SX) (h : isNum e = true) : ∃ n, e.den = .I n := by
  cases e <;> simp only [isNum] at h <;> first | (cases h; done) | skip
  case num n => exact ⟨_, rfl⟩
  case var k i => exact ⟨_, rfl⟩
  case conv k a => exact ⟨_, rfl⟩
  case cpl k a => exact ⟨_, rfl⟩
  case bin op k a b =>
    simp only [SX.den]
    generalize a.den.int = x
    generalize b.den.int = y
    cases op <;> simp only at h <;> first | (cases h; done) | skip
    case shl => cases y <;> exact ⟨_, rfl⟩
    case shr => cases y <;> exact ⟨_, rfl⟩
    case quo => simp only [opD, intOp]; cases intBeq y 0 <;> exact ⟨_, rfl⟩
    case rem => simp only [opD, intOp]; cases intBeq y 0 <;> exact ⟨_, rfl⟩
    all_goals exact ⟨_, rfl⟩

theorem shr13_ok : ∀ l r, (l, r) ∈ [plus0 (sumA 13)] → l.den = r.den := by
  intro l r hm
  simp only [plus0, List.mem_cons, Prod.mk.injEq, List.not_mem_nil, or_false] at hm
  obtain ⟨rfl, rfl⟩ := hm
  obtain ⟨X, hX, hx⟩ := vx_nat 0
  obtain ⟨Y, hY, hy⟩ := vx_nat 1
  have e : Y &&& 63 = Y % 64 := Nat.and_two_pow_sub_one_eq_mod Y 6
  have ha := and_nat (k := .u64) (A := Y) (B := 63) (.inl ⟨rfl, hY⟩) (.inl ⟨rfl, by decide⟩) (.inl ⟨rfl, by rw [e]; omega⟩)
  rw [e, show ((63 : Nat) : Int) = 63 from rfl] at ha
  have hs := shr_nat (k := .u64) (A := X) (n := Y % 64) (by omega) (.inl rfl)
  have hlt : X / 2 ^ (Y % 64) < 2 ^ 64 := Nat.lt_of_le_of_lt (Nat.div_le_self _ _) hX
  have hd : (sumA 13).den = .I ((X / 2 ^ (Y % 64) : Nat) : Int) := by
    simp only [sumA, by64, SX.den, hx, hy, D.int]
    rw [ha]; exact hs
  simp only [SX.den, hd, D.int, opD, intOp, Int.add_zero]
  rw [wrapU_nat hlt]
end Go.Bx
