/- The two functions as a table of calls; the law over it. -/
import Derived.Test.YtmiebhjpdmokoaaGreatDoorLayW
import Derived.Test.YtmiebhjpdmokoaaGreatDoorBx29
set_option linter.all false
namespace Go.Bx.Lay
open Go Go.Bx Go.RowKit

/-- The list of an argument, as a term. -/
def listOf (h : Hp) : V → Option SX
  | .nils => some (.txt [])
  | .xarg b n sz =>
    match n, h.t.get b with
    | .num 0, _ => some (.txt [])
    | n, some (.buf _ .i64 (.lvar .i64 0) m 1) => match SX.beq n vn, SX.beq m vn, Nat.beq sz 1 with | true, true, true => some (.lvar .i64 0) | _, _, _ => none
    | _, _ => none
  | .osl b n sz =>
    match h.t.get b with
    | some (.buf _ .i64 (.lvar .i64 0) m 1) => match SX.beq n vn, SX.beq m vn, Nat.beq sz 1 with | true, true, true => some (.lvar .i64 0) | _, _, _ => none
    | _ => none
  | _ => none
def layV (c l : SX) : V := .agg [.sym (.i .i64) c, .sym .s (.cat (.ofk .u8 (.ap 9 l)) vt)]
def memId (f : FuncId) : List FuncId → Bool
  | [] => false
  | g :: l => match Nat.beq f g with | true => true | false => memId f l
/-- The two functions, as their contract tells. -/
def layOrc (fs : List FuncId) : CallF := fun f args h =>
  match memId f fs, args with
  | true, [c, x, .sym .s t] =>
    match xI64 c, listOf h x, SX.beq t vt with
    | some c, some l, true => some (layV c l, h)
    | _, _, _ => none
  | _, _ => none

theorem memId_ok : ∀ {f : FuncId} {l : List FuncId}, memId f l = true → f ∈ l
  | f, [], h => by cases h
  | f, g :: l, h => by
    simp only [memId] at h
    split at h
    · rename_i hb; rw [Nat.eq_of_beq_eq_true hb]; simp
    · exact List.mem_cons_of_mem _ (memId_ok h)

/-- The law's valuation. -/
abbrev rhoK (ns T : List Int) (c : Int) : Valn where
  int := fun _ => 0
  bool := fun _ => false
  list := fun _ => ns
  fn := fun f d => if f = 9 then .L (by4 d.list) else if f = 6 then .L T else .I c

theorem wrap_twice (k : IntKind) (l : List Int) : (l.map (wrapK k)).map (wrapK k) = l.map (wrapK k) := by
  rw [List.map_map]
  refine List.map_congr_left fun n _ => ?_
  cases k <;> simp only [Function.comp, wrapK_is, IntKind.wrap, IntKind.bits, IntKind.signed] <;> simp <;> (try (split <;> (try split) <;> omega)) <;> omega

/-- A value is a list of these numbers in memory. -/
def Lies (w : World) (v : Value) (ns : List Int) : Prop :=
  (∃ q cap, v = .slice q 0 cap ∧ ns = []) ∨ ∃ blk base cap C e F, v = .slice (some ⟨blk, base, none⟩) ns.length cap ∧ w.heap[blk]? = some (.cells C e F) ∧ base + ns.length ≤ C.size ∧ ∀ (j : Nat) (x : Int), ns[j]? = some x → C[base + j]? = some (.int .i64 x)
def Contract (P : Program) (f : FuncId) : Prop :=
  ∀ (ns Tl : List Int) (cm : Int), ns.map (wrapK .i64) = ns → Tl.map (wrapK .u8) = Tl → ns.length ≤ 10000000 → Tl.length ≤ 10000000 → ∀ (w : World) (v : Value), Lies w v ns →
    Calls P f #[.int .i64 cm, v, .string ⟨⟨asBytes Tl⟩⟩] w fun e w' => e = .returned (.agg #[.int .i64 cm, .string ⟨⟨asBytes (by4 ns ++ Tl)⟩⟩]) ∧ Below w.heap.size w w'

theorem layOrc_ok {P : Program} {G : Nat} {fs : List FuncId} (hent : ∀ f ∈ fs, Enters P f) (hcon : ∀ f ∈ fs, Contract P f) (ns T : List Int) (c : Int) (h1 : ns.length ≤ 10000000) (h2 : T.length ≤ 10000000) : @CallOk (rhoK ns T c) P G (layOrc fs) := by
  letI : Valn := rhoK ns T c
  intro f args h v h' he
  unfold layOrc at he
  split at he
  case h_2 => cases he
  rename_i cv x t hm
  split at he
  case h_2 => cases he
  rename_i ce le hc hx ht
  cases he
  have hf := memId_ok hm
  have ht := SX.beq_eq _ _ ht
  subst ht
  refine ⟨hent f hf, fun w0 B σ w args' hH hr => ?_⟩
  simp only [VRels] at hr
  obtain ⟨v1, l1, e1, r1, v2, l2, rfl, r2, v3, l3, rfl, r3, rfl⟩ := hr
  have e2 := xI64_ok hc r1
  simp only [VRel, tv] at r3
  subst e2; subst r3
  have ha : args' = #[.int .i64 ce.den.int, v2, .string ⟨⟨asBytes vt.den.list⟩⟩] := by apply Array.ext'; simpa using e1
  subst ha
  have hvn : vn.den.int = Int.ofNat ns.length := by
    show (((ns.map (wrapK .i64)).length : Nat) : Int) = _
    rw [List.length_map]; rfl
  have hcase : le.den.list.map (wrapK .i64) = le.den.list ∧ le.den.list.length ≤ 10000000 ∧ Lies w v2 le.den.list := by
    have row : ∀ (b : Nat) (own : Bool), h.t.get b = some (.buf own .i64 (.lvar .i64 0) vn 1) → (∃ L, vn.den.int = Int.ofNat L ∧ ((∃ p cap, v2 = .slice p 0 cap ∧ L = 0) ∨ ∃ r cap, σ b = some r ∧ v2 = .slice (some ⟨r.block, r.base, none⟩) L cap ∧ r.base + L * 1 ≤ r.size)) →
        (SX.lvar .i64 0).den.list.map (wrapK .i64) = (SX.lvar .i64 0).den.list ∧ (SX.lvar .i64 0).den.list.length ≤ 10000000 ∧ Lies w v2 (SX.lvar .i64 0).den.list := by
      rintro b own hg ⟨L, hL, hv⟩
      have hll : (SX.lvar .i64 0).den.list = ns.map (wrapK .i64) := rfl
      rw [hvn] at hL
      have hL := Int.ofNat.inj hL
      rw [hll]
      refine ⟨wrap_twice _ _, by simpa using h1, ?_⟩
      rcases hv with ⟨p, cap, rfl, rfl⟩ | ⟨r, cap, hr, rfl, hsz⟩
      · exact .inl ⟨p, cap, rfl, by rw [List.length_eq_zero_iff.1 hL]; rfl⟩
      · obtain ⟨_, C, e', F, N, q1, q2, q3, q4, q5, q6, q7⟩ := hH.rel b _ hg rfl r hr
        have hNL : N = L := by rw [hvn] at q4; have := Int.ofNat.inj q4; omega
        subst hNL
        have hl : (ns.map (wrapK .i64)).length = N := by rw [List.length_map]; exact hL
        exact .inr ⟨r.block, r.base, cap, C, e', F, by rw [hl], q1, by omega, fun j x hj => q7 j x hj⟩
    unfold listOf at hx
    split at hx
    · cases hx
      simp only [VRel] at r2
      exact ⟨rfl, Nat.zero_le _, .inl ⟨none, 0, r2, rfl⟩⟩
    · rename_i b n sz
      split at hx
      · cases hx
        simp only [VRel] at r2
        obtain ⟨L, hL, r2⟩ := r2
        have h0 : L = 0 := (Int.ofNat.inj (show Int.ofNat 0 = Int.ofNat L from hL)).symm
        subst h0
        rcases r2 with ⟨p, cap, rfl, _⟩ | ⟨r, cap, _, rfl, _⟩
        · exact ⟨rfl, Nat.zero_le _, .inl ⟨p, cap, rfl, rfl⟩⟩
        · exact ⟨rfl, Nat.zero_le _, .inl ⟨_, cap, rfl, rfl⟩⟩
      · rename_i own m hg
        split at hx
        · rename_i q1 q2 q3
          cases hx
          have q1 := SX.beq_eq _ _ q1
          have q2 := SX.beq_eq _ _ q2
          have q3 := Nat.eq_of_beq_eq_true q3
          subst q1; subst q2; subst q3
          simp only [VRel] at r2
          exact row b _ hg r2
        · cases hx
      · cases hx
    · rename_i b n sz
      split at hx
      · rename_i own m hg
        split at hx
        · rename_i q1 q2 q3
          cases hx
          have q1 := SX.beq_eq _ _ q1
          have q2 := SX.beq_eq _ _ q2
          have q3 := Nat.eq_of_beq_eq_true q3
          subst q1; subst q2; subst q3
          exact row b _ hg (rowV_ok (x := .osl b vn 1) rfl r2)
        · cases hx
      · cases hx
    · cases hx
  obtain ⟨c1, c2, c3⟩ := hcase
  have hTT : vt.den.list = T.map (wrapK .u8) := rfl
  refine (hcon f hf le.den.list vt.den.list ce.den.int c1 (by rw [hTT]; exact wrap_twice _ _) c2 (by rw [hTT]; simpa using h2) w v2 c3).mono ?_
  rintro e w' ⟨rfl, hb⟩
  refine ⟨_, σ, rfl, Sub.le_refl _, hH.later hb, ?_⟩
  simp only [layV, VRel, VRels, tv]
  refine ⟨_, rfl, _, _, rfl, rfl, _, _, rfl, ?_, rfl⟩
  show Value.string ⟨⟨asBytes (by4 le.den.list ++ vt.den.list)⟩⟩ = Value.string ⟨⟨asBytes ((by4 le.den.list).map (wrapK .u8) ++ vt.den.list)⟩⟩
  rw [by4_wrap]

/-- Facts of the law: a list of one or more. -/
def factsK : List (SX × SX) := [(lt (.num 0) vn, T true), (le vn big, T true)]
theorem facts_K (ns T' : List Int) (c : Int) (h0 : ns ≠ []) (h1 : ns.length ≤ 10000000) : @AllDen (rhoK ns T' c) factsK := by
  have hvn : @SX.den (rhoK ns T' c) vn = .I ns.length := by
    show D.I (((ns.map (wrapK .i64)).length : Nat) : Int) = _
    rw [List.length_map]
  have hp : 0 < ns.length := List.length_pos_iff.2 h0
  exact ⟨lssDen (x := 0) rfl hvn (by rw [decide_eq_true_eq]; omega), leqDen hvn (y := 1000000000) rfl (by rw [decide_eq_true_eq]; omega), trivial⟩
def argsK (g : Nat) : List V := [.sym (.i .i64) vc, .xarg g vn 1, .sym .s vt]
def argsZ (g : Nat) : List V := [.sym (.i .i64) vc, .xarg g (.num 0) 1, .sym .s vt]

theorem law_calls {P : Program} (hmix : P.follows .mixedOrders = true) (hprog : progOk (Env.of P) P.funcs.toList = true) (hE : ∀ ρ : Valn, @EnvOk ρ P (Env.of P)) (hG : (Env.of P).G ≤ 1000000) {fs : List FuncId} (hent : ∀ f ∈ fs, Enters P f) (hcon : ∀ f ∈ fs, Contract P f)
    {orc : CallF} (ho : ∀ ρ : Valn, @CallOk ρ P (Env.of P).G orc) {cf d : Nat} {f : FuncId} (hk : saysTrue (evFn ((Env.of P).with factsK) (orElse (layOrc fs) orc) noDorc cf d f (argsK (Env.of P).G) ⟨T.set 40 .nil (Env.of P).G (arg0 (Env.of P).G), (Env.of P).G + 1⟩) = true)
    (hz : saysTrue (evFn ((Env.of P).with []) (orElse (layOrc fs) orc) noDorc cf d f (argsZ (Env.of P).G) ⟨.nil, (Env.of P).G⟩) = true)
    (ns Tl : List Int) (cm : Int) (hw : ns.map (wrapK .i64) = ns) (hT : Tl.map (wrapK .u8) = Tl) (h1 : ns.length ≤ 10000000) (h2 : Tl.length ≤ 10000000) {w : World} {v : Value} (hv : Lies w v ns) :
    Calls P f #[.int .i64 cm, v, .string ⟨⟨asBytes Tl⟩⟩] w fun e w' => e = .returned (.bool true) ∧ Below w.heap.size w w' := by
  letI VV : Valn := rhoK ns Tl cm
  have hoc : CallOk P (Env.of P).G (orElse (layOrc fs) orc) := orElse_ok (layOrc_ok hent hcon ns Tl cm h1 h2) (ho VV)
  have hpg : ∀ facts, ∀ (f : FuncId) (fn : Func) (c : Code), P.funcs[f]? = some fn → fn.body = some c → codeOk ((Env.of P).with facts) c = true ∧ fn.name ≠ "runtime.NumGoroutine" := by
    intro facts f fn c hf hb
    rw [codeOk_with]
    exact hprog_of hprog f fn c hf hb
  have fin : ∀ (facts : List (SX × SX)) (al : List V) (h : Hp) (σ : Sub), AllDen facts → saysTrue (evFn ((Env.of P).with facts) (orElse (layOrc fs) orc) noDorc cf d f al h) = true → HRel (Env.of P).G ⟨w, fun _ => false⟩ w.heap.size σ h w → VRels σ al #[.int .i64 cm, v, .string ⟨⟨asBytes Tl⟩⟩].toList →
      Calls P f #[.int .i64 cm, v, .string ⟨⟨asBytes Tl⟩⟩] w fun e w' => e = .returned (.bool true) ∧ Below w.heap.size w w' := by
    intro facts al h σ hf he hH hr
    obtain ⟨h', he⟩ := saysTrue_ok he
    obtain ⟨_, hc⟩ := evFn_ok (E := (Env.of P).with facts) ((hE VV).with' hf.mem) hmix (hpg facts) hoc noDorc_ok cf d f al h _ h' he
    refine (hc ⟨w, fun _ => false⟩ w.heap.size σ w _ hH hr).mono ?_
    rintro e w' ⟨v', τ, rfl, _, hH', hv'⟩
    simp only [VRel] at hv'
    subst hv'
    exact ⟨rfl, hH'.below⟩
  have hs : VRel (σ := fun _ => none) (.sym .s vt) (.string ⟨⟨asBytes Tl⟩⟩) := by
    simp only [VRel, tv]
    show _ = Value.string ⟨⟨asBytes (Tl.map (wrapK .u8))⟩⟩
    rw [hT]
  by_cases h0 : ns = []
  · subst h0
    refine fin [] _ _ _ trivial hz (empty_rel hG w) ?_
    simp only [argsZ, VRels]
    refine ⟨_, _, rfl, by simp only [VRel, tv]; rfl, _, _, rfl, ?_, _, _, rfl, VRel.mono (fun _ _ h => by cases h) _ _ hs, rfl⟩
    simp only [VRel]
    rcases hv with ⟨q, cap, rfl, _⟩ | ⟨blk, base, cap, C, e, F, rfl, _⟩
    · exact ⟨0, rfl, .inl ⟨q, cap, rfl, rfl⟩⟩
    · exact ⟨0, rfl, .inl ⟨_, cap, rfl, rfl⟩⟩
  · have hvn : vn.den.int = Int.ofNat ns.length := by
      show (((ns.map (wrapK .i64)).length : Nat) : Int) = _
      rw [List.length_map]; rfl
    obtain ⟨σ, hH, hx⟩ := arg_buf (G := (Env.of P).G) hG (w := w) (k := .i64) (c := .lvar .i64 0) (n := vn) (sz := 1) (N := ns.length) (ns := ns) hvn hw (by omega) (v := v) (hv.imp (fun ⟨q, cap, h, h0⟩ => ⟨q, cap, h, by rw [h0]; rfl⟩) (fun h => h))
    refine fin factsK _ _ σ (facts_K ns Tl cm h0 h1) hk hH ?_
    simp only [argsK, VRels]
    exact ⟨_, _, rfl, by simp only [VRel, tv]; rfl, _, _, rfl, hx, _, _, rfl, VRel.mono (fun _ _ h => by cases h) _ _ hs, rfl⟩
end Go.Bx.Lay
