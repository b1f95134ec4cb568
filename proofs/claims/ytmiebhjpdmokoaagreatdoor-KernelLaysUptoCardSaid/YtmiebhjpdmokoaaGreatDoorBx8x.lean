/- Quiet operations on what is of a length that is not known. -/
import Derived.Test.YtmiebhjpdmokoaaGreatDoorBx8
set_option linter.all false
namespace Go.Bx
open Go.RowKit
variable [Valn]

theorem xTxt_ok {σ : Sub} {x : V} {a : SX} (h : xTxt x = some a) {x' : Value} (hx : VRel σ x x') : x' = .string ⟨⟨asBytes a.den.list⟩⟩ := by
  unfold xTxt at h
  split at h
  · rename_i s
    cases h
    simp only [VRel] at hx
    rw [hx]
    simp [SX.den, D.list, asBytes_nat]
  · cases h
    simpa [VRel, tv] using hx
  · cases h

theorem xI64_ok {σ : Sub} {x : V} {a : SX} (h : xI64 x = some a) {x' : Value} (hx : VRel σ x x') : x' = .int .i64 a.den.int := by
  unfold xI64 at h
  split at h
  · cases h; simpa [VRel, SX.den, D.int] using hx
  · cases h; simpa [VRel, tv] using hx
  · cases h

theorem isI_ok : ∀ {e : SX}, isI e = true → e.den = .I e.den.int := by
  intro e h
  cases e <;> simp only [isI] at h <;> first | (cases h; done) | (simp [SX.den, D.int]; done) | skip
  case bin op k a b =>
    cases op <;> simp at h <;> simp [SX.den, opD, intOp, D.int]

section
variable {P : Program} {E : Env} (hE : EnvOk P E) {σ : Sub}
 include hE

theorem leT_ok {a b : SX} (h : leT E a b = true) : a.den.int ≤ b.den.int := by
  unfold leT at h
  split at h
  · rename_i hb; rw [SX.beq_eq _ _ hb]; exact Int.le_refl _
  · split at h
    · rw [intLe_eq] at h; simpa [SX.den, D.int] using h
    · split at h
      · rename_i hl
        have := look_ok hE (.bin .leq .i64 a b)
        rw [hl] at this
        simp only [SX.den, opD, intOp, D.B.injEq] at this
        have h2 := this.symm
        rw [intLe_eq] at h2
        simpa using h2
      · cases h

theorem ltT_ok {a b : SX} (h : ltT E a b = true) : a.den.int < b.den.int := by
  unfold ltT at h
  split at h
  · rw [intLt_eq] at h; simpa [SX.den, D.int] using h
  · split at h
    · rename_i hl
      have := look_ok hE (.bin .lss .i64 a b)
      rw [hl] at this
      simp only [SX.den, opD, intOp, D.B.injEq] at this
      have h2 := this.symm
      rw [intLt_eq] at h2
      simpa using h2
    · cases h

 omit hE in
theorem eqX_ok {x y : V} {e : SX} {r : Bool} (h : eqX E x y = some (e, r)) {x' y' : Value} (hx : VRel σ x x') (hy : VRel σ y y') :
    ∃ a b : ByteArray, x' = .string a ∧ y' = .string b ∧ e.den = .B (a.data.toList == b.data.toList) ∧ (r = true → a.data.toList = b.data.toList) := by
  unfold eqX at h
  split at h
  · cases h
  · split at h
    · rename_i a b h1 h2
      cases h
      refine ⟨_, _, xTxt_ok h1 hx, xTxt_ok h2 hy, rfl, fun hb => ?_⟩
      rw [SX.beq_eq _ _ hb]
    · cases h

theorem maxS_ok {x y v : V} {x' y' : Value} (hq : maxS E true x y = some v) (hx : VRel σ x x') (hy : VRel σ y y') (w : World) : ∃ v', (Builtin.max2 x' y').run P w = .ok v' w ∧ VRel σ v v' := by
  unfold maxS at hq
  split at hq
  · rename_i k a k' b h1 h2
    have e1 := xInt_ok h1 hx; have e2 := xInt_ok h2 hy
    subst e1; subst e2
    split at hq
    · cases hq
      refine ⟨_, by simp only [Builtin.max2]; rfl, ?_⟩
      have := mk_ok (σ := σ) hE (.i k) (.mx true a b)
      have key : (SX.mx true a b).den.int = if a.den.int < b.den.int then b.den.int else a.den.int := by
        show max a.den.int b.den.int = _
        rw [Int.max_def]; split <;> split <;> omega
      simp only [tv, key] at this
      by_cases hab : a.den.int < b.den.int
      · simpa only [hab, if_true, decide_true] using this
      · simpa only [hab, if_false, decide_false] using this
    · cases hq
  · cases hq

theorem minS_ok {x y v : V} {x' y' : Value} (hq : maxS E false x y = some v) (hx : VRel σ x x') (hy : VRel σ y y') (w : World) : ∃ v', (Builtin.min2 x' y').run P w = .ok v' w ∧ VRel σ v v' := by
  unfold maxS at hq
  split at hq
  · rename_i k a k' b h1 h2
    have e1 := xInt_ok h1 hx; have e2 := xInt_ok h2 hy
    subst e1; subst e2
    split at hq
    · cases hq
      refine ⟨_, by simp only [Builtin.min2]; rfl, ?_⟩
      have := mk_ok (σ := σ) hE (.i k) (.mx false a b)
      have key : (SX.mx false a b).den.int = if b.den.int < a.den.int then b.den.int else a.den.int := by
        show min a.den.int b.den.int = _
        rw [Int.min_def]; split <;> split <;> omega
      simp only [tv, key] at this
      by_cases hab : b.den.int < a.den.int
      · simpa only [hab, if_true, decide_true] using this
      · simpa only [hab, if_false, decide_false] using this
    · cases hq
  · cases hq

theorem maxFoldS_ok (w : World) : ∀ (l : List V) (x v : V) (l' : List Value) (x' : Value), maxFoldS E true x l = some v → VRel σ x x' → VRels σ l l' → ∃ v', (l'.foldlM Builtin.max2 x').run P w = .ok v' w ∧ VRel σ v v'
  | [], x, v, l', x', hq, hx, hl => by
    simp only [maxFoldS, Option.some.injEq] at hq; subst hq
    simp only [VRels] at hl; subst hl
    exact ⟨x', rfl, hx⟩
  | y :: l, x, v, l', x', hq, hx, hl => by
    simp only [VRels] at hl; obtain ⟨y', m, rfl, hy, hm⟩ := hl
    simp only [maxFoldS] at hq
    cases hz : maxS E true x y with
    | none => simp [hz] at hq
    | some z =>
      simp only [hz] at hq
      obtain ⟨z', h1, h2⟩ := maxS_ok (P := P) hE hz hx hy w
      obtain ⟨v', h3, h4⟩ := maxFoldS_ok w l z v m z' hq h2 hm
      exact ⟨v', by simp [List.foldlM_cons, h1, h3], h4⟩

theorem minFoldS_ok (w : World) : ∀ (l : List V) (x v : V) (l' : List Value) (x' : Value), maxFoldS E false x l = some v → VRel σ x x' → VRels σ l l' → ∃ v', (l'.foldlM Builtin.min2 x').run P w = .ok v' w ∧ VRel σ v v'
  | [], x, v, l', x', hq, hx, hl => by
    simp only [maxFoldS, Option.some.injEq] at hq; subst hq
    simp only [VRels] at hl; subst hl
    exact ⟨x', rfl, hx⟩
  | y :: l, x, v, l', x', hq, hx, hl => by
    simp only [VRels] at hl; obtain ⟨y', m, rfl, hy, hm⟩ := hl
    simp only [maxFoldS] at hq
    cases hz : maxS E false x y with
    | none => simp [hz] at hq
    | some z =>
      simp only [hz] at hq
      obtain ⟨z', h1, h2⟩ := minS_ok (P := P) hE hz hx hy w
      obtain ⟨v', h3, h4⟩ := minFoldS_ok w l z v m z' hq h2 hm
      exact ⟨v', by simp [List.foldlM_cons, h1, h3], h4⟩

theorem lenX_ok {t : TypeId} {x : V} {n : SX} {e : TypeId} {x' : Value} (ty : TypeId) (hu : E.und t = some (.slice e)) (hx : VRel σ x x') (h : (∃ b o, x = .xsl b o n) ∨ (∃ b sz, x = .xarg b n sz) ∨ ∃ b sz, x = .osl b n sz) (w : World) :
    ∃ v', (Builtin.len_ #[t] ty #[x']).run P w = .ok v' w ∧ VRel σ (mkS (.i .i64) n) v' := by
  have hm := mkS_ok σ (.i .i64) n
  simp only [tv] at hm
  rcases h with ⟨b, o, rfl⟩ | ⟨b, sz, rfl⟩ | ⟨b, sz, rfl⟩
  · simp only [VRel] at hx
    obtain ⟨r, a, L, h1, h2, h3, rfl, _⟩ := hx
    rw [h2] at hm
    exact ⟨_, by simp [Builtin.len_, run_und hE hu]; rfl, by simpa [goInt] using hm⟩
  · simp only [VRel] at hx
    obtain ⟨L, h1, h2⟩ := hx
    rw [h1] at hm
    rcases h2 with ⟨p, c, rfl, rfl⟩ | ⟨r, c, _, rfl, _⟩
    · exact ⟨_, by simp [Builtin.len_, run_und hE hu]; rfl, by simpa [goInt] using hm⟩
    · exact ⟨_, by simp [Builtin.len_, run_und hE hu]; rfl, by simpa [goInt] using hm⟩
  · simp only [VRel] at hx
    obtain ⟨r, a, L, c, h1, h2, h3, rfl, _⟩ := hx
    rw [h2] at hm
    exact ⟨_, by simp [Builtin.len_, run_und hE hu]; rfl, by simpa [goInt] using hm⟩

def XRel : Option SX → Option Value → Prop
  | none, v => v = none
  | some e, v => v = some (.int .i64 e.den.int)

 omit hE in
theorem optX_ok {ρ : Operand → V} {ρ' : Operand → Value} (hρ : ∀ x, VRel σ (ρ x) (ρ' x)) {x : Option Operand} {n : Option SX} (h : optX ρ x = some n) : XRel n (x.map ρ') := by
  cases x with
  | none => simp only [optX, Option.some.injEq] at h; subst h; simp [XRel]
  | some y =>
    simp only [optX] at h
    split at h
    · rename_i m hm
      cases h
      have := xI64_ok hm (hρ y)
      simp [XRel, this]
    · cases h

theorem sliceX_ok {t : TypeId} {x v : V} {lo hi mx : Option SX} {x' : Value} {lo' hi' mx' : Option Value} (hq : sliceX E t x lo hi mx = some v) (hx : VRel σ x x')
    (h1 : XRel lo lo') (h2 : XRel hi hi') (h3 : XRel mx mx') (w : World) :
    ∃ v', (Instr.sliceAt t x' lo' hi' mx').run P w = .ok v' w ∧ VRel σ v v' := by
  unfold sliceX at hq
  split at hq
  case h_2 => cases hq
  rename_i e b o n hu
  simp only [VRel] at hx
  obtain ⟨r, a, L, hr, hn, hL, rfl, b3, b4, b5⟩ := hx
  split at hq
  case h_2 => cases hq
  rename_i l hs hl
  split at hq
  · cases hq
  rename_i hnot
  split at hq
  case h_2 => cases hq
  rename_i q1 q2 q3
  cases hq
  have q1 := SX.beq_eq _ _ q1
  have q2 : Int.ofNat l ≤ (hi.getD n).den.int := leT_ok hE q2
  have q3 := leT_ok hE q3
  rw [hn] at q3
  obtain ⟨hh, hhe⟩ : ∃ hh : Nat, (hi.getD n).den.int = Int.ofNat hh := ⟨((hi.getD n).den.int).toNat, by simp only [Int.ofNat_eq_natCast] at *; omega⟩
  rw [hhe] at q2 q3
  have q2' : l ≤ hh := by simp only [Int.ofNat_eq_natCast] at q2; omega
  have q3' : hh ≤ L := by simp only [Int.ofNat_eq_natCast] at q3; omega
  -- the bounds as numbers
  have n1 : NRel (lo.map fun _ => l) lo' := by
    cases lo with
    | none => simpa [XRel, NRel] using h1
    | some e0 =>
      simp only [XRel] at h1
      have : e0 = .num (.ofNat l) := by
        split at hl
        · rename_i hh0; cases hh0
        · rename_i m hh0; cases hh0; cases hl; rfl
        · cases hl
      subst this
      exact ⟨.i64, by simpa [SX.den, D.int] using h1⟩
  have n0 : lo = none → l = 0 := by
    intro h0; subst h0; simpa using hl.symm
  have n2 : NRel (hi.map fun _ => hh) hi' := by
    cases hi with
    | none => simpa [XRel, NRel] using h2
    | some e0 =>
      simp only [XRel] at h2
      simp only [Option.getD_some] at hhe
      exact ⟨.i64, by rw [h2, hhe]; rfl⟩
  have n3 : NRel (mx.map fun _ => hh) mx' := by
    cases mx with
    | none => simpa [XRel, NRel] using h3
    | some e0 =>
      simp only [XRel] at h3
      simp only [Option.getD_some] at q1
      exact ⟨.i64, by rw [h3, q1, hhe]; rfl⟩
  have hmn : mx = none → hh = L := by
    intro h0; subst h0
    simp only [Option.getD_none] at q1
    rw [← q1, hn] at hhe
    exact (Int.ofNat.inj hhe).symm
  have hin : hi = none → hh = L := by
    intro h0; subst h0
    simp only [Option.getD_none] at hhe
    rw [hn] at hhe
    exact (Int.ofNat.inj hhe).symm
  have hb : bounds3 L L (lo.map fun _ => l) (hi.map fun _ => hh) (mx.map fun _ => hh) = some (l, hh, hh) := by
    unfold bounds3
    have c1 : Nat.ble hh L = true := Nat.ble_eq_true_of_le q3'
    have c2 : Nat.ble hh hh = true := Nat.ble_eq_true_of_le (Nat.le_refl _)
    have c3 : Nat.ble l hh = true := Nat.ble_eq_true_of_le q2'
    cases mx with
    | none =>
      have e := hmn rfl; subst e
      cases lo with
      | none => have e := n0 rfl; subst e; cases hi <;> simp only [Option.map_none, Option.map_some, c1, c3]
      | some _ => cases hi <;> simp only [Option.map_none, Option.map_some, c1, c3]
    | some m0 =>
      cases hi with
      | none => exact (hnot m0 rfl rfl).elim
      | some _ =>
        cases lo with
        | none => have e := n0 rfl; subst e; simp only [Option.map_none, Option.map_some, c1, c2, c3]
        | some _ => simp only [Option.map_some, c1, c2, c3]
  obtain ⟨hrun, a1, a2, a3, a4⟩ := sliceBounds_ok (P := P) (isSlice := true) hb (Nat.le_refl _) n1 n2 n3 w
  have hm : (if (mx.map fun _ => hh) = none then L else hh) = hh := by
    split
    · rename_i h0; exact (hmn (by simpa using h0)).symm
    · rfl
  rw [hm] at hrun
  refine ⟨_, by simp [Instr.sliceAt, Instr.slice, run_und hE hu, hrun, run_size hE hs]; rfl, ?_⟩
  simp only [VRel]
  refine ⟨r, (if hh = l then a else a + l), hh - l, hr, ?_, by omega, ?_, ?_, ?_, ?_⟩
  · cases l with
    | zero => simpa using hhe
    | succ l =>
      simp only
      rw [look_ok hE]
      show wrapK .i64 ((hi.getD n).den.int - Int.ofNat (l + 1)) = _
      rw [hhe, wrapK_eq]
      simp only [IntKind.wrap, IntKind.bits, IntKind.signed, Int.ofNat_eq_natCast]
      have h64 : (2 : Int) ^ 64 = 18446744073709551616 := by decide
      have h63 : (2 : Int) ^ 63 = 9223372036854775808 := by decide
      simp
      omega
  · by_cases hml : hh = l
    · simp [hml]
    · simp [hml, Addr.add_lit]
  · by_cases hml : hh = l
    · left; omega
    · right
      rw [if_neg hml]
      rcases b3 with b3 | b3
      · omega
      · omega
  · split <;> omega
  · split <;> omega

 omit hE in
theorem rowV_ok {x : V} {b : Nat} {n : SX} {sz : Nat} (h : rowV x = some (b, n, sz)) {x' : Value} (hx : VRel σ x x') :
    ∃ L, n.den.int = Int.ofNat L ∧ ((∃ p cap, x' = .slice p 0 cap ∧ L = 0) ∨ ∃ r cap, σ b = some r ∧ x' = .slice (some ⟨r.block, r.base, none⟩) L cap ∧ r.base + L * sz ≤ r.size) := by
  unfold rowV at h
  split at h
  · cases h; simpa only [VRel] using hx
  · cases h
    simp only [VRel] at hx
    obtain ⟨r, a, L, cap, hr, h1, _, rfl, hl, hb, hz, _⟩ := hx
    refine ⟨L, h1, ?_⟩
    by_cases h0 : L = 0
    · exact .inl ⟨some ⟨r.block, a, none⟩, cap, by rw [h0], h0⟩
    · have ha := hb.resolve_left h0
      subst ha
      have := Nat.mul_le_mul_right sz hl
      exact .inr ⟨r, cap, hr, rfl, by omega⟩
  · cases h

theorem mul_small {j s : Nat} (hj : j ≤ 1000000000) (hs : s ≤ 1000) : wrapK .i64 (Int.ofNat j * Int.ofNat s) = Int.ofNat (j * s) := by
  have h := Nat.mul_le_mul hj hs
  rw [wrapK_eq, show Int.ofNat j * Int.ofNat s = Int.ofNat (j * s) from rfl]
  simp only [IntKind.wrap, IntKind.bits, IntKind.signed, Int.ofNat_eq_natCast]
  simp
  omega

theorem scaleX_ok {n i j : SX} {s a N : Nat} (h : scaleX E n s i = some j) (hi : i.den = .I (Int.ofNat a)) (hn : n.den.int = Int.ofNat N) (ha : a < N) : j.den = .I (Int.ofNat (a * s)) ∧ 0 < s := by
  unfold scaleX at h
  split at h
  · cases h
  · cases h; rw [hi, Nat.mul_one]; exact ⟨rfl, by decide⟩
  · rename_i h0 h1
    split at h
    · rename_i q1 q2
      cases h
      have q1 := leT_ok hE q1
      have q2 := Nat.le_of_ble_eq_true q2
      rw [hn] at q1
      have q1 : Int.ofNat N ≤ 1000000000 := q1
      have q1 : N ≤ 1000000000 := by simp only [Int.ofNat_eq_natCast] at q1; omega
      refine ⟨?_, Nat.pos_of_ne_zero h0⟩
      show D.I (wrapK .i64 (i.den.int * Int.ofNat s)) = _
      rw [hi]
      exact congrArg D.I (mul_small hE (by omega) q2)
    · cases h

theorem indexAddrX_ok {t : TypeId} {x i v : V} {x' i' : Value} (hq : indexAddrX E t x i = some v) (hx : VRel σ x x') (hi : VRel σ i i') (w : World) :
    ∃ v', (Instr.indexAt t x' i').run P w = .ok v' w ∧ VRel σ v v' := by
  unfold indexAddrX at hq
  split at hq
  case h_2 => cases hq
  rename_i e b n sz ii hu hrow hi2
  have e1 := xI64_ok hi2 hi
  subst e1
  split at hq
  case h_2 => cases hq
  rename_i s hs q1 q2 q3
  split at hq
  case h_2 => cases hq
  rename_i jj hb hsc
  cases hq
  have hb := Nat.eq_of_beq_eq_true hb
  subst hb
  have q1 : (0 : Int) ≤ ii.den.int := leT_ok hE q1
  have q2 := ltT_ok hE q2
  have q3 := isI_ok q3
  obtain ⟨L, hL, hx⟩ := rowV_ok hrow hx
  rw [hL] at q2
  obtain ⟨j, hj⟩ : ∃ j : Nat, ii.den.int = Int.ofNat j := ⟨ii.den.int.toNat, by simp only [Int.ofNat_eq_natCast]; omega⟩
  rw [hj] at q2 q3
  have hlt : j < L := by simp only [Int.ofNat_eq_natCast] at q2; omega
  obtain ⟨hjj, hs0⟩ := scaleX_ok hE hsc q3 hL hlt
  rcases hx with ⟨_, _, _, rfl⟩ | ⟨r, cap, hr, rfl, hsz⟩
  · omega
  · rw [hj]
    refine ⟨_, by simp [Instr.indexAt, asIntOf, run_und hE hu, run_size hE hs, hlt]; rfl, ?_⟩
    simp only [VRel]
    have hm : (j + 1) * s ≤ L * s := Nat.mul_le_mul_right s hlt
    rw [Nat.succ_mul] at hm
    exact ⟨r, j * s, hr, hjj, by simp [Addr.add_lit], by omega⟩

variable {G : Nat} {w0 : Base} {B : Nat} {h : Hp} {w : World} (hH : HRel G w0 B σ h w)

theorem rowOk_ok {n i : SX} {sz j m N : Nat} (hq : rowOk E n sz i = some j) (hi : i.den = .I (Int.ofNat m)) (hn : n.den.int = Int.ofNat N) : ∃ q, m = q * sz + j ∧ q < N ∧ j < sz ∧ (sz = 1 ∨ sz ≤ 1000 ∧ m ≤ 1000000001000) := by
  unfold rowOk at hq
  split at hq
  · cases hq
  · split at hq
    · rename_i q1
      cases hq
      have q1 := ltT_ok hE q1
      rw [hi, hn] at q1
      simp only [D.int, Int.ofNat_eq_natCast] at q1
      exact ⟨m, by omega, by omega, by decide, .inl rfl⟩
    · cases hq
  · rename_i h0 h1
    have base : ∀ (a : SX), leT E (.num 0) a = true → ltT E a n = true → leT E n (.num 1000000000) = true → Nat.ble sz 1000 = true → ∃ q, (SX.bin .mul .i64 a (.num (Int.ofNat sz))).den = .I (Int.ofNat (q * sz)) ∧ q < N ∧ q * sz ≤ 1000000000000 := by
      intro a q1 q2 q3 q4
      have q1 : (0 : Int) ≤ a.den.int := leT_ok hE q1
      have q2 := ltT_ok hE q2
      have q3 := leT_ok hE q3
      have q4 := Nat.le_of_ble_eq_true q4
      rw [hn] at q2 q3
      have q3 : Int.ofNat N ≤ 1000000000 := q3
      obtain ⟨q, hq⟩ : ∃ q : Nat, a.den.int = Int.ofNat q := ⟨a.den.int.toNat, by simp only [Int.ofNat_eq_natCast]; omega⟩
      rw [hq] at q2
      simp only [Int.ofNat_eq_natCast] at q2 q3
      refine ⟨q, ?_, by omega, Nat.mul_le_mul (show q ≤ 1000000000 by omega) q4⟩
      show D.I (wrapK .i64 (a.den.int * Int.ofNat sz)) = _
      rw [hq]
      exact congrArg D.I (mul_small hE (by omega) q4)
    split at hq
    · rename_i a s
      split at hq
      · rename_i q0 q1 q2 q3 q4
        cases hq
        rw [intBeq_eq, beq_iff_eq] at q0
        subst q0
        obtain ⟨q, e1, e2, e3⟩ := base a q1 q2 q3 q4
        rw [hi] at e1
        have e1 := Int.ofNat.inj (D.I.inj e1)
        exact ⟨q, by omega, e2, Nat.pos_of_ne_zero h0, .inr ⟨Nat.le_of_ble_eq_true q4, by omega⟩⟩
      · cases hq
    · rename_i a s jj
      split at hq
      · rename_i q0 q1 q2 q3 q4 q5
        cases hq
        rw [intBeq_eq, beq_iff_eq] at q0
        subst q0
        rw [Nat.blt_eq] at q5
        obtain ⟨q, e1, e2, e3⟩ := base a q1 q2 q3 q4
        have hd : (SX.bin .add .i64 (.bin .mul .i64 a (.num (Int.ofNat sz))) (.num (Int.ofNat j))).den = .I (Int.ofNat (q * sz + j)) := by
          show D.I (wrapK .i64 ((SX.bin .mul .i64 a (.num (Int.ofNat sz))).den.int + Int.ofNat j)) = _
          rw [e1, wrapK_eq]
          have q4 := Nat.le_of_ble_eq_true q4
          simp only [D.int, IntKind.wrap, IntKind.bits, IntKind.signed, Int.ofNat_eq_natCast]
          simp
          omega
        have e4 : Int.ofNat m = Int.ofNat (q * sz + j) := by
          have : (D.I (Int.ofNat m)) = .I (Int.ofNat (q * sz + j)) := hi.symm.trans hd
          exact D.I.inj this
        have e5 := Int.ofNat.inj e4
        have q4 := Nat.le_of_ble_eq_true q4
        exact ⟨q, e5, e2, q5, .inr ⟨q4, by omega⟩⟩
      · cases hq
    · cases hq

 include hH

theorem itemsX_ok {k : IntKind} {c i : SX} {m : Nat} (hi : i.den = .I (Int.ofNat m)) (hm : m ≤ 1000000001000) (g : Nat → Value) : ∀ (n j : Nat), j + n ≤ 1000 → (∀ q, q < n → g (j + q) = .int k ((c.den.list[m + (j + q)]?).getD 0)) → VRels σ (itemsX E k c i n j) ((List.range' j n).map g)
  | 0, _, _, _ => by simp [itemsX, VRels]
  | n + 1, j, hj, hg => by
    simp only [itemsX, List.range'_succ, List.map_cons, VRels]
    refine ⟨_, _, rfl, ?_, itemsX_ok hi hm g n (j + 1) (by omega) (fun q hq => by rw [show j + 1 + q = j + (q + 1) by omega]; exact hg (q + 1) (by omega))⟩
    have h0 := hg 0 (by omega)
    rw [Nat.add_zero] at h0
    rw [h0]
    have hd : (offX i j).den.int = Int.ofNat (m + j) := by
      cases j with
      | zero => show i.den.int = _; rw [hi]; rfl
      | succ j =>
        show wrapK .i64 (i.den.int + Int.ofNat (j + 1)) = _
        rw [hi, wrapK_eq]
        simp only [D.int, IntKind.wrap, IntKind.bits, IntKind.signed, Int.ofNat_eq_natCast]
        simp
        omega
    have := mk_ok (σ := σ) hE (.i k) (.item c (offX i j))
    have e : (SX.item c (offX i j)).den = .I ((c.den.list[m + j]?).getD 0) := by
      show D.I ((c.den.list[(offX i j).den.int.toNat]?).getD 0) = _
      rw [hd]; rfl
    simp only [tv, e, D.int] at this
    exact this

theorem loadX_ok {t : TypeId} {x v : V} {x' : Value} (hq : loadX E h t x = some v) (hx : VRel σ x x') :
    ∃ b o v', x' = .pointer (some ⟨b, o, none⟩) ∧ (loadVar t ⟨b, o, none⟩).run P w = .ok v' w ∧ VRel σ v v' := by
  unfold loadX at hq
  split at hq
  case h_2 => cases hq
  rename_i b i
  simp only [VRel] at hx
  obtain ⟨r, n, hr, hi, rfl, hn⟩ := hx
  split at hq
  · rename_i sk f m hg ha hs
    cases hq
    obtain ⟨_, C, e, F, h1, h2, h3⟩ := hH.rel b _ hg rfl r hr
    refine ⟨_, _, tv sk (xe sk f i).den, rfl, ?_, ?_⟩
    · have hc : w.cell? ⟨r.block, r.base + n, none⟩ = some (tv sk (xe sk f i).den) := by
        have : (xe sk f i).den = (xe sk f (.num (Int.ofNat n))).den := by
          cases sk <;> simp only [xe, SX.den, hi]
        rw [this]
        simp only [World.cell?, h1]
        exact h3 n hn
      simp [loadVar, run_isAgg hE ha, hc]
    · exact mk_ok hE sk _
  · rename_i own k c nn sz m hg ha hs
    split at hq
    case h_2 => cases hq
    rename_i j hrow
    cases hq
    obtain ⟨_, C, e, F, N, h1, h2, h3, h4, h5, h6, h7⟩ := hH.rel b _ hg rfl r hr
    obtain ⟨q, e1, e2, e3, _⟩ := rowOk_ok hE hrow hi h4
    have hm : (q + 1) * sz ≤ N * sz := Nat.mul_le_mul_right sz e2
    rw [Nat.succ_mul] at hm
    have hlt : n < c.den.list.length := by omega
    have hd : (SX.item c i).den = .I c.den.list[n] := by
      show D.I ((c.den.list[i.den.int.toNat]?).getD 0) = _
      rw [hi]
      simp [D.int, hlt]
    have hget := h7 n c.den.list[n] (List.getElem?_eq_getElem hlt)
    refine ⟨_, _, .int k c.den.list[n], rfl, ?_, ?_⟩
    · have hc : w.cell? ⟨r.block, r.base + n, none⟩ = some (.int k c.den.list[n]) := by simp only [World.cell?, h1]; exact hget
      simp [loadVar, run_isAgg hE ha, hc]
    · have := mk_ok (σ := σ) hE (.i k) (.item c i)
      simp only [tv, hd, D.int] at this
      exact this
  · rename_i own k c nn sz m hg ha hs
    split at hq
    case h_2 => cases hq
    rename_i hrow hb hb2
    cases hq
    have hb := Nat.eq_of_beq_eq_true hb
    subst hb
    obtain ⟨_, C, e, F, N, h1, h2, h3, h4, h5, h6, h7⟩ := hH.rel b _ hg rfl r hr
    obtain ⟨q, e1, e2, e3, e4⟩ := rowOk_ok hE hrow hi h4
    have hm : (q + 1) * m ≤ N * m := Nat.mul_le_mul_right m e2
    rw [Nat.succ_mul] at hm
    obtain ⟨m1, m2⟩ : m ≤ 1000 ∧ n ≤ 1000000001000 := by
      rcases e4 with e4 | e4
      · rw [e4] at hb2; cases hb2
      · exact e4
    have hl : ∀ q, q < m → C[r.base + n + q]? = some (.int k ((c.den.list[n + q]?).getD 0)) := by
      intro q2 hq2
      have hlt : n + q2 < c.den.list.length := by omega
      rw [Nat.add_assoc, h7 (n + q2) c.den.list[n + q2] (List.getElem?_eq_getElem hlt), List.getElem?_eq_getElem hlt]
      rfl
    have hitems := itemsX_ok (σ := σ) hE hH (c := c) hi m2 (fun q => .int k ((c.den.list[n + q]?).getD 0)) m 0 (by omega) (fun q _ => rfl)
    have hload : (loadCells ⟨r.block, r.base + n, none⟩ m).run P w = .ok ((List.range' 0 m).map (fun q => Value.int k ((c.den.list[n + q]?).getD 0))).toArray w := by
      have := run_loadCells_list (P := P) w ⟨r.block, r.base + n, none⟩ ((List.range' 0 m).map (fun q => Value.int k ((c.den.list[n + q]?).getD 0))) (fun j v hj => ?_)
      · simpa using this
      · rw [Addr.add_lit]
        have hjm : j < m := by have := (List.getElem?_eq_some_iff.1 hj).1; simpa using this
        have hv : v = .int k ((c.den.list[n + j]?).getD 0) := by
          rw [List.getElem?_map, List.getElem?_range' hjm] at hj
          simp at hj; exact hj.symm
        simp only [World.cell?, h1]
        rw [hv]; exact hl j hjm
    refine ⟨_, _, .agg ((List.range' 0 m).map (fun q => Value.int k ((c.den.list[n + q]?).getD 0))).toArray, rfl, ?_, ?_⟩
    · simp [loadVar, run_isAgg hE ha, run_size hE hs, hload]
    · simp only [VRel]; exact ⟨_, rfl, by simpa using hitems⟩
  · cases hq

theorem convO_ok {src dst e : TypeId} {b : Nat} {own : Bool} {n c : SX} {x' : Value} (hs : E.und src = some (.slice e)) (hd : E.und dst = some .string) (he : E.und e = some (.int .u8)) (hg : h.t.get b = some (.buf own .u8 c n 1)) (hx : VRel σ (.osl b n 1) x') :
    ∃ v', (convert src dst x').run P w = .ok v' w ∧ VRel σ (E.mk' .s c) v' := by
  simp only [VRel] at hx
  obtain ⟨r, a, L, cap, hr, hn, hL, rfl, hl, b3, b4, b5⟩ := hx
  obtain ⟨_, C, e', F, N, h1, h2, h3, h4, h5, h6, h7⟩ := hH.rel b _ hg rfl r hr
  have hNL : N = L := by rw [hn] at h4; exact (Int.ofNat.inj h4).symm
  subst hNL
  rw [Nat.mul_one] at h5
  have hload : (loadCells ⟨r.block, a, none⟩ N).run P w = .ok (c.den.list.map (Value.int .u8)).toArray w := by
    have := run_loadCells_list (P := P) w ⟨r.block, a, none⟩ (c.den.list.map (Value.int .u8)) (fun j v hj => ?_)
    · simpa [h5] using this
    · rw [Addr.add_lit]
      simp only [World.cell?, h1]
      have hjl : j < N := by
        have := (List.getElem?_eq_some_iff.1 hj).1
        simpa [h5] using this
      have ha : a = r.base := b3.resolve_left (by omega)
      subst ha
      have hlt : j < c.den.list.length := by omega
      rw [List.getElem?_map, List.getElem?_eq_getElem hlt] at hj
      simp only [Option.map_some, Option.some.injEq] at hj
      subst hj
      exact h7 j _ (List.getElem?_eq_getElem hlt)
  refine ⟨_, by simp only [convert, Sem.run_bind, run_und hE hs, run_und hE hd, run_und hE he, Result.andThen_ok]; exact run_bytesToString w _ N cap c.den.list hload, ?_⟩
  have := mk_ok (σ := σ) hE .s c
  rw [foldl_push]
  simpa [tv, asBytes] using this

theorem convX_ok {src dst e : TypeId} {b o : Nat} {n c : SX} {x' : Value} (hs : E.und src = some (.slice e)) (hd : E.und dst = some .string) (he : E.und e = some (.int .u8)) (hg : h.t.get b = some (.arr c)) (hx : VRel σ (.xsl b o n) x') :
    ∃ v', (convert src dst x').run P w = .ok v' w ∧ VRel σ (E.mk' .s (.win c (.num (Int.ofNat o)) n)) v' := by
  simp only [VRel] at hx
  obtain ⟨r, a, L, hr, hn, hL, rfl, b3, b4, b5⟩ := hx
  obtain ⟨_, hb0, C, e', F, h1, h2, h3, h4⟩ := hH.rel b _ hg rfl r hr
  have hlen : C.size = c.den.list.length := by
    have := congrArg List.length h4; simpa using this
  let ns := (c.den.list.drop o).take L
  have hns : ns.length = L := by
    simp only [ns, List.length_take, List.length_drop]
    rcases b3 with b3 | b3 <;> omega
  have hload : (loadCells ⟨r.block, a, none⟩ L).run P w = .ok (ns.map (Value.int .u8)).toArray w := by
    have := run_loadCells_list (P := P) w ⟨r.block, a, none⟩ (ns.map (Value.int .u8)) (fun j v hj => ?_)
    · simpa [hns] using this
    · rw [Addr.add_lit]
      simp only [World.cell?, h1]
      have hjl : j < L := by
        have := (List.getElem?_eq_some_iff.1 hj).1
        simpa [hns] using this
      have ha : a = o := by rcases b3 with b3 | b3 <;> omega
      subst ha
      have : C[a + j]? = C.toList[a + j]? := by simp
      rw [this, h4]
      simp only [ns, List.getElem?_map, List.getElem?_take, List.getElem?_drop, hjl, if_true] at hj ⊢
      exact hj
  refine ⟨_, by simp only [convert, Sem.run_bind, run_und hE hs, run_und hE hd, run_und hE he, Result.andThen_ok]; exact run_bytesToString w _ L L ns hload, ?_⟩
  have := mk_ok (σ := σ) hE .s (.win c (.num (Int.ofNat o)) n)
  have key : tv .s (SX.win c (.num (Int.ofNat o)) n).den = .string ⟨⟨asBytes ns⟩⟩ := by
    show Value.string ⟨⟨asBytes ((c.den.list.drop (Int.ofNat o).toNat).take n.den.int.toNat)⟩⟩ = _
    rw [hn]; rfl
  rw [key] at this
  rw [foldl_push]
  simpa [asBytes] using this
end
end Go.Bx
