/- The quiet operations on values that are not known. -/
import Derived.Test.YtmiebhjpdmokoaaGreatDoorBx8x
set_option linter.all false
namespace Go.Bx
open Go.RowKit
variable [Valn]

theorem VRels.take {σ : Sub} : ∀ (n : Nat) (l : List V) (l' : List Value), VRels σ l l' → VRels σ (l.take n) (l'.take n)
  | 0, _, _, _ => by simp [VRels]
  | n + 1, [], l', h => by simp only [VRels] at h; subst h; simp [VRels]
  | n + 1, v :: l, l', h => by
    simp only [VRels] at h
    obtain ⟨v', m, rfl, h1, h2⟩ := h
    simp only [List.take_succ_cons, VRels]
    exact ⟨_, _, rfl, h1, VRels.take n l m h2⟩

theorem VRels.drop {σ : Sub} : ∀ (n : Nat) (l : List V) (l' : List Value), VRels σ l l' → VRels σ (l.drop n) (l'.drop n)
  | 0, _, _, h => by simpa using h
  | n + 1, [], l', h => by simp only [VRels] at h; subst h; simp [VRels]
  | n + 1, v :: l, l', h => by
    simp only [VRels] at h
    obtain ⟨v', m, rfl, h1, h2⟩ := h
    simpa using VRels.drop n l m h2

theorem byteCells_ok {σ : Sub} : ∀ (cs : List V) (cs' : List Value), byteCells cs = true → VRels σ cs cs' →
    ∃ ns : List Int, cs' = ns.map (Value.int .u8) ∧ cs' = (ns.map fun n => UInt8.ofNat n.toNat).map fun b => .int .u8 (Int.ofNat b.toNat)
  | [], cs', _, h => by simp only [VRels] at h; subst h; exact ⟨[], rfl, rfl⟩
  | c :: cs, cs', hb, h => by
    simp only [VRels] at h
    obtain ⟨v', m, rfl, h1, h2⟩ := h
    have key : ∀ n : Int, wrapK .u8 n = n → Int.ofNat (UInt8.ofNat n.toNat).toNat = n := by
      intro n hn
      simp only [wrapK] at hn
      have h256 : n.emod 256 = n % 256 := rfl
      rw [h256] at hn
      have : n.toNat % 256 = n.toNat := by omega
      simp [this]; omega
    unfold byteCells at hb
    split at hb
    · rename_i heq; cases heq
    · rename_i n l heq
      cases heq
      split at hb
      · rename_i hw
        rw [intBeq_eq] at hw
        have hw : wrapK .u8 n = n := by simpa using hw
        obtain ⟨ns, e1, e2⟩ := byteCells_ok cs m hb h2
        simp only [VRel] at h1
        refine ⟨n :: ns, by simp [h1, e1], ?_⟩
        rw [h1, e2]
        simp only [List.map_cons, key n hw]
      · cases hb
    · rename_i e l heq
      cases heq
      split at hb
      · rename_i hw
        have hw := inKind_ok hw
        obtain ⟨ns, e1, e2⟩ := byteCells_ok cs m hb h2
        simp only [VRel, tv] at h1
        refine ⟨e.den.int :: ns, by simp [h1, e1], ?_⟩
        rw [h1, e2]
        simp only [List.map_cons, key _ hw]
      · cases hb
    · cases hb

theorem cellsX_ok {σ : Sub} {k : IntKind} : ∀ (l : List V) (c : SX) (L : List Value), cellsX k l = some c → VRels σ l L → L = c.den.list.map (Value.int k)
  | [], c, L, h, hr => by
    simp only [cellsX, Option.some.injEq] at h; subst h
    simp only [VRels] at hr; subst hr; rfl
  | v :: l, c, L, h, hr => by
    simp only [VRels] at hr
    obtain ⟨v', L', rfl, hv, hl⟩ := hr
    have fin : ∀ (e r : SX) (n : Int), wrapK k e.den.int = n → v' = .int k n → cellsX k l = some r → c = (match r with | .txt [] => SX.one k e | r => SX.cat (.one k e) r) → v' :: L' = c.den.list.map (Value.int k) := by
      intro e r n h1 h2 h3 h4
      have ih := cellsX_ok l r L' h3 hl
      have hone : (SX.one k e).den.list = [n] := by show [wrapK k e.den.int] = _; rw [h1]
      subst h4
      split
      · have : L' = [] := by rw [ih]; rfl
        rw [hone, this, h2]; rfl
      · show _ = ((SX.one k e).den.list ++ r.den.list).map (Value.int k)
        rw [hone, List.map_append, ← ih, h2]; rfl
    cases v <;> first | (cases h; done) | skip
    case int k' n =>
      simp only [cellsX] at h
      split at h
      · rename_i r q1 q2 q3
        cases h
        have q1 := kindBeq_eq q1
        subst q1
        rw [intBeq_eq, beq_iff_eq] at q2
        exact fin (.num n) r n q2 (by simpa only [VRel] using hv) q3 rfl
      · cases h
    case sym t e =>
      cases t with
      | b => cases h
      | s => cases h
      | i k' =>
      simp only [cellsX] at h
      split at h
      · rename_i r q1 q2 q3
        cases h
        have q1 := kindBeq_eq q1
        subst q1
        exact fin e r e.den.int (inKind_ok q2) (by simpa only [VRel, tv] using hv) q3 rfl
      · cases h

theorem xTxtB_ok {σ : Sub} {x : V} {a : SX} (h : xTxtB x = some a) {x' : Value} (hx : VRel σ x x') : x' = .string ⟨⟨asBytes a.den.list⟩⟩ := by
  unfold xTxtB at h
  split at h
  · rename_i l
    simp only [VRel] at hx
    obtain ⟨S, rfl, hs⟩ := hx
    have h1 := cellsX_ok l a _ h hs
    have h2 : asBytes a.den.list = S.data.toList := by
      have h3 : S.data.toList.map (fun b => (b.toNat : Int)) = a.den.list := by
        have := congrArg (List.map fun v => match v with | Value.int _ n => n | _ => 0) h1
        simpa [Function.comp_def] using this
      rw [← h3, asBytes_nat]
    rw [h2]
  · exact xTxt_ok h hx

section
variable {P : Program} {E : Env} (hE : EnvOk P E) {σ : Sub} {G : Nat} {w0 : Base} {B : Nat} {h : Hp} {w : World} (hH : HRel G w0 B σ h w)
 include hE

theorem catX_ok (a b : SX) : (catX E a b).den.list = a.den.list ++ b.den.list := by
  unfold catX
  split
  · rfl
  · show _ = _ ++ []; rw [List.append_nil]
  · rw [look_ok hE]; rfl

 omit hE in
theorem onesLen_ok : ∀ {a : SX} {n : Nat}, onesLen a = some n → a.den.list.length = n
  | .one _ _, n, h => by simp only [onesLen, Option.some.injEq] at h; subst h; rfl
  | .txt l, n, h => by simp only [onesLen, Option.some.injEq] at h; subst h; simp [SX.den, D.list]
  | .cat a r, n, h => by
    cases a <;> first | (cases h; done) | skip
    simp only [onesLen] at h
    split at h
    · rename_i k m hm
      cases h
      have := onesLen_ok hm
      show ([_] ++ r.den.list).length = _
      simp [this]
    · cases h
  | .num _, _, h | .bit _, _, h | .var _ _, _, h | .bvar _, _, h | .lvar _ _, _, h | .bin _ _ _ _, _, h | .conv _ _, _, h | .cpl _ _, _, h | .not _, _, h | .ap _ _, _, h | .pr _ _, _, h | .len _, _, h | .win _ _ _, _, h | .over _ _ _, _, h | .rep _, _, h | .item _ _, _, h | .ofk _ _, _, h | .mx _ _ _, _, h | .teq _ _, _, h => by cases h

theorem shortT_ok {a : SX} (h : shortT E a = true) : a.den.list.length ≤ 4611686018427387903 := by
  unfold shortT at h
  split at h
  · rename_i n hn
    have := onesLen_ok hn
    have := Nat.le_of_ble_eq_true h
    omega
  have h1 := leT_ok hE h
  rw [look_ok hE] at h1
  have h2 : (a.den.list.length : Int) ≤ 4611686018427387903 := h1
  omega

theorem binS2_ok {op : BinOp} {t : TypeId} {x y : Operand} {a b v : V} {a' b' : Value} (hq : binS2 E op a b = some v) (ha : VRel σ a a') (hb : VRel σ b b') (w : World) :
    ∃ v', (do eqGuard op t x y a' b'; binOp op t a' b' : Sem Value).run P w = .ok v' w ∧ VRel σ v v' := by
  unfold binS2 at hq
  split at hq
  · rename_i u hu
    cases hq
    obtain ⟨k, m, k', n, rfl, rfl, v', h1, h2⟩ := binS_ok (P := P) (t := t) hE hu ha hb w
    exact ⟨v', by rw [eqGuard_at_int]; simpa using h1, h2⟩
  · split at hq
    · unfold addS at hq
      split at hq
      · rename_i l m h1 h2
        obtain ⟨s, rfl, hs⟩ := xBytes_ok h1 ha
        obtain ⟨r, rfl, hr⟩ := xBytes_ok h2 hb
        split at hq
        · rename_i hle
          cases hq
          have hle := Nat.le_of_ble_eq_true hle
          have l1 := hs.length; have l2 := hr.length
          have hsz : s.size + r.size ≤ 9223372036854775807 := by
            have e1 : s.size = s.data.toList.length := by simp
            have e2 : r.size = r.data.toList.length := by simp
            simp only [List.length_map] at l1 l2
            omega
          refine ⟨_, by rw [eqGuard_add]; simp only [binOp_string_add]; simpa using run_string_add_sum w s r hsz, ?_⟩
          simp only [VRel]
          refine ⟨_, rfl, ?_⟩
          have : (s ++ r).data.toList = s.data.toList ++ r.data.toList := by simp
          rw [this, List.map_append]
          exact hs.append hr
        · cases hq
      · split at hq
        · rename_i p q h1 h2
          obtain rfl := xTxtB_ok h1 ha
          obtain rfl := xTxtB_ok h2 hb
          split at hq
          · rename_i s1 s2
            cases hq
            have s1 := shortT_ok hE s1
            have s2 := shortT_ok hE s2
            have hsz : (⟨⟨asBytes p.den.list⟩⟩ : ByteArray).size + (⟨⟨asBytes q.den.list⟩⟩ : ByteArray).size ≤ 9223372036854775807 := by
              simp only [ByteArray.size, asBytes, List.size_toArray, List.length_map]; omega
            refine ⟨_, by rw [eqGuard_add]; simp only [binOp_string_add]; simpa using run_string_add_sum w _ _ hsz, ?_⟩
            have hm := mkS_ok σ .s (catX E p q)
            have e : tv .s (catX E p q).den = .string ((⟨⟨asBytes p.den.list⟩⟩ : ByteArray) ++ ⟨⟨asBytes q.den.list⟩⟩) := by
              simp only [tv]
              rw [catX_ok hE]
              congr 1
              apply ByteArray.ext
              simp [asBytes]
            rw [e] at hm
            exact hm
          · cases hq
        · cases hq
    · split at hq
      · rename_i r hr
        cases hq
        obtain ⟨s, m, rfl, rfl, rfl⟩ := eqS_ok (P := P) hE hr ha hb
        exact ⟨_, by rw [eqGuard_at_string]; simp only [binOp_string_eql]; rfl, by simp [VRel, ← ByteArray.toList_eq]⟩
      · split at hq
        · rename_i hne
          cases hq
          obtain ⟨k, p, q, rfl, rfl, hpq⟩ := surelyNe_ok hne hb ha
          exact ⟨_, by rw [eqGuard_at_int]; simp only [binOp_eql]; rfl, by simp [VRel]; omega⟩
        · split at hq
          · rename_i e0 hx
            cases hq
            obtain ⟨s, m, rfl, rfl, _, hsm⟩ := eqX_ok hx ha hb
            obtain rfl : s = m := ByteArray.ext (Array.ext' (hsm rfl))
            exact ⟨_, by rw [eqGuard_at_string]; simp only [binOp_string_eql]; rfl, by simp [VRel]⟩
          · rename_i e0 hx
            cases hq
            obtain ⟨s, m, rfl, rfl, hsm, _⟩ := eqX_ok hx ha hb
            refine ⟨_, by rw [eqGuard_at_string]; simp only [binOp_string_eql]; rfl, ?_⟩
            have := mk_ok (σ := σ) hE .b e0
            rw [hsm] at this
            simpa [tv, D.bool, ← ByteArray.toList_eq] using this
          · cases hq
    · split at hq
      · rename_i r hr
        cases hq
        obtain ⟨s, m, rfl, rfl, rfl⟩ := eqS_ok (P := P) hE hr ha hb
        exact ⟨_, by rw [eqGuard_at_string]; simp only [binOp_string_neq]; rfl, by simp [VRel, ← ByteArray.toList_eq]⟩
      · split at hq
        · rename_i hne
          cases hq
          obtain ⟨k, p, q, rfl, rfl, hpq⟩ := surelyNe_ok hne hb ha
          exact ⟨_, by rw [eqGuard_at_int]; simp only [binOp_neq]; rfl, by simp [VRel, bne]; omega⟩
        · split at hq
          · rename_i e0 hx
            cases hq
            obtain ⟨s, m, rfl, rfl, _, hsm⟩ := eqX_ok hx ha hb
            obtain rfl : s = m := ByteArray.ext (Array.ext' (hsm rfl))
            exact ⟨_, by rw [eqGuard_at_string]; simp only [binOp_string_neq]; rfl, by simp [VRel]⟩
          · rename_i e0 hx
            cases hq
            obtain ⟨s, m, rfl, rfl, hsm, _⟩ := eqX_ok hx ha hb
            refine ⟨_, by rw [eqGuard_at_string]; simp only [binOp_string_neq]; rfl, ?_⟩
            have := mk_ok (σ := σ) hE .b (.not e0)
            simp only [SX.den, hsm] at this
            simpa [tv, D.bool, bne, ← ByteArray.toList_eq] using this
          · cases hq
    · cases hq

theorem unS_ok {op : UnOp} {x v : V} {x' : Value} (hq : unS E op x = some v) (hx : VRel σ x x') (w : World) :
    ∃ v', (Op.unary op x').run P w = .ok v' w ∧ VRel σ v v' := by
  unfold unS at hq
  split at hq
  · rename_i k e
    simp only [VRel, tv] at hx; subst hx; cases hq
    obtain ⟨v', h1, h2⟩ := unV_ok (P := P) (σ := σ) (op := .neg) (x := .int k e.den.int) (x' := .int k e.den.int) rfl (by simp [VRel]) w
    refine ⟨v', h1, ?_⟩
    have := mk_ok (σ := σ) hE (.i k) (.bin .sub k (.num 0) e)
    simp only [VRel] at h2
    rw [h2]
    simpa [tv, SX.den, opD, intOp, D.int] using this
  · rename_i k e
    simp only [VRel, tv] at hx; subst hx; cases hq
    obtain ⟨v', h1, h2⟩ := unV_ok (P := P) (σ := σ) (op := .xor) (x := .int k e.den.int) (x' := .int k e.den.int) rfl (by simp [VRel]) w
    refine ⟨v', h1, ?_⟩
    have := mk_ok (σ := σ) hE (.i k) (.cpl k e)
    simp only [VRel] at h2
    rw [h2]
    simpa [tv, SX.den, D.int] using this
  · rename_i e
    simp only [VRel, tv] at hx; subst hx; cases hq
    obtain ⟨v', h1, h2⟩ := unV_ok (P := P) (σ := σ) (op := .not) (x := .bool e.den.bool) (x' := .bool e.den.bool) rfl (by simp [VRel]) w
    refine ⟨v', h1, ?_⟩
    have := mk_ok (σ := σ) hE .b (.not e)
    simp only [VRel] at h2
    rw [h2]
    simpa [tv, SX.den, D.bool] using this
  · cases hq

theorem sliceS_ok {t : TypeId} {x v : V} {lo hi mx : Option Nat} {x' : Value} {lo' hi' mx' : Option Value} (hq : sliceS E t x lo hi mx = some v) (hx : VRel σ x x')
    (h1 : NRel lo lo') (h2 : NRel hi hi') (h3 : NRel mx mx') (w : World) :
    ∃ v', (Instr.sliceAt t x' lo' hi' mx').run P w = .ok v' w ∧ VRel σ v v' := by
  unfold sliceS at hq
  split at hq
  · rename_i s hu
    simp only [VRel] at hx
    obtain ⟨S, rfl, hs⟩ := hx
    split at hq
    · rename_i l hh m hb
      cases hq
      simp only [NRel] at h3; subst h3
      have hl : s.length = S.size := by have := hs.length; simp at this; exact this.symm
      rw [hl] at hb
      obtain ⟨hrun, a1, a2, a3, a4⟩ := sliceBounds_ok (P := P) (isSlice := false) hb (Nat.le_refl _) h1 h2 (mx' := none) (by simp [NRel]) w
      refine ⟨_, by simp [Instr.sliceAt, Instr.slice, run_und hE hu, hrun]; rfl, ?_⟩
      simp only [VRel]
      refine ⟨_, rfl, ?_⟩
      have : (S.extract l hh).data.toList = (S.data.toList.drop l).take (hh - l) := by
        obtain ⟨⟨d⟩⟩ := S
        simp [ByteArray.data_extract]
      rw [this, List.map_take, List.map_drop]
      exact VRels.take _ _ _ (VRels.drop _ _ _ hs)
    · cases hq
  · cases hq

theorem indexS_ok {t : TypeId} {x i v : V} {x' i' : Value} (hq : indexS E t x i = some v) (hx : VRel σ x x') (hi : VRel σ i i') :
    ∃ v', (Instr.index t x' i').run P w = .ok v' w ∧ VRel σ v v' := by
  unfold indexS at hq
  split at hq
  · rename_i j s hu hn
    obtain ⟨k, rfl⟩ := natOf_ok hn hi
    simp only [VRel] at hx
    obtain ⟨S, rfl, hs⟩ := hx
    obtain ⟨h1, h2⟩ := (VRels.iff _ _).1 hs
    obtain ⟨v', h3, h4⟩ := h2 j v hq
    have hl : s.length = S.size := by simp at h1; exact h1.symm
    have hj : j < s.length := (List.getElem?_eq_some_iff.1 hq).1
    have hsz : j < S.size := by omega
    refine ⟨.int .u8 (S[j]'hsz).toNat, by simp [Instr.index, asIntOf, run_und hE hu, hsz], ?_⟩
    have e : v' = .int .u8 (S[j]'hsz).toNat := by
      simp only [List.getElem?_map] at h3
      have : S.data.toList[j]? = some (S[j]'hsz) := by
        rw [List.getElem?_eq_getElem (by simpa using hsz)]
        rfl
      rw [this] at h3
      simpa using h3.symm
    rw [← e]; exact h4
  · cases hq

theorem lenS_ok {t : TypeId} {x v : V} {x' : Value} (ty : TypeId) (hq : lenS E t x = some v) (hx : VRel σ x x') :
    ∃ v', (Builtin.len_ #[t] ty #[x']).run P w = .ok v' w ∧ VRel σ v v' := by
  unfold lenS at hq
  split at hq
  · rename_i s hu
    cases hq
    simp only [VRel] at hx
    obtain ⟨S, rfl, hs⟩ := hx
    have hl := hs.length
    simp at hl
    exact ⟨_, by simp [Builtin.len_, run_und hE hu]; rfl, by simp [VRel, goInt, ← hl]⟩
  · rename_i e hu
    cases hq
    simp only [VRel, tv] at hx
    subst hx
    refine ⟨_, by simp [Builtin.len_, run_und hE hu]; rfl, ?_⟩
    have := mk_ok (σ := σ) hE (.i .i64) (.len e)
    have key : tv (.i .i64) (SX.len e).den = .int .i64 (e.den.list.length : Int) := rfl
    rw [key] at this
    simpa [goInt, asBytes, ByteArray.size] using this
  · rename_i hu
    cases hq
    exact lenX_ok hE ty hu hx (.inl ⟨_, _, rfl⟩) w
  · rename_i hu
    cases hq
    exact lenX_ok hE ty hu hx (.inr (.inl ⟨_, _, rfl⟩)) w
  · rename_i hu
    cases hq
    exact lenX_ok hE ty hu hx (.inr (.inr ⟨_, _, rfl⟩)) w
  · cases hq

 include hH
theorem convS_ok {src dst : TypeId} {x v : V} {x' : Value} (hq : convS E src dst x h = some v) (hx : VRel σ x x') :
    ∃ v', (convert src dst x').run P w = .ok v' w ∧ VRel σ v v' := by
  have bytes : ∀ {e : TypeId} {b o len : Nat} {cs : List V} {x' : Value}, E.und src = some (.slice e) → E.und dst = some .string → E.und e = some (.int .u8) → cellsAt h b o len = some cs → byteCells cs = true →
      (∃ r a cap', σ b = some r ∧ x' = .slice (some ⟨r.block, a, none⟩) len cap' ∧ (len = 0 ∨ a = r.base + o)) → ∃ v', (convert src dst x').run P w = .ok v' w ∧ VRel σ (.bstr cs) v' := by
    rintro e b o len cs x' hs hd he hc hb ⟨r, a, cap', hr, rfl, ha⟩
    obtain ⟨L, h1, h2⟩ := loadCells_slice hH hr hc ha
    obtain ⟨ns, e1, e2⟩ := byteCells_ok cs L hb h2
    rw [e1] at h1
    refine ⟨_, by simp only [convert, Sem.run_bind, run_und hE hs, run_und hE hd, run_und hE he, Result.andThen_ok]; exact run_bytesToString w _ len cap' ns h1, ?_⟩
    simp only [VRel]
    refine ⟨_, rfl, ?_⟩
    rw [foldl_push]
    have e3 : ∀ (l : List UInt8), (⟨⟨ByteArray.empty.data.toList ++ l⟩⟩ : ByteArray).data.toList = l := fun l => by simp
    rw [e3, ← e2]
    exact h2
  unfold convS at hq
  split at hq
  · rename_i k ks e hs hd
    cases hq
    simp only [VRel, tv] at hx; subst hx
    refine ⟨_, by simp [convert, run_und hE hs, run_und hE hd, Conv.intToInt]; rfl, ?_⟩
    split
    · rename_i hk
      have := mk_ok (σ := σ) hE (.i k) e
      have h2 := inKind_ok hk
      rw [wrapK_eq] at h2
      rw [h2]
      simpa [tv] using this
    · have := mk_ok (σ := σ) hE (.i k) (.conv k e)
      simpa [tv, SX.den, D.int, wrapK_eq] using this
  · rename_i l hs hd
    cases hq
    have hx0 := hx
    simp only [VRel] at hx
    obtain ⟨S, rfl, _⟩ := hx
    exact ⟨_, by simp [convert, run_und hE hs, run_und hE hd], hx0⟩
  · rename_i e hs hd
    cases hq
    have hx0 := hx
    simp only [VRel, tv] at hx
    subst hx
    exact ⟨_, by simp [convert, run_und hE hs, run_und hE hd], hx0⟩
  · rename_i e b o n hs hd
    split at hq
    · rename_i c he hg
      cases hq
      exact convX_ok hE hH hs hd he hg hx
    · cases hq
  · rename_i e b n hs hd
    split at hq
    · rename_i own c m he hg
      split at hq
      · rename_i hb
        cases hq
        rw [← SX.beq_eq _ _ hb] at hg
        exact convO_ok hE hH hs hd he hg hx
      · cases hq
    · cases hq
  · rename_i e b o len cap hs hd
    split at hq
    · rename_i cs he hc
      split at hq
      · rename_i hb; cases hq
        exact bytes hs hd he hc hb (VRel.slice_cases (b := b) (o := o) (len := len) (.inl ⟨_, rfl⟩) hx)
      · cases hq
    · cases hq
  · rename_i e b o len cap sz hs hd
    split at hq
    · rename_i cs he hc
      split at hq
      · rename_i hb; cases hq
        exact bytes hs hd he hc hb (VRel.slice_cases (b := b) (o := o) (len := len) (.inr ⟨_, _, rfl⟩) hx)
      · cases hq
    · cases hq
  · cases hq

theorem quietS_ok {o : Oper} {ρ : Operand → V} {ρ' : Operand → Value} (hρ : ∀ x, VRel σ (ρ x) (ρ' x)) {v : V} (hq : quietS E o.op ρ h = some v) :
    ∃ v', (execOp ρ' o).run P w = .ok (.value v') w ∧ VRel σ v v' := by
  have lift : ∀ {s : Sem Value} {v : V}, (∃ v', s.run P w = .ok v' w ∧ VRel σ v v') → ∃ v', (do pure (Next.value (← s)) : Sem Next).run P w = .ok (.value v') w ∧ VRel σ v v' := by
    rintro s v ⟨v', h1, h2⟩
    exact ⟨v', by simp [h1], h2⟩
  obtain ⟨dst, op, type, pos, after, guard⟩ := o
  simp only at hq
  unfold quietS at hq
  split at hq
  · rename_i op t x y yt
    exact lift (binS2_ok hE hq (hρ x) (hρ y) w)
  · rename_i op t x
    exact lift (unS_ok hE hq (hρ x) w)
  · rename_i src dst x
    exact lift (convS_ok hE hH hq (hρ x))
  · rename_i t x lo hi mx
    split at hq
    · rename_i lo0 hi0 mx0 e1 e2 e3
      exact lift (sliceS_ok hE hq (hρ x) (optNat_ok hρ e1) (optNat_ok hρ e2) (optNat_ok hρ e3) w)
    · split at hq
      · rename_i lo0 hi0 mx0 e1 e2 e3
        exact lift (sliceX_ok hE hq (hρ x) (optX_ok hρ e1) (optX_ok hρ e2) (optX_ok hρ e3) w)
      · cases hq
  · rename_i t a
    obtain ⟨b0, o0, v', e1, h1, h2⟩ := loadX_ok (P := P) hE hH hq (hρ a)
    exact lift ⟨v', by simp [Instr.loadAt, Instr.sureAddr, e1, h1], h2⟩
  · rename_i t x i
    exact lift (indexAddrX_ok hE hq (hρ x) (hρ i) w)
  · rename_i t x i
    exact lift (indexS_ok hE hq (hρ x) (hρ i))
  · rename_i args argTypes
    split at hq
    · rename_i x l e1
      obtain ⟨v', h1, h2⟩ := maxFoldS_ok (P := P) hE w _ _ _ _ _ hq (hρ x) (VRels.map hρ l)
      refine ⟨v', ?_, h2⟩
      have e1 := array_cons e1; subst e1
      simp [execOp, resolve, invoke, builtin, Builtin.max_, h1]
    · cases hq
  · rename_i args argTypes
    split at hq
    · rename_i x l e1
      obtain ⟨v', h1, h2⟩ := minFoldS_ok (P := P) hE w _ _ _ _ _ hq (hρ x) (VRels.map hρ l)
      refine ⟨v', ?_, h2⟩
      have e1 := array_cons e1; subst e1
      simp [execOp, resolve, invoke, builtin, Builtin.min_, h1]
    · cases hq
  · rename_i args argTypes
    split at hq
    · rename_i x t e1 e2
      obtain ⟨v', h1, h2⟩ := lenS_ok (P := P) (w := w) hE type hq (hρ x)
      refine ⟨v', ?_, h2⟩
      have e1 := array_one e1; have e2 := array_one e2; subst e1; subst e2
      simp [execOp, resolve, invoke, builtin, h1]
    · cases hq
  · cases hq

theorem quiet_ok {o : Oper} {ρ : Operand → V} {ρ' : Operand → Value} (hρ : ∀ x, VRel σ (ρ x) (ρ' x)) {v : V} (hq : quiet E o.op ρ h = some v) :
    ∃ v', (execOp ρ' o).run P w = .ok (.value v') w ∧ VRel σ v v' := by
  unfold quiet at hq
  split at hq
  · rename_i u hu; cases hq; exact quiet0_ok hE hH hρ hu
  · exact quietS_ok hE hH hρ hq
end
end Go.Bx
