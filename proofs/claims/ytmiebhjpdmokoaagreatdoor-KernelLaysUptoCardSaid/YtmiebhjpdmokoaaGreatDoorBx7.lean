/- The quiet operations: places, parts, lookups, aggregates, lengths; all of them together. -/
import Derived.Test.YtmiebhjpdmokoaaGreatDoorBx6
set_option linter.all false
namespace Go.Bx
open Go.RowKit
variable [Valn]

theorem run_getObj_map {P : Program} {w : World} {r : Nat} {ES : Array MapEntry} {c : Nat} (h : w.heap[r]? = some (.map ES c)) : (getObj r).run P w = .ok (.map ES c) w := by
  simp [getObj, Sem.run, h]
theorem run_getObj_iter {P : Program} {w : World} {r : Nat} {s : ByteArray} {c : Nat} (h : w.heap[r]? = some (.stringIter s c)) : (getObj r).run P w = .ok (.stringIter s c) w := by
  simp [getObj, Sem.run, h]

theorem eqK_eq {E : Env} {kt : TypeId} {k y : V} {r : Bool} (h : eqK E kt k y = some r) : y.isSym = false ∧ eqV E eqDepth kt k y = some r := by
  unfold eqK at h
  split at h <;> first | (cases h; done) | skip
  refine ⟨?_, h⟩
  cases y <;> first | rfl | (simp at *)

/-- A key that is a whole number or a string. -/
theorem eqV_int {E : Env} {kt : TypeId} {q k : IntKind} {a : Int} {y : V} {r : Bool} (hu : E.und kt = some (.int q)) (h : eqK E kt (.int k a) y = some r) : ∃ b, y = .int k b ∧ r = (a == b) := by
  have h2 := eqK_eq h
  clear h
  obtain ⟨hs, h⟩ := h2
  change eqV E (9999 + 1) kt (.int k a) y = some r at h
  unfold eqV at h
  rw [hu] at h
  cases y <;> first | (cases hs; done) | (simp at h; done) | skip
  rename_i k' b
  simp only at h
  cases hk : kindBeq k k' with
  | false => simp [hk] at h
  | true =>
    have := kindBeq_eq hk; subst this
    simp [hk, intBeq_eq] at h
    exact ⟨b, rfl, h.symm⟩
theorem eqV_str {E : Env} {kt : TypeId} {a : ByteArray} {y : V} {r : Bool} (hu : E.und kt = some .string) (h : eqK E kt (.str a) y = some r) : ∃ b, y = .str b ∧ r = (a == b) := by
  have h2 := eqK_eq h
  clear h
  obtain ⟨hs, h⟩ := h2
  change eqV E (9999 + 1) kt (.str a) y = some r at h
  unfold eqV at h
  rw [hu] at h
  cases y <;> first | (cases hs; done) | (simp at h; done) | skip
  rename_i b
  simp only [Option.some.injEq] at h
  exact ⟨b, rfl, by rw [beq_toListBytes, ← strBeq_eq]; exact h.symm⟩

def KRel (σ : Sub) : Option (Nat × V) → Option (Nat × Value) → Prop
  | none, r => r = none
  | some (i, v), r => ∃ v', r = some (i, v') ∧ VRel σ v v'

section
variable {P : Program} {E : Env} (hE : EnvOk P E) {σ : Sub} {G : Nat} {w0 : Base} {B : Nat} {h : Hp} {w : World} (hH : HRel G w0 B σ h w)

theorem findK_ok {kt : TypeId} {k : V} (hk : keyOk E kt k = true) {d : TypeDesc} (hu : E.und kt = some d) {k' : Value} (hr : VRel σ k k') :
    ∀ (es : List (V × V × Nat)) (ES : List MapEntry) (i : Nat) (r : Option (Nat × V)), findK E kt k es i = some r → ERels σ es ES → ∃ r', Instr.findNow d k' ES i = some r' ∧ KRel σ r r'
  | [], ES, i, r, hf, he => by
    simp only [findK, Option.some.injEq] at hf; subst hf
    simp only [ERels] at he; subst he
    exact ⟨none, rfl, rfl⟩
  | (k0, v0, b0) :: es, ES, i, r, hf, he => by
    simp only [ERels] at he
    obtain ⟨k0', v0', ES', rfl, a1, a2, a3⟩ := he
    simp only [findK] at hf
    cases hq : eqK E kt k k0 with
    | none => simp [hq] at hf
    | some q =>
      simp only [hq] at hf
      have hs : Instr.sameNow d k' k0' = some q := by
        unfold keyOk at hk
        rw [hu] at hk
        split at hk
        · rename_i e1
          cases e1
          obtain ⟨b, rfl, hb⟩ := eqV_int hu hq
          simp only [VRel] at hr a1; subst hr; subst a1
          simp [Instr.sameNow, hb]
        · rename_i e1
          cases e1
          obtain ⟨b, rfl, hb⟩ := eqV_str hu hq
          simp only [VRel] at hr a1; subst hr; subst a1
          simp [Instr.sameNow, hb]
        · cases hk
      simp only [Instr.findNow, hs]
      cases q with
      | true =>
        simp only [Option.some.injEq] at hf; subst hf
        exact ⟨_, rfl, v0', rfl, a2⟩
      | false => exact findK_ok hk hu hr es ES' (i + 1) r hf a3

 include hE

theorem run_findKey {kt : TypeId} {k : V} (hk : keyOk E kt k = true) {k' : Value} (hr : VRel σ k k') {es : List (V × V × Nat)} {ES : List MapEntry} {r : Option (Nat × V)} (hf : findK E kt k es 0 = some r) (he : ERels σ es ES) (w : World) :
    ∃ r', (Instr.findKey kt k' ES).run P w = .ok r' w ∧ KRel σ r r' := by
  cases hu : E.und kt with
  | none => simp [keyOk, hu] at hk
  | some d =>
    obtain ⟨r', h1, h2⟩ := findK_ok hk hu hr es ES 0 r hf he
    exact ⟨r', by simp [Instr.findKey, run_und hE hu, h1], h2⟩

theorem run_checkKey {kt : TypeId} {k : V} (hk : keyOk E kt k = true) {k' : Value} (hr : VRel σ k k') (b : Bool) (w : World) : (Instr.checkKey b 10000 kt k').run P w = .ok () w := by
  suffices hs : ∀ n, (Instr.checkKey b (n + 1) kt k').run P w = .ok () w from hs 9999
  intro n
  unfold keyOk at hk
  split at hk
  · rename_i hu
    simp only [VRel] at hr; subst hr
    simp [Instr.checkKey, run_und hE hu]
  · rename_i hu
    simp only [VRel] at hr; subst hr
    simp [Instr.checkKey, run_und hE hu]
  · cases hk

 include hH

 omit hE in
theorem map_obj {r : Nat} {es : List (V × V × Nat)} {c : Nat} (hg : h.t.get r = some (.map es c)) {r0 : Ren} (hr0 : σ r = some r0) : ∃ q, σ r = some q ∧ B ≤ q.block ∧ ∃ ES : Array MapEntry, w.heap[q.block]? = some (.map ES c) ∧ ERels σ es ES.toList := by
  exact ⟨r0, hr0, hH.rel r _ hg rfl r0 hr0⟩

theorem lookupQ_ok {t : TypeId} {m k v : V} {ok : Bool} {m' k' : Value} (hq : lookupQ E t m k ok h = some v) (hm : VRel σ m m') (hk : VRel σ k k') :
    ∃ v', (Instr.lookup t m' k' ok).run P w = .ok v' w ∧ VRel σ v v' := by
  unfold lookupQ at hq
  split at hq
  case h_2 => cases hq
  rename_i kt et hu
  cases hko : keyOk E kt k with
  | false => simp [hko] at hq
  | true =>
    simp only [hko] at hq
    have fin : ∀ (es : List (V × V × Nat)) (ES : Array MapEntry), ERels σ es ES.toList → lookFin E kt et k ok es = some v →
        ∃ v', (do
          Instr.checkKey ES.isEmpty 10000 kt k'
          let (v, ok') ← match ← Instr.findKey kt k' ES.toList with
            | some (_, v) => pure (v, true)
            | none => pure (← zeroValue et, false)
          pure (if ok then .tuple #[v, .bool ok'] else v) : Sem Value).run P w = .ok v' w ∧ VRel σ v v' := by
      intro es ES he hq
      unfold lookFin at hq
      cases hf : findK E kt k es 0 with
      | none => simp [hf] at hq
      | some r =>
        obtain ⟨r', h1, h2⟩ := run_findKey hE hko hk hf he w
        simp only [hf] at hq
        simp only [Sem.run_bind, run_checkKey hE hko hk, Result.andThen_ok, h1]
        cases r with
        | some p =>
          obtain ⟨i, x⟩ := p
          obtain ⟨x', rfl, hx⟩ := h2
          simp only at hq
          cases ok with
          | true => simp only [Option.some.injEq] at hq; subst hq; exact ⟨_, rfl, by simp only [VRel]; exact ⟨_, rfl, by simp [VRels, VRel, hx]⟩⟩
          | false => simp only [Option.some.injEq] at hq; subst hq; exact ⟨x', rfl, hx⟩
        | none =>
          simp only [KRel] at h2; subst h2
          simp only at hq
          cases hz : E.zero et with
          | none => simp [hz] at hq
          | some z =>
            simp only [hz] at hq
            simp only [Sem.run_bind, run_zero hE hz, Result.andThen_ok, Sem.run_pure]
            cases ok with
            | true => simp only [Option.some.injEq] at hq; subst hq; exact ⟨_, rfl, by simp only [VRel]; exact ⟨_, rfl, by simp [VRels, VRel, VRel.ofVal]⟩⟩
            | false => simp only [Option.some.injEq] at hq; subst hq; exact ⟨z, rfl, VRel.ofVal σ z⟩
    cases m <;> simp only at hq <;> try (cases hq; done)
    case nilm =>
      simp only [VRel] at hm; subst hm
      obtain ⟨v', h1, h2⟩ := fin [] #[] (by simp [ERels]) hq
      exact ⟨v', by rw [← h1]; simp [Instr.lookup, run_und hE hu]; rfl, h2⟩
    case map r =>
      simp only [VRel] at hm; obtain ⟨q, hq1, rfl⟩ := hm
      cases hg : h.t.get r with
      | none => simp [hg] at hq
      | some o =>
        cases o <;> simp [hg] at hq
        rename_i es c
        obtain ⟨q', hq2, _, ES, hw, he⟩ := map_obj hH hg hq1
        rw [hq1] at hq2; cases hq2
        obtain ⟨v', h1, h2⟩ := fin es ES he hq
        exact ⟨v', by rw [← h1]; simp [Instr.lookup, run_und hE hu, run_getObj_map hw]; rfl, h2⟩

theorem lenQ_ok {t : TypeId} {x v : V} {x' : Value} (ty : TypeId) (hq : lenQ E t x h = some v) (hx : VRel σ x x') :
    ∃ v', (Builtin.len_ #[t] ty #[x']).run P w = .ok v' w ∧ VRel σ v v' := by
  unfold lenQ at hq
  split at hq
  · rename_i hu; cases hq; simp only [VRel] at hx; subst hx
    exact ⟨_, by simp [Builtin.len_, run_und hE hu]; rfl, by simp [VRel, goInt]⟩
  · rename_i hu; cases hq
    exact ⟨_, by simp [Builtin.len_, run_und hE hu]; rfl, by simp [VRel, goInt]⟩
  · rename_i hu; cases hq; simp only [VRel] at hx; obtain ⟨r, _, rfl⟩ := hx
    exact ⟨_, by simp [Builtin.len_, run_und hE hu]; rfl, by simp [VRel, goInt]⟩
  · rename_i hu; cases hq; simp only [VRel] at hx; obtain ⟨r, a, c, _, rfl, _⟩ := hx
    exact ⟨_, by simp [Builtin.len_, run_und hE hu]; rfl, by simp [VRel, goInt]⟩
  · rename_i hu; cases hq; simp only [VRel] at hx; subst hx
    exact ⟨_, by simp [Builtin.len_, run_und hE hu]; rfl, by simp [VRel, goInt]⟩
  · rename_i hu; cases hq; simp only [VRel] at hx; subst hx
    exact ⟨_, by simp [Builtin.len_, run_und hE hu]; rfl, by simp [VRel, goInt]⟩
  · rename_i r hu
    simp only [VRel] at hx; obtain ⟨q, hq1, rfl⟩ := hx
    split at hq
    · rename_i es c hg
      cases hq
      obtain ⟨q', hq2, _, ES, hw, he⟩ := map_obj hH hg hq1
      rw [hq1] at hq2; cases hq2
      refine ⟨_, by simp [Builtin.len_, run_und hE hu, run_getObj_map hw]; rfl, ?_⟩
      have : ∀ (es : List (V × V × Nat)) (l : List MapEntry), ERels σ es l → l.length = es.length := by
        intro es
        induction es with
        | nil => intro l hl; simp only [ERels] at hl; subst hl; rfl
        | cons e es ih => intro l hl; obtain ⟨k, v, b⟩ := e; simp only [ERels] at hl; obtain ⟨_, _, l', rfl, _, _, hl'⟩ := hl; simp [ih l' hl']
      have := this es _ he
      simp only [VRel, goInt]
      simp at this; simp [this]
    · cases hq
  · cases hq

 omit hH
theorem capQ_ok {t : TypeId} {x v : V} {x' : Value} (ty : TypeId) (hq : capQ E t x = some v) (hx : VRel σ x x') :
    ∃ v', (Builtin.cap_ #[t] ty #[x']).run P w = .ok v' w ∧ VRel σ v v' := by
  unfold capQ at hq
  split at hq
  · rename_i hu; cases hq
    exact ⟨_, by simp [Builtin.cap_, run_und hE hu]; rfl, by simp [VRel, goInt]⟩
  · rename_i hu; cases hq; simp only [VRel] at hx; obtain ⟨r, _, rfl⟩ := hx
    exact ⟨_, by simp [Builtin.cap_, run_und hE hu]; rfl, by simp [VRel, goInt]⟩
  · rename_i hu; cases hq; simp only [VRel] at hx; subst hx
    exact ⟨_, by simp [Builtin.cap_, run_und hE hu]; rfl, by simp [VRel, goInt]⟩
  · cases hq

theorem indexAddrQ_ok {t : TypeId} {x i v : V} {x' i' : Value} (hq : indexAddrQ E t x i = some v) (hx : VRel σ x x') (hi : VRel σ i i') :
    ∃ v', (Instr.indexAt t x' i').run P w = .ok v' w ∧ VRel σ v v' := by
  unfold indexAddrQ at hq
  split at hq
  · rename_i n e j b o hu hn
    obtain ⟨k, rfl⟩ := natOf_ok hn hi
    simp only [VRel] at hx; obtain ⟨r, hr, rfl⟩ := hx
    split at hq
    · rename_i s hlt hs
      cases hq
      have hlt : j < n := by rw [Nat.blt_eq] at hlt; exact hlt
      refine ⟨_, by simp [Instr.indexAt, asIntOf, run_und hE hu, Instr.sureAddr, run_size hE hs, hlt]; rfl, ?_⟩
      simp only [VRel]; exact ⟨r, hr, by simp [Addr.add_lit, Nat.add_assoc]⟩
    · cases hq
  · rename_i e j b o len cap hu hn
    obtain ⟨k, rfl⟩ := natOf_ok hn hi
    simp only [VRel] at hx; obtain ⟨r, hr, rfl⟩ := hx
    split at hq
    · rename_i s hlt hs
      cases hq
      have hlt : j < len := by rw [Nat.blt_eq] at hlt; exact hlt
      refine ⟨_, by simp [Instr.indexAt, asIntOf, run_und hE hu, run_size hE hs, hlt]; rfl, ?_⟩
      simp only [VRel]; exact ⟨r, hr, by simp [Addr.add_lit, Nat.add_assoc]⟩
    · cases hq
  · rename_i e j b o len cap sz hu hn
    obtain ⟨k, rfl⟩ := natOf_ok hn hi
    simp only [VRel] at hx; obtain ⟨r, a, cap', hr, rfl, b1, b2, b3, _⟩ := hx
    split at hq
    · rename_i s hlt hs
      cases hq
      have hlt : j < len := by rw [Nat.blt_eq] at hlt; exact hlt
      have ha : a = r.base + o := by rcases b3 with b3 | b3; (omega); exact b3
      subst ha
      refine ⟨_, by simp [Instr.indexAt, asIntOf, run_und hE hu, run_size hE hs, hlt]; rfl, ?_⟩
      simp only [VRel]; exact ⟨r, hr, by simp [Addr.add_lit, Nat.add_assoc]⟩
    · cases hq
  · cases hq

theorem indexQ_ok {t : TypeId} {x i v : V} {x' i' : Value} (hq : indexQ E t x i = some v) (hx : VRel σ x x') (hi : VRel σ i i') :
    ∃ v', (Instr.index t x' i').run P w = .ok v' w ∧ VRel σ v v' := by
  unfold indexQ at hq
  split at hq
  · rename_i n e j cs hu hn
    obtain ⟨k, rfl⟩ := natOf_ok hn hi
    simp only [VRel] at hx; obtain ⟨cs', rfl, hcs⟩ := hx
    split at hq
    · rename_i s hlt hs
      have hlt : j < n := by rw [Nat.blt_eq] at hlt; exact hlt
      obtain ⟨v', h1, h2⟩ := part_ok hE hq hcs w
      exact ⟨v', by simp [Instr.index, asIntOf, run_und hE hu, run_size hE hs, hlt, h1], h2⟩
    · cases hq
  · rename_i j s hu hn
    obtain ⟨k, rfl⟩ := natOf_ok hn hi
    simp only [VRel] at hx; subst hx
    split at hq
    · rename_i b hb
      cases hq
      have hsz : j < s.size := by
        have := (List.getElem?_eq_some_iff.1 hb).1
        simpa using this
      have hb' : s[j] = b := by
        obtain ⟨h1, h2⟩ := List.getElem?_eq_some_iff.1 hb
        rw [← h2]; rfl
      refine ⟨_, by simp [Instr.index, asIntOf, run_und hE hu, ByteArray.getElem?_lt' s j hsz, hb']; rfl, by simp [VRel]⟩
    · cases hq
  · cases hq

theorem fieldAddrQ_ok {t : TypeId} {x v : V} {f : Nat} {x' : Value} (hq : fieldAddrQ E t x f = some v) (hx : VRel σ x x') :
    ∃ v', (Instr.fieldAt t x' f).run P w = .ok v' w ∧ VRel σ v v' := by
  unfold fieldAddrQ at hq
  split at hq
  · rename_i fs b o hu
    simp only [VRel] at hx; obtain ⟨r, hr, rfl⟩ := hx
    split at hq
    · rename_i fd hf
      split at hq
      · rename_i n hs
        cases hq
        have hf' : fs[f]? = some fd := by simpa using hf
        refine ⟨_, by simp [Instr.fieldAt, run_und hE hu, hf', Instr.sureAddr, fieldPlace, run_size hE hs]; rfl, ?_⟩
        simp only [VRel]; exact ⟨r, hr, by simp [Addr.add_lit, Nat.add_assoc]⟩
      · cases hq
    · cases hq
  · cases hq

theorem fieldQ_ok {t : TypeId} {x v : V} {f : Nat} {x' : Value} (hq : fieldQ E t x f = some v) (hx : VRel σ x x') :
    ∃ v', (Instr.field t x' f).run P w = .ok v' w ∧ VRel σ v v' := by
  unfold fieldQ at hq
  split at hq
  · rename_i fs cs hu
    simp only [VRel] at hx; obtain ⟨cs', rfl, hcs⟩ := hx
    split at hq
    · rename_i fd hf
      have hf' : fs[f]? = some fd := by simpa using hf
      obtain ⟨v', h1, h2⟩ := part_ok hE hq hcs w
      exact ⟨v', by simp [Instr.field, run_und hE hu, hf', asAgg, h1], h2⟩
    · cases hq
  · cases hq

theorem typeAssertQ_ok {x v : V} {xt asserted : TypeId} {ok : Bool} {x' : Value} (hq : typeAssertQ E x asserted ok = some v) (hx : VRel σ x x') :
    ∃ v', (Instr.typeAssert x' xt asserted ok).run P w = .ok v' w ∧ VRel σ v v' := by
  unfold typeAssertQ at hq
  split at hq
  · cases hq
  · rename_i d hni hu
    simp only [VRel] at hx; subst hx
    split at hq
    · rename_i z hz
      cases hq
      refine ⟨.tuple #[z, .bool false], ?_, by simp [VRel, VRels, VRel.ofVal]⟩
      simp only [Instr.typeAssert, Sem.run_bind, run_und hE hu, Result.andThen_ok]
      cases d <;> first | (simp [run_zero hE hz]; done) | exact absurd hu (hni _)
    · cases hq
  · rename_i d t v0 hni hu
    simp only [VRel] at hx; obtain ⟨x0, rfl, hx0⟩ := hx
    split at hq
    · rename_i he
      have he := Nat.eq_of_beq_eq_true he; subst he
      cases hq
      cases ok with
      | true =>
        refine ⟨.tuple #[x0, .bool true], ?_, by simp [VRel, VRels, hx0]⟩
        simp only [Instr.typeAssert, Sem.run_bind, run_und hE hu, Result.andThen_ok]
        cases d <;> first | (simp; done) | exact absurd hu (hni _)
      | false =>
        refine ⟨x0, ?_, hx0⟩
        simp only [Instr.typeAssert, Sem.run_bind, run_und hE hu, Result.andThen_ok]
        cases d <;> first | (simp; done) | exact absurd hu (hni _)
    · rename_i he
      have hne : t ≠ asserted := Nat.ne_of_beq_eq_false he
      split at hq
      · rename_i z hz
        cases hq
        refine ⟨.tuple #[z, .bool false], ?_, by simp [VRel, VRels, VRel.ofVal]⟩
        simp only [Instr.typeAssert, Sem.run_bind, run_und hE hu, Result.andThen_ok]
        cases d <;> first | (simp [hne, run_zero hE hz]; done) | exact absurd hu (hni _)
      · cases hq
  · cases hq

 omit hE
theorem maxV_ok {x y v : V} {x' y' : Value} (hq : maxV true x y = some v) (hx : VRel σ x x') (hy : VRel σ y y') : ∃ v', (Builtin.max2 x' y').run P w = .ok v' w ∧ VRel σ v v' := by
  unfold maxV at hq
  split at hq
  · rename_i k a k' b
    simp only [VRel] at hx hy; subst hx; subst hy
    cases hk : kindBeq k k' with
    | false => simp [hk] at hq
    | true =>
      simp only [hk, Option.some.injEq] at hq; subst hq
      refine ⟨_, by simp only [Builtin.max2]; rfl, ?_⟩
      simp only [VRel, intLt_eq]
      by_cases hab : a < b
      · simp [hab]
      · simp [hab]
  · cases hq
theorem minV_ok {x y v : V} {x' y' : Value} (hq : maxV false x y = some v) (hx : VRel σ x x') (hy : VRel σ y y') : ∃ v', (Builtin.min2 x' y').run P w = .ok v' w ∧ VRel σ v v' := by
  unfold maxV at hq
  split at hq
  · rename_i k a k' b
    simp only [VRel] at hx hy; subst hx; subst hy
    cases hk : kindBeq k k' with
    | false => simp [hk] at hq
    | true =>
      simp only [hk, Option.some.injEq] at hq; subst hq
      refine ⟨_, by simp only [Builtin.min2]; rfl, ?_⟩
      simp only [VRel, intLt_eq]
      by_cases hab : b < a
      · simp [hab]
      · simp [hab]
  · cases hq

theorem maxFold_ok : ∀ (l : List V) (x v : V) (l' : List Value) (x' : Value), maxFold true x l = some v → VRel σ x x' → VRels σ l l' → ∃ v', (l'.foldlM Builtin.max2 x').run P w = .ok v' w ∧ VRel σ v v'
  | [], x, v, l', x', hq, hx, hl => by
    simp only [maxFold, Option.some.injEq] at hq; subst hq
    simp only [VRels] at hl; subst hl
    exact ⟨x', rfl, hx⟩
  | y :: l, x, v, l', x', hq, hx, hl => by
    simp only [VRels] at hl; obtain ⟨y', m, rfl, hy, hm⟩ := hl
    simp only [maxFold] at hq
    cases hz : maxV true x y with
    | none => simp [hz] at hq
    | some z =>
      simp only [hz] at hq
      obtain ⟨z', h1, h2⟩ := maxV_ok (P := P) (w := w) hz hx hy
      obtain ⟨v', h3, h4⟩ := maxFold_ok l z v m z' hq h2 hm
      exact ⟨v', by simp [List.foldlM_cons, h1, h3], h4⟩
theorem minFold_ok : ∀ (l : List V) (x v : V) (l' : List Value) (x' : Value), maxFold false x l = some v → VRel σ x x' → VRels σ l l' → ∃ v', (l'.foldlM Builtin.min2 x').run P w = .ok v' w ∧ VRel σ v v'
  | [], x, v, l', x', hq, hx, hl => by
    simp only [maxFold, Option.some.injEq] at hq; subst hq
    simp only [VRels] at hl; subst hl
    exact ⟨x', rfl, hx⟩
  | y :: l, x, v, l', x', hq, hx, hl => by
    simp only [VRels] at hl; obtain ⟨y', m, rfl, hy, hm⟩ := hl
    simp only [maxFold] at hq
    cases hz : maxV false x y with
    | none => simp [hz] at hq
    | some z =>
      simp only [hz] at hq
      obtain ⟨z', h1, h2⟩ := minV_ok (P := P) (w := w) hz hx hy
      obtain ⟨v', h3, h4⟩ := minFold_ok l z v m z' hq h2 hm
      exact ⟨v', by simp [List.foldlM_cons, h1, h3], h4⟩
end
end Go.Bx
