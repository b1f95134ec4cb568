/- A region that draws its order: what stands ahead of what; the steps in the order of the text. -/
import Derived.Test.YtmiebhjpdmokoaaGreatDoorBx15
set_option linter.all false
namespace Go.Bx
open Go.RowKit
variable [Valn]

theorem masks_len : ∀ (l : List Oper) (acc : List Nat), (masks l acc).length = acc.length + l.length
  | [], acc => by simp [masks]
  | o :: l, acc => by rw [masks, masks_len l]; simp; omega

theorem masks_old : ∀ (l : List Oper) (acc : List Nat) (k : Nat), k < acc.length → (masks l acc)[k]? = acc[k]?
  | [], acc, k, _ => by simp [masks]
  | o :: l, acc, k, h => by
    rw [masks, masks_old l _ k (by simp; omega), List.getElem?_append_left h]

theorem masks_take (l : List Oper) (acc : List Nat) : (masks l acc).take acc.length = acc := by
  apply List.ext_getElem?
  intro k
  rw [List.getElem?_take]
  by_cases h : k < acc.length
  · rw [if_pos h, masks_old l acc k h]
  · rw [if_neg h, List.getElem?_eq_none (by omega)]

theorem masks_at : ∀ (l : List Oper) (acc : List Nat) (j : Nat) (o : Oper), l[j]? = some o → (masks l acc)[acc.length + j]? = some (maskOf ((masks l acc).take (acc.length + j)) o.after.toList)
  | [], acc, j, o, h => by simp at h
  | x :: l, acc, 0, o, h => by
    simp at h; subst h
    rw [Nat.add_zero, masks_take, masks, masks_old l _ _ (by simp)]
    simp
  | x :: l, acc, j + 1, o, h => by
    have := masks_at l (acc ++ [maskOf acc x.after.toList]) j o (by simpa using h)
    rw [masks]
    simp only [List.length_append, List.length_cons, List.length_nil] at this
    rw [show acc.length + (j + 1) = acc.length + (0 + 1) + j by omega]
    exact this

theorem maskOf_bit : ∀ (es : List Edge) (acc : List Nat) (i : Nat), Nat.testBit (maskOf acc es) i = true → ∃ e ∈ es, bindsAny e = true ∧ (e.on = i ∨ Nat.testBit ((acc[e.on]?).getD 0) i = true)
  | [], acc, i, h => by simp [maskOf] at h
  | e :: es, acc, i, h => by
    simp only [maskOf] at h
    cases hb : bindsAny e with
    | false =>
      simp only [hb] at h
      obtain ⟨e', h1, h2⟩ := maskOf_bit es acc i h
      exact ⟨e', List.mem_cons_of_mem _ h1, h2⟩
    | true =>
      simp only [hb] at h
      have h' : Nat.testBit ((2 ^ e.on ||| (acc[e.on]?).getD 0) ||| maskOf acc es) i = true := h
      rw [Nat.testBit_or, Nat.testBit_or, Nat.testBit_two_pow] at h'
      simp only [Bool.or_eq_true, decide_eq_true_eq] at h'
      rcases h' with (h1 | h1) | h1
      · exact ⟨e, List.mem_cons_self, hb, .inl h1⟩
      · exact ⟨e, List.mem_cons_self, hb, .inr h1⟩
      · obtain ⟨e', h1, h2⟩ := maskOf_bit es acc i h1
        exact ⟨e', List.mem_cons_of_mem _ h1, h2⟩

/-- Every binding edge of an operation leads into D. -/
def EdgesIn (L : List Oper) (D : Nat → Bool) (j : Nat) : Prop := ∀ o, L[j]? = some o → ∀ e ∈ o.after.toList, bindsAny e = true → D e.on = true

theorem mask_closed {L : List Oper} (hback : ∀ (j : Nat) (o : Oper), L[j]? = some o → backOk o j = true) {D : Nat → Bool} (hD : ∀ j, D j = true → EdgesIn L D j) :
    ∀ (j i : Nat), EdgesIn L D j → bitAt (masks L []) j i = true → D i = true := by
  intro j
  induction j using Nat.strongRecOn with
  | _ j ih =>
    intro i hj hb
    unfold bitAt at hb
    cases ho : L[j]? with
    | none =>
      have : (masks L [])[j]? = none := by
        rw [List.getElem?_eq_none]; rw [masks_len]
        rw [List.getElem?_eq_none_iff] at ho
        simpa using ho
      rw [this] at hb; simp at hb
    | some o =>
      have hm := masks_at L [] j o ho
      simp only [List.length_nil, Nat.zero_add] at hm
      rw [hm] at hb
      simp only [Option.getD_some] at hb
      obtain ⟨e, he, hbi, h⟩ := maskOf_bit _ _ _ hb
      have hDe := hj o ho e he hbi
      rcases h with rfl | h
      · exact hDe
      · have hlt : e.on < j := by
          have := hback j o ho
          unfold backOk at this
          rw [List.all_eq_true] at this
          have := this e he
          simp only [hbi, Bool.not_true, Bool.false_or] at this
          rwa [Nat.blt_eq] at this
        rw [List.getElem?_take, if_pos hlt] at h
        exact ih e.on hlt i (hD _ hDe) h

structure RegOk (E : Env) (fx : List Nat) (L : List Oper) : Prop where
  back : ∀ (j : Nat) (o : Oper), L[j]? = some o → backOk o j = true
  sel : ∀ (j : Nat) (o : Oper), L[j]? = some o → notSelect o.op = true
  pair : ∀ (i j : Nat) (a b : Oper), i < j → L[i]? = some a → L[j]? = some b → pairOk E fx L (masks L []) i j a b = true

theorem pairsOk_spec (E : Env) (fx : List Nat) (L : List Oper) (m : List Nat) (j : Nat) (b : Oper) : ∀ (l : List Oper) (k : Nat), pairsOk E fx L m j b l k = true → ∀ i a, l[i]? = some a → k + i < j → pairOk E fx L m (k + i) j a b = true
  | [], k, _, i, a, h, _ => by simp at h
  | x :: l, k, hp, i, a, h, hlt => by
    simp only [pairsOk] at hp
    have hk : k < j := by omega
    have hkb : Nat.blt k j = true := by rw [Nat.blt_eq]; exact hk
    simp only [hkb, Bool.and_eq_true] at hp
    cases i with
    | zero => simp at h; subst h; exact hp.1
    | succ i =>
      have := pairsOk_spec E fx L m j b l (k + 1) hp.2 i a (by simpa using h) (by omega)
      rwa [show k + 1 + i = k + (i + 1) by omega] at this

theorem regionOk_spec {E : Env} {L : List Oper} (h : regionOk E L = true) : RegOk E (floatsOf E L) L := by
  unfold regionOk at h
  have key : ∀ (l : List Oper) (k : Nat), regionOk.go E L (floatsOf E L) (masks L []) l k = true → ∀ j b, l[j]? = some b → backOk b (k + j) = true ∧ notSelect b.op = true ∧ pairsOk E (floatsOf E L) L (masks L []) (k + j) b L 0 = true := by
    intro l
    induction l with
    | nil => intro k _ j b hj; simp at hj
    | cons x l ih =>
      intro k hg j b hj
      simp only [regionOk.go, Bool.and_eq_true] at hg
      obtain ⟨⟨⟨g1, g2⟩, g3⟩, g4⟩ := hg
      cases j with
      | zero => simp at hj; subst hj; exact ⟨g1, g2, g3⟩
      | succ j =>
        have := ih (k + 1) g4 j b (by simpa using hj)
        rwa [show k + 1 + j = k + (j + 1) by omega] at this
  refine ⟨fun j o ho => ?_, fun j o ho => ?_, fun i j a b hlt ha hb => ?_⟩
  · simpa using (key L 0 h j o ho).1
  · exact (key L 0 h j o ho).2.1
  · have h3 := (key L 0 h j b hb).2.2
    rw [Nat.zero_add] at h3
    have := pairsOk_spec E _ L _ j b L 0 h3 i a ha (by omega)
    rwa [Nat.zero_add] at this

theorem skBeq_eq {a b : SK} (h : skBeq a b = true) : a = b := by
  cases a <;> cases b <;> simp [skBeq] at h <;> first | rfl | rw [kindBeq_eq h]

 mutual
theorem vEq_eq : ∀ (a b : V), vEq a b = true → a = b
  | .top, b, h => by cases b <;> simp [vEq] at h
  | .bool a, b, h => by cases b <;> simp [vEq] at h; rename_i c; cases a <;> cases c <;> simp at h <;> rfl
  | .int k a, b, h => by
    cases b <;> simp [vEq] at h
    rename_i k' c
    cases hk : kindBeq k k' with
    | false => simp [hk] at h
    | true =>
      simp [hk, intBeq_eq] at h
      rw [kindBeq_eq hk, h]
  | .str a, b, h => by
    cases b <;> simp [vEq] at h
    rename_i c
    rw [strBeq_eq, ← beq_toListBytes] at h
    rw [beq_str h]
  | .nilp, b, h => by cases b <;> simp [vEq] at h; rfl
  | .ptr a o, b, h => by
    cases b <;> simp [vEq] at h
    rename_i c d
    cases hk : Nat.beq a c with
    | false => simp [hk] at h
    | true => simp [hk] at h; rw [Nat.eq_of_beq_eq_true hk, h]
  | .nils, b, h => by cases b <;> simp [vEq] at h; rfl
  | .slice a b c d, x, h => by
    cases x <;> simp [vEq] at h
    obtain ⟨⟨⟨rfl, rfl⟩, rfl⟩, rfl⟩ := h
    rfl
  | .oslice a b c d e, x, h => by
    cases x <;> simp [vEq] at h
    obtain ⟨⟨⟨⟨rfl, rfl⟩, rfl⟩, rfl⟩, rfl⟩ := h
    rfl
  | .nilm, b, h => by cases b <;> simp [vEq] at h; rfl
  | .xsl a b c, x, h => by
    cases x <;> simp [vEq] at h
    obtain ⟨⟨rfl, rfl⟩, h3⟩ := h
    rw [SX.beq_eq _ _ h3]
  | .xarg a c z, x, h => by
    cases x <;> simp [vEq] at h
    obtain ⟨⟨rfl, h3⟩, rfl⟩ := h
    rw [SX.beq_eq _ _ h3]
  | .osl a c z, x, h => by
    cases x <;> simp [vEq] at h
    obtain ⟨⟨rfl, h3⟩, rfl⟩ := h
    rw [SX.beq_eq _ _ h3]
  | .xptr a c, x, h => by
    cases x <;> simp [vEq] at h
    obtain ⟨rfl, h3⟩ := h
    rw [SX.beq_eq _ _ h3]
  | .map a, b, h => by cases b <;> simp [vEq] at h; rw [h]
  | .nilFunc, b, h => by cases b <;> simp [vEq] at h; rfl
  | .func fn f c, b, h => by
    cases b
    case func fn' f' c' =>
      cases fn <;> cases fn' <;> simp [vEq] at h
      obtain ⟨⟨rfl, h2⟩, h3⟩ := h
      rw [vEqs_eq f f' h2, vEqs_eq c c' h3]
    all_goals (cases fn <;> simp [vEq] at h)
  | .iface t v, b, h => by
    cases b <;> simp [vEq] at h
    rename_i u w
    cases hk : Nat.beq t u with
    | false => simp [hk] at h
    | true => simp [hk] at h; rw [Nat.eq_of_beq_eq_true hk, vEq_eq v w h]
  | .nilIface, b, h => by cases b <;> simp [vEq] at h; rfl
  | .agg a, b, h => by cases b <;> simp [vEq] at h; rename_i c; rw [vEqs_eq a c h]
  | .tuple a, b, h => by cases b <;> simp [vEq] at h; rename_i c; rw [vEqs_eq a c h]
  | .bstr a, b, h => by cases b <;> simp [vEq] at h; rename_i c; rw [vEqs_eq a c h]
  | .sym t a, b, h => by
    cases b <;> simp [vEq] at h
    rename_i u c
    cases hk : skBeq t u with
    | false => simp [hk] at h
    | true => simp [hk] at h; rw [skBeq_eq hk, SX.beq_eq _ _ h]
theorem vEqs_eq : ∀ (a b : List V), vEqs a b = true → a = b
  | [], b, h => by cases b <;> simp [vEqs] at h; rfl
  | x :: l, b, h => by
    cases b with
    | nil => simp [vEqs] at h
    | cons y m =>
      simp only [vEqs] at h
      cases hk : vEq x y with
      | false => simp [hk] at h
      | true => simp only [hk] at h; rw [vEq_eq x y hk, vEqs_eq l m h]
end

/-- The state ahead of step i, in the order of the text. -/
def stAt (tr : List Tr) (fin : T V × Hp × DL) (i : Nat) : T V × Hp × DL := match tr[i]? with | some t => (t.tm, t.h, t.ds) | none => fin

structure TraceOk (E : Env) (call : CallF) (fx : List Nat) (bs n : Nat) (ops l : List Oper) (k : Nat) (tr : List Tr) (fin : T V × Hp × DL) : Prop where
  len : tr.length = l.length
  step : ∀ i o, l[i]? = some o → ∃ t, tr[i]? = some t ∧ guardV ops t.tm o = some t.g ∧ putT n t.tm o.dst t.v = some (stAt tr fin (i + 1)).1 ∧
    (t.g = true → oneOpF E call fx bs (k + i) o t.tm t.h t.ds = some (t.v, (stAt tr fin (i + 1)).2.1, (stAt tr fin (i + 1)).2.2)) ∧ (t.g = false → t.v = undefV ∧ (stAt tr fin (i + 1)).2 = (t.h, t.ds))

theorem traceOps_spec (E : Env) (call : CallF) (fx : List Nat) (bs n : Nat) (ops : List Oper) : ∀ (l : List Oper) (k : Nat) (tm : T V) (h : Hp) (ds : DL) (tr : List Tr) (fin : T V × Hp × DL), traceOps E call n ops fx bs l k tm h ds = some (tr, fin) →
    TraceOk E call fx bs n ops l k tr fin ∧ stAt tr fin 0 = (tm, h, ds)
  | [], k, tm, h, ds, tr, fin, ht => by
    simp only [traceOps, Option.some.injEq, Prod.mk.injEq] at ht
    obtain ⟨rfl, rfl⟩ := ht
    exact ⟨⟨rfl, fun i o hi => by simp at hi⟩, rfl⟩
  | o :: l, k, tm, h, ds, tr, fin, ht => by
    simp only [traceOps] at ht
    cases hg : guardV ops tm o with
    | none => simp [hg] at ht
    | some g =>
      have fin_case : ∀ (v : V) (tm2 : T V) (h2 : Hp) (ds2 : DL) (tr2 : List Tr), traceOps E call n ops fx bs l (k + 1) tm2 h2 ds2 = some (tr2, fin) → putT n tm o.dst v = some tm2 →
          (g = true → oneOpF E call fx bs k o tm h ds = some (v, h2, ds2)) → (g = false → v = undefV ∧ (h2, ds2) = (h, ds)) → tr = { tm, h, ds, g, v } :: tr2 →
          TraceOk E call fx bs n ops (o :: l) k tr fin ∧ stAt tr fin 0 = (tm, h, ds) := by
        rintro v tm2 h2 ds2 tr2 ht2 hp h1 h0 rfl
        obtain ⟨⟨i1, i2⟩, i3⟩ := traceOps_spec E call fx bs n ops l (k + 1) tm2 h2 ds2 tr2 fin ht2
        have hs : ∀ i, stAt ({ tm, h, ds, g, v } :: tr2) fin (i + 1) = stAt tr2 fin i := fun i => by simp [stAt]
        refine ⟨⟨by simp [i1], fun i x hx => ?_⟩, rfl⟩
        cases i with
        | zero =>
          simp at hx; subst hx
          refine ⟨_, rfl, hg, ?_, ?_, ?_⟩
          · rw [hs, i3]; exact hp
          · intro hgt; rw [hs, i3]; exact h1 hgt
          · intro hgf; rw [hs, i3]; exact h0 hgf
        | succ i =>
          obtain ⟨t, a, b⟩ := i2 i x (by simpa using hx)
          refine ⟨t, by simpa using a, ?_⟩
          rw [hs, show k + (i + 1) = k + 1 + i by omega]
          exact b
      cases g with
      | true =>
        simp only [hg] at ht
        cases h1 : oneOpF E call fx bs k o tm h ds with
        | none => simp [h1] at ht
        | some q =>
          obtain ⟨v, h2, ds2⟩ := q
          simp only [h1] at ht
          cases hp : putT n tm o.dst v with
          | none => simp [hp] at ht
          | some tm2 =>
            simp only [hp] at ht
            cases h3 : traceOps E call n ops fx bs l (k + 1) tm2 h2 ds2 with
            | none => simp [h3] at ht
            | some r =>
              obtain ⟨tr2, fin2⟩ := r
              simp only [h3, Option.some.injEq, Prod.mk.injEq] at ht
              obtain ⟨e1, rfl⟩ := ht
              exact fin_case v tm2 h2 ds2 tr2 h3 hp (fun _ => h1) (by simp) e1.symm
      | false =>
        simp only [hg] at ht
        cases hp : putT n tm o.dst undefV with
        | none => simp [hp] at ht
        | some tm2 =>
          simp only [hp] at ht
          cases h3 : traceOps E call n ops fx bs l (k + 1) tm2 h ds with
          | none => simp [h3] at ht
          | some r =>
            obtain ⟨tr2, fin2⟩ := r
            simp only [h3, Option.some.injEq, Prod.mk.injEq] at ht
            obtain ⟨e1, rfl⟩ := ht
            exact fin_case undefV tm2 h ds tr2 h3 hp (by simp) (fun _ => ⟨rfl, rfl⟩) e1.symm

def dstAt (L : List Oper) (i : Nat) : Option Tmp := (L[i]?).bind (·.dst)
def vAt (tr : List Tr) (i : Nat) : V := match tr[i]? with | some t => t.v | none => undefV

/-- What the places hold where the steps in D (of the first m) have been taken. -/
def FD (F0 : Nat → V) (L : List Oper) (tr : List Tr) (D : Nat → Bool) : Nat → Nat → V
  | 0 => F0
  | m + 1 => fun t => if D m = true ∧ dstAt L m = some t then vAt tr m else FD F0 L tr D m t

theorem FD_congr {F0 : Nat → V} {L : List Oper} {tr : List Tr} {D D' : Nat → Bool} {t : Nat} : ∀ m, (∀ k, k < m → dstAt L k = some t → D k = D' k) → FD F0 L tr D m t = FD F0 L tr D' m t
  | 0, _ => rfl
  | m + 1, h => by
    simp only [FD]
    rw [FD_congr m (fun k hk => h k (by omega))]
    by_cases hd : dstAt L m = some t
    · rw [h m (by omega) hd]
    · simp [hd]

theorem FD_stop {F0 : Nat → V} {L : List Oper} {tr : List Tr} {D : Nat → Bool} {t i : Nat} (h : ∀ k, i ≤ k → dstAt L k = some t → D k = false) : ∀ d, FD F0 L tr D (i + d) t = FD F0 L tr D i t
  | 0 => rfl
  | d + 1 => by
    rw [show i + (d + 1) = (i + d) + 1 by omega]
    simp only [FD]
    rw [FD_stop h d]
    by_cases hd : dstAt L (i + d) = some t
    · rw [h _ (by omega) hd]; simp
    · simp [hd]

theorem FD_text {E : Env} {call : CallF} {fx : List Nat} {bs n : Nat} (hn : n ≤ 1000000) {L : List Oper} {tr : List Tr} {fin : T V × Hp × DL} (hT : TraceOk E call fx bs n L L 0 tr fin) : ∀ i, i ≤ L.length → getT (stAt tr fin i).1 = FD (getT (stAt tr fin 0).1) L tr (fun _ => true) i
  | 0, _ => rfl
  | i + 1, h => by
    have ih := FD_text hn hT i (by omega)
    obtain ⟨o, ho⟩ : ∃ o, L[i]? = some o := ⟨L[i], List.getElem?_eq_getElem (by omega)⟩
    obtain ⟨t, ht, _, hp, _⟩ := hT.step i o ho
    obtain ⟨e1, _⟩ := putT_ok hn hp
    have htm : t.tm = (stAt tr fin i).1 := by simp [stAt, ht]
    rw [e1, htm, ih]
    funext x
    simp only [FD, setF, dstAt, ho, Option.bind_some, vAt, ht, true_and]

theorem idxLoud_spec (E : Env) (fx : List Nat) : ∀ (l : List Oper) (k q : Nat), q ∈ idxLoud E fx l k ↔ ∃ j o, l[j]? = some o ∧ calmF E fx (k + j) o.op = false ∧ q = k + j
  | [], k, q => by simp [idxLoud]
  | o :: l, k, q => by
    have ih := idxLoud_spec E fx l (k + 1) q
    simp only [idxLoud]
    cases hq : calmF E fx k o.op with
    | true =>
      simp only []
      rw [ih]
      constructor
      · rintro ⟨j, x, h1, h2, h3⟩; exact ⟨j + 1, x, by simpa using h1, by rw [show k + (j + 1) = k + 1 + j by omega]; exact h2, by omega⟩
      · rintro ⟨j, x, h1, h2, h3⟩
        cases j with
        | zero => simp at h1; subst h1; rw [Nat.add_zero, hq] at h2; cases h2
        | succ j => exact ⟨j, x, by simpa using h1, by rw [show k + 1 + j = k + (j + 1) by omega]; exact h2, by omega⟩
    | false =>
      simp only [List.mem_cons]
      rw [ih]
      constructor
      · rintro (rfl | ⟨j, x, h1, h2, h3⟩)
        · exact ⟨0, o, rfl, hq, by omega⟩
        · exact ⟨j + 1, x, by simpa using h1, by rw [show k + (j + 1) = k + 1 + j by omega]; exact h2, by omega⟩
      · rintro ⟨j, x, h1, h2, h3⟩
        cases j with
        | zero => left; omega
        | succ j => right; exact ⟨j, x, by simpa using h1, by rw [show k + 1 + j = k + (j + 1) by omega]; exact h2, by omega⟩

theorem winOf_mem (la m : List Nat) (i p : Nat) (h1 : ∀ q ∈ la, q < p → bitAt m q i = false) (h2 : ∀ q ∈ la, p ≤ q → bitAt m i q = false) : ∀ (ps : List Nat), p ∈ ps → p ∈ winOf la m i ps
  | [], h => by simp at h
  | x :: ps, h => by
    simp only [winOf]
    have hc : p = x → ((la.filter fun q => Nat.blt q x).all (fun q => !(bitAt m q i)) && (la.filter fun q => Nat.ble x q).all (fun q => !(bitAt m i q))) = true := by
      rintro rfl
      rw [Bool.and_eq_true, List.all_eq_true, List.all_eq_true]
      constructor
      · intro q hq
        rw [List.mem_filter, Nat.blt_eq] at hq
        simp [h1 q hq.1 hq.2]
      · intro q hq
        rw [List.mem_filter] at hq
        simp [h2 q hq.1 (Nat.le_of_ble_eq_true hq.2)]
    by_cases e : p = x
    · rw [hc e]; simp [e]
    · have hp : p ∈ ps := by simpa [e] using h
      have := winOf_mem la m i p h1 h2 ps hp
      split
      · exact List.mem_cons_of_mem _ this
      · exact this

theorem winOk_spec {E : Env} {fx : List Nat} {bs : Nat} {tr : List Tr} {last : Hp} {la m : List Nat} {n : Nat} : ∀ (l : List Oper) (k : Nat), winOk E fx bs tr last la m n l k = true → ∀ j o t, l[j]? = some o → calmF E fx (k + j) o.op = true → looksF E fx (k + j) o.op = true → tr[k + j]? = some t → t.g = true →
    ∀ p ∈ winOf la m (k + j) (la ++ [n]), quietF E fx bs (k + j) o.op (opnd E.G t.tm) (heapsAt tr last p) = some t.v
  | [], k, _, j, o, t, h, _, _, _, _, p, _ => by simp at h
  | x :: l, k, hw, j, o, t, h, hq, hl, ht, hg, p, hp => by
    simp only [winOk] at hw
    cases j with
    | zero =>
      simp at h; subst h
      rw [Nat.add_zero] at ht hp hq hl
      simp only [hq, hl, Bool.and_self] at hw
      simp only [ht, hg] at hw
      split at hw
      · rename_i hall
        rw [List.all_eq_true] at hall
        have := hall p hp
        rw [Nat.add_zero]
        cases hv : quietF E fx bs k x.op (opnd E.G t.tm) (heapsAt tr last p) with
        | none => simp [hv] at this
        | some v => simp only [hv] at this; rw [vEq_eq _ _ this]
      · cases hw
    | succ j =>
      have hrest : winOk E fx bs tr last la m n l (k + 1) = true := by
        split at hw
        · exact hw
        · split at hw
          · cases hw
          · split at hw
            · exact hw
            · split at hw
              · exact hw
              · cases hw
      rw [show k + (j + 1) = k + 1 + j by omega] at ht hp hq hl ⊢
      exact winOk_spec l (k + 1) hrest j o t (by simpa using h) hq hl ht hg p hp
end Go.Bx
