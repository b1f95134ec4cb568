/- Templates of states. -/
import Derived.Test.YtmiebhjpdmokoaaGreatDoorBx23
set_option linter.all false
namespace Go.Bx
open Go.RowKit

structure Tpl where
  tm : List V
  heap : List (Nat × O)
  n : Nat

def treeOf {α : Type} : List (Nat × α) → T α → T α
  | [], t => t
  | (i, o) :: l, t => treeOf l (t.set 40 i o)

def Tpl.hp (p : Tpl) : Hp := ⟨treeOf p.heap .nil, p.n⟩
def Tpl.tms (p : Tpl) : T V := T.ofList p.tm

theorem p40 {n : Nat} (h : n ≤ 1000000001) : n + 1 < 2 ^ 40 := by
  have : (2 : Nat) ^ 40 = 1099511627776 := by decide
  omega

theorem treeOf_get {α : Type} : ∀ (l : List (Nat × α)) (t : T α) (x : Nat) (o : α), (∀ p ∈ l, p.1 ≤ 1000000001) → (treeOf l t).get x = some o → (x, o) ∈ l ∨ t.get x = some o
  | [], t, x, o, _, h => .inr h
  | (i, a) :: l, t, x, o, hb, h0 => by
    rw [treeOf] at h0
    rcases treeOf_get l _ x o (fun p hp => hb p (by simp [hp])) h0 with h1 | h1
    · exact .inl (by simp [h1])
    · rw [T.get_set a 40 t i x (p40 (hb (i, a) (by simp)))] at h1
      by_cases e : x = i
      · rw [if_pos e] at h1
        have e2 : a = o := Option.some.inj h1
        rw [e, ← e2]
        exact .inl (by simp)
      · rw [if_neg e] at h1
        exact .inr h1

def okE (R : List (SX × SX)) (s : List (Nat × SX)) (π : T Nat) : List (V × V × Nat) → List (V × V × Nat) → Bool
  | [], [] => true
  | (k, v, b) :: l, (k', v', b') :: l' => okV R s π k k' && okV R s π v v' && Nat.beq b b' && okE R s π l l'
  | _, _ => false

def okO (R : List (SX × SX)) (s : List (Nat × SX)) (π : T Nat) (a b : O) : Bool :=
  match b with
  | .dead => true
  | .cells d _ => match a with | .cells c _ => okVs R s π c d | _ => false
  | .ro d => match a with | .ro c => okVs R s π c d | _ => false
  | .map fs d => match a with | .map es c => okE R s π es fs && Nat.beq c d | _ => false
  | .iter y q => match a with | .iter x p => strBeq x y && Nat.beq p q | _ => false
  | .arr y => match a with | .arr x => SX.beq x (lookX (y.sb s) R) | _ => false
  | .xro u g => match a with | .xro t f => skBeq t u && Nat.beq f g | _ => false
  | .mit j => match a with | .mit i => viaB π j i | _ => false
  | .buf own k y m z => match a with | .buf own' k' x n z' => (match own with | true => own' | false => true) && kindBeq k k' && SX.beq x (lookX (y.sb s) R) && SX.beq n (lookX (m.sb s) R) && Nat.beq z z' | _ => false
  | .coll => false

section
variable {ρ ρ' : Valn} {s : List (Nat × SX)} (m : Moves ρ ρ' s) {R : List (SX × SX)} (hR : ∀ l r, (l, r) ∈ R → @SX.den ρ l = @SX.den ρ r) {π : T Nat} {σ : Sub}

theorem okVs_get : ∀ (c d : List V), okVs R s π c d = true → d.length = c.length ∧ ∀ (k : Nat) (v : V), d[k]? = some v → ∃ u, c[k]? = some u ∧ okV R s π u v = true
  | [], [], _ => ⟨rfl, fun k v h => by simp at h⟩
  | [], _ :: _, h => by simp [okVs] at h
  | _ :: _, [], h => by simp [okVs] at h
  | u :: c, v :: d, h => by
    simp only [okVs, Bool.and_eq_true] at h
    obtain ⟨h1, h2⟩ := okVs_get c d h.2
    refine ⟨by simp [h1], fun k x hk => ?_⟩
    cases k with
    | zero => simp at hk; subst hk; exact ⟨u, rfl, h.1⟩
    | succ k => simpa using h2 k x (by simpa using hk)

 include m hR
theorem okC_ok {c d : List V} (h : okVs R s π c d = true) {C : Array Value} {b : Nat} (hc : @CRel ρ σ c C b) : @CRel ρ' (σ.via π) d C b := by
  obtain ⟨h1, h2⟩ := okVs_get c d h
  refine ⟨by rw [h1]; exact hc.1, fun k v hk => ?_⟩
  obtain ⟨u, hu, huv⟩ := h2 k v hk
  obtain ⟨v', e, hr⟩ := hc.2 k u hu
  exact ⟨v', e, okV_ok m hR u v huv _ hr⟩

theorem okE_ok : ∀ (es fs : List (V × V × Nat)), okE R s π es fs = true → ∀ l, @ERels ρ σ es l → @ERels ρ' (σ.via π) fs l
  | [], [], _, l, h => by simpa only [ERels] using h
  | [], _ :: _, h, _, _ => by simp [okE] at h
  | _ :: _, [], h, _, _ => by simp [okE] at h
  | (k, v, b) :: es, (k', v', b') :: fs, h, l, hl => by
    simp only [okE, Bool.and_eq_true] at h
    obtain ⟨⟨⟨h1, h2⟩, h3⟩, h4⟩ := h
    simp only [ERels] at hl ⊢
    obtain ⟨x, y, r, e, hx, hy, hr⟩ := hl
    exact ⟨x, y, r, by rw [e, Nat.eq_of_beq_eq_true h3], okV_ok m hR _ _ h1 _ hx, okV_ok m hR _ _ h2 _ hy, okE_ok es fs h4 r hr⟩

theorem okO_ok {a b : O} (h : okO R s π a b = true) {B : Nat} {r : Ren} {w : World} (hr : @ORel ρ σ B r w a) : @ORel ρ' (σ.via π) B r w b := by
  cases b with
  | dead => trivial
  | coll => simp [okO] at h
  | cells d e =>
    cases a <;> simp only [okO] at h <;> first | (cases h; done) | skip
    obtain ⟨h0, C, e', F, h1, h2, h3, h4⟩ := hr
    exact ⟨h0, C, e', F, h1, h2, h3, okC_ok m hR h h4⟩
  | ro d =>
    cases a <;> simp only [okO] at h <;> first | (cases h; done) | skip
    obtain ⟨h0, C, e', F, h1, h2, h4⟩ := hr
    exact ⟨h0, C, e', F, h1, h2, okC_ok m hR h h4⟩
  | map fs d =>
    cases a <;> simp only [okO] at h <;> first | (cases h; done) | skip
    rw [Bool.and_eq_true] at h
    obtain ⟨h0, ES, h1, h2⟩ := hr
    rw [Nat.eq_of_beq_eq_true h.2] at h1
    exact ⟨h0, ES, h1, okE_ok m hR _ _ h.1 _ h2⟩
  | iter y q =>
    cases a <;> simp only [okO] at h <;> first | (cases h; done) | skip
    rw [Bool.and_eq_true, strBeq_eq, ← beq_toListBytes] at h
    obtain ⟨h0, h1, h2⟩ := hr
    rw [beq_str h.1, Nat.eq_of_beq_eq_true h.2] at h2
    exact ⟨h0, h1, h2⟩
  | arr y =>
    cases a <;> simp only [okO] at h <;> first | (cases h; done) | skip
    obtain ⟨h0, hb, C, e', F, h1, h2, h3, h4⟩ := hr
    exact ⟨h0, hb, C, e', F, h1, h2, h3, by rw [h4, beq_sb m hR h]⟩
  | xro u g =>
    cases a <;> simp only [okO] at h <;> first | (cases h; done) | skip
    rw [Bool.and_eq_true] at h
    obtain ⟨h0, C, e', F, h1, h2, h3⟩ := hr
    refine ⟨h0, C, e', F, h1, h2, fun k hk => ?_⟩
    rw [h3 k hk, skBeq_eq h.1, Nat.eq_of_beq_eq_true h.2]
    cases u <;> simp only [xe, SX.den, m.fn]
  | mit j =>
    cases a <;> simp only [okO] at h <;> first | (cases h; done) | skip
    obtain ⟨h0, hb, q, a1, a2, h1, h2⟩ := hr
    exact ⟨h0, hb, q, a1, a2, by rw [via_ok h]; exact h1, h2⟩
  | buf own k y mm z =>
    cases a <;> simp only [okO] at h <;> first | (cases h; done) | skip
    rename_i own' k' x n z'
    simp only [Bool.and_eq_true] at h
    obtain ⟨⟨⟨⟨q1, q2⟩, q3⟩, q4⟩, q5⟩ := h
    have q2 := kindBeq_eq q2
    have q5 := Nat.eq_of_beq_eq_true q5
    subst q2; subst q5
    obtain ⟨h0, C, e', F, N, h1, h2, h3, h4, h5, h6, h7⟩ := hr
    have ho : own = true → own' = true := fun h => by rw [h] at q1; exact q1
    refine ⟨fun h => h0 (ho h), C, e', F, N, h1, fun h => h2 (ho h), h3, by rw [beq_sb m hR q4]; exact h4, by rw [beq_sb m hR q3]; exact h5, h6, fun j v hj => ?_⟩
    rw [beq_sb m hR q3] at hj
    exact h7 j v hj
end

def okTms (R : List (SX × SX)) (s : List (Nat × SX)) (π : T Nat) (tm : T V) : List V → Nat → Bool
  | [], _ => true
  | v :: l, t => okV R s π (getT tm t) v && okTms R s π tm l (t + 1)

def okHeap (R : List (SX × SX)) (s : List (Nat × SX)) (π : T Nat) (h : Hp) (n : Nat) : List (Nat × O) → Bool
  | [] => true
  | (i, o) :: l =>
    Nat.blt i n &&
    (match o.isDead with
    | true => true
    | false => match π.get i with | some j => (match h.t.get j with | some o' => !o'.isDead && okO R s π o' o | none => false) | none => false) &&
    okHeap R s π h n l

def okInj (π : T Nat) : List (Nat × O) → Bool
  | [] => true
  | (i, _) :: l => (l.all fun p => Nat.beq i p.1 || (match π.get i, π.get p.1 with | some a, some b => !(Nat.beq a b) | _, _ => true)) && okInj π l

/-- Is a state an instance of a template? -/
def okSt (R : List (SX × SX)) (s : List (Nat × SX)) (πl : List (Nat × Nat)) (G nt : Nat) (p : Tpl) (tm : T V) (h : Hp) : Bool :=
  okTms R s (treeOf πl .nil) tm p.tm 0 && okHeap R s (treeOf πl .nil) h p.n p.heap && okInj (treeOf πl .nil) p.heap && (πl.all fun q => Nat.blt q.1 p.n) && ((List.range G).all fun g => viaB (treeOf πl .nil) g g) && Nat.beq p.tm.length nt && Nat.ble p.n 1000000001 && Nat.ble nt 1000000

section
variable {ρ ρ' : Valn} {s : List (Nat × SX)} (m : Moves ρ ρ' s) {R : List (SX × SX)} (hR : ∀ l r, (l, r) ∈ R → @SX.den ρ l = @SX.den ρ r) {π : T Nat} {σ : Sub}

theorem okTms_get {tm : T V} : ∀ (l : List V) (t : Nat), okTms R s π tm l t = true → ∀ k v, l[k]? = some v → okV R s π (getT tm (t + k)) v = true
  | [], _, _, k, v, h => by simp at h
  | x :: l, t, h, k, v, hk => by
    simp only [okTms, Bool.and_eq_true] at h
    cases k with
    | zero => simp at hk; subst hk; exact h.1
    | succ k =>
      have := okTms_get l (t + 1) h.2 k v (by simpa using hk)
      rwa [show t + (k + 1) = t + 1 + k by omega]

theorem okHeap_get {h : Hp} {n : Nat} : ∀ (l : List (Nat × O)), okHeap R s π h n l = true → ∀ i o, (i, o) ∈ l → i < n ∧ (o.isDead = false → ∃ j o', π.get i = some j ∧ h.t.get j = some o' ∧ o'.isDead = false ∧ okO R s π o' o = true)
  | [], _, i, o, hm => by simp at hm
  | (j, x) :: l, hk, i, o, hm => by
    simp only [okHeap, Bool.and_eq_true] at hk
    obtain ⟨⟨h1, h2⟩, h3⟩ := hk
    rcases List.mem_cons.1 hm with e | hm
    · cases e
      refine ⟨by rw [Nat.blt_eq] at h1; exact h1, fun hd => ?_⟩
      rw [hd] at h2
      simp only at h2
      split at h2
      · rename_i j hj
        split at h2
        · rename_i o' ho
          rw [Bool.and_eq_true, Bool.not_eq_true'] at h2
          exact ⟨j, o', hj, ho, h2.1, h2.2⟩
        · cases h2
      · cases h2
    · exact okHeap_get l h3 i o hm

theorem okInj_get : ∀ (l : List (Nat × O)), okInj π l = true → ∀ i o j o' a, (i, o) ∈ l → (j, o') ∈ l → π.get i = some a → π.get j = some a → i = j
  | [], _, i, o, j, o', a, h, _, _, _ => by simp at h
  | (k, x) :: l, hk, i, o, j, o', a, hi, hj, ha, hb => by
    simp only [okInj, Bool.and_eq_true, List.all_eq_true] at hk
    have one : ∀ i' o'', (i', o'') ∈ l → π.get k = some a → π.get i' = some a → k = i' := by
      intro i' o'' hm e1 e2
      have := hk.1 _ hm
      simp only [e1, e2] at this
      rw [Bool.or_eq_true] at this
      rcases this with h | h
      · exact Nat.eq_of_beq_eq_true h
      · rw [Nat.beq_refl] at h; cases h
    rcases List.mem_cons.1 hi with e | hi'
    · cases e
      rcases List.mem_cons.1 hj with e | hj'
      · cases e; rfl
      · exact one _ _ hj' ha hb
    · rcases List.mem_cons.1 hj with e | hj'
      · cases e; exact (one _ _ hi' hb ha).symm
      · exact okInj_get l hk.2 i o j o' a hi' hj' ha hb

 include m hR
theorem okSt_ok {πl : List (Nat × Nat)} {G nt : Nat} {p : Tpl} {tm : T V} {h : Hp} (hc : okSt R s πl G nt p tm h = true) {w0 : Base} (hU : ∀ i, w0.U i = false) {B : Nat} {a : Act} {w : World}
    (hS : @SRel ρ nt G w0 B σ (getT tm) h [] a w) : @SRel ρ' nt G w0 B (σ.via (treeOf πl .nil)) (getT p.tms) p.hp [] a w := by
  obtain ⟨sz, stm, hH, sds⟩ := hS
  obtain ⟨hbelow, hkeep, hBsize, hnb, hdom, hglob, hobj, hunb, hrel, hinj⟩ := hH
  simp only [okSt, Bool.and_eq_true] at hc
  obtain ⟨⟨⟨⟨⟨⟨⟨c1, c2⟩, c3⟩, c4⟩, c5⟩, c6⟩, c7⟩, c8⟩ := hc
  have c6 := Nat.eq_of_beq_eq_true c6
  have c7 := Nat.le_of_ble_eq_true c7
  have c8 := Nat.le_of_ble_eq_true c8
  rw [List.all_eq_true] at c4 c5
  have hlt : ∀ i o, (i, o) ∈ p.heap → i < p.n := fun i o hm => (okHeap_get p.heap c2 i o hm).1
  have hπ : ∀ i j, (treeOf πl .nil).get i = some j → i < p.n := by
    intro i j hij
    have hb : ∀ q ∈ πl, q.1 ≤ 1000000001 := fun q hq => by have := c4 q hq; rw [Nat.blt_eq] at this; omega
    rcases treeOf_get πl .nil i j hb hij with hm | hm
    · have := c4 _ hm; rw [Nat.blt_eq] at this; exact this
    · cases hm
  have hget : ∀ i o, p.hp.t.get i = some o → (i, o) ∈ p.heap := by
    intro i o hio
    rcases treeOf_get p.heap .nil i o (fun q hq => by have := hlt q.1 q.2 hq; omega) hio with hm | hm
    · exact hm
    · cases hm
  refine ⟨sz, fun t => ?_, ?_, ?_⟩
  · by_cases ht : t < p.tm.length
    · obtain ⟨v, hv⟩ : ∃ v, p.tm[t]? = some v := ⟨_, List.getElem?_eq_getElem ht⟩
      have h1 := okTms_get p.tm 0 c1 t v hv
      rw [Nat.zero_add] at h1
      have h2 : getT p.tms t = v := by
        have : (p.tms).get t = some v := by
          unfold Tpl.tms T.ofList
          rw [@T.get_ofListFrom ρ _ p.tm 0 .nil t (by omega), if_pos ⟨Nat.zero_le _, by omega⟩, Nat.sub_zero, hv]
        exact @getT_get ρ _ _ _ this
      rw [h2]
      exact okV_ok m hR _ v h1 _ (stm t)
    · have h2 : getT p.tms t = undefV := by
        unfold getT Tpl.tms T.ofList
        rw [@T.get_ofListFrom ρ _ p.tm 0 .nil t (by omega), if_neg (by omega)]
        rfl
      have h3 : a.tmps.getD t undef = undef := by
        rw [Array.getD_eq_getD_getElem?, Array.getElem?_eq_none (by rw [sz]; omega)]; rfl
      rw [h2, h3]
      exact @VRel.undef ρ' _
  · refine ⟨hbelow, hkeep, hBsize, c7, fun i r hi => ?_, fun g hg => ?_, fun i o hio => hlt i o (hget i o hio), fun i hi => ?_, fun i o hio hd r hr => ?_, fun i j o o' r r' hi hj hd hd' hr hr' hb => ?_⟩
    · unfold Sub.via at hi
      split at hi
      · rename_i j hj; exact hπ i j hj
      · cases hi
    · have := c5 g (List.mem_range.2 hg)
      rw [via_ok this]
      exact hglob g hg
    · rw [hU] at hi; cases hi
    · obtain ⟨_, h2⟩ := okHeap_get p.heap c2 i o (hget i o hio)
      obtain ⟨j, o', hj, ho', hd', hok⟩ := h2 hd
      have hrj : σ j = some r := by simpa only [Sub.via, hj] using hr
      exact okO_ok m hR hok (hrel j o' ho' hd' r hrj)
    · obtain ⟨_, h2⟩ := okHeap_get p.heap c2 i o (hget i o hi)
      obtain ⟨x, ox, hx, hox, hdx, _⟩ := h2 hd
      obtain ⟨_, h3⟩ := okHeap_get p.heap c2 j o' (hget j o' hj)
      obtain ⟨y, oy, hy, hoy, hdy, _⟩ := h3 hd'
      have hrx : σ x = some r := by simpa only [Sub.via, hx] using hr
      have hry : σ y = some r' := by simpa only [Sub.via, hy] using hr'
      have hxy := hinj x y ox oy r r' hox hoy hdx hdy hrx hry hb
      subst hxy
      exact okInj_get p.heap c3 i o j o' x (hget i o hi) (hget j o' hj) hx hy
  · simpa only [DRel] using sds
end
end Go.Bx
