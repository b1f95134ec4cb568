/- A region that draws its order, whatever order it draws. -/
import Derived.Test.YtmiebhjpdmokoaaGreatDoorBx16f
set_option linter.all false
namespace Go.Bx
open Go.RowKit
variable [Valn]

def loudAt (E : Env) (fx : List Nat) (L : List Oper) (q : Nat) : Prop := ∃ o, L[q]? = some o ∧ calmF E fx q o.op = false

theorem nextLoud (E : Env) (fx : List Nat) (L : List Oper) : ∀ (d a : Nat), a + d = L.length → ∃ p, a ≤ p ∧ p ≤ L.length ∧ (p < L.length → loudAt E fx L p) ∧ ∀ q, a ≤ q → q < p → ¬ loudAt E fx L q
  | 0, a, h => ⟨a, Nat.le_refl _, by omega, by omega, fun q h1 h2 => by omega⟩
  | d + 1, a, h => by
    by_cases hl : loudAt E fx L a
    · exact ⟨a, Nat.le_refl _, by omega, fun _ => hl, fun q h1 h2 => by omega⟩
    · obtain ⟨p, h1, h2, h3, h4⟩ := nextLoud E fx L d (a + 1) (by omega)
      refine ⟨p, by omega, h2, h3, fun q hq hqp => ?_⟩
      by_cases e : q = a
      · subst e; exact hl
      · exact h4 q (by omega) hqp

/-- How many steps are not taken yet. -/
def cntF (D : Nat → Bool) : Nat → Nat
  | 0 => 0
  | m + 1 => cntF D m + if D m = true then 0 else 1

theorem cntF_congr {D D' : Nat → Bool} : ∀ m, (∀ k, k < m → D k = D' k) → cntF D m = cntF D' m
  | 0, _ => rfl
  | m + 1, h => by simp only [cntF]; rw [cntF_congr m (fun k hk => h k (by omega)), h m (by omega)]

theorem cntF_set {D D' : Nat → Bool} {i : Nat} (hi : D i = false) (h1 : D' i = true) (h2 : ∀ k, k ≠ i → D' k = D k) : ∀ m, i < m → cntF D' m + 1 = cntF D m
  | 0, h => by omega
  | m + 1, h => by
    simp only [cntF]
    by_cases e : i = m
    · subst e
      rw [cntF_congr i (fun k hk => h2 k (by omega)), hi, h1]
      simp
    · have := cntF_set hi h1 h2 m (by omega)
      rw [h2 m (fun e' => e e'.symm)]
      omega

theorem cntF_zero {D : Nat → Bool} : ∀ m, cntF D m = 0 → ∀ k, k < m → D k = true
  | 0, _, k, hk => by omega
  | m + 1, h, k, hk => by
    simp only [cntF] at h
    by_cases hd : D m = true
    · by_cases e : k = m
      · subst e; exact hd
      · exact cntF_zero m (by omega) k (by omega)
    · rw [if_neg hd] at h; omega

theorem binds_any (e : Edge) : Region.binds .any e = bindsAny e := by
  unfold Region.binds bindsAny
  cases e.ground <;> rfl

section
variable {P : Program} {E : Env} (hE : EnvOk P E) {ro : Option Nat} (hnd : E.nd = false → ro = none) {call : CallF} (hc : CallOk P E.G call) {n : Nat} (hn : n ≤ 1000000) {w0 : Base} {B : Nat}
  {ops : Array Oper} {fx : List Nat} {bs : Nat} (hR : RegOk E fx ops.toList) {tr : List Tr} {fin : T V × Hp × DL} (hT : TraceOk E call fx bs n ops.toList ops.toList 0 tr fin)
  (hW : winOk E fx bs tr fin.2.1 (idxLoud E fx ops.toList 0) (masks ops.toList []) ops.toList.length ops.toList 0 = true) (hX : ∀ j b, flAt fx bs j = some b → w0.U b = false) {Q : Exit → Act → World → Prop}

/-- What holds wherever the drawn order has come. -/
structure Inv (n : Nat) (E : Env) (fx : List Nat) (bs : Nat) (w0 : Base) (B : Nat) (ops : Array Oper) (tr : List Tr) (fin : T V × Hp × DL) (D : Array Bool) (p : Nat) (σ : Sub) (a : Act) (w : World) : Prop where
  size : D.size = ops.size
  closed : ∀ j, D.getD j false = true → EdgesIn ops.toList (fun k => D.getD k false) j
  pn : p ≤ ops.toList.length
  pl : p < ops.toList.length → loudAt E fx ops.toList p ∧ D.getD p false = false
  pd : ∀ q, q < p → loudAt E fx ops.toList q → D.getD q false = true
  st : SRel n E.G (baseF w0 fx bs ops.toList.length fun k => D.getD k false) B σ (FD (getT (stAt tr fin 0).1) ops.toList tr (fun k => D.getD k false) ops.toList.length) (stAt tr fin p).2.1 (stAt tr fin p).2.2 a w

 include hT in
theorem quiet_span {a : Nat} : ∀ d, a + d ≤ ops.toList.length → (∀ q, a ≤ q → q < a + d → ¬ loudAt E fx ops.toList q) → (stAt tr fin (a + d)).2 = (stAt tr fin a).2
  | 0, _, _ => rfl
  | d + 1, h, hq => by
    rw [← quiet_span d (by omega) (fun q h1 h2 => hq q h1 (by omega))]
    obtain ⟨o, ho⟩ : ∃ o, ops.toList[a + d]? = some o := ⟨ops.toList[a + d], List.getElem?_eq_getElem (by omega)⟩
    have hquiet : calmF E fx (a + d) o.op = true := by
      cases hb : calmF E fx (a + d) o.op with
      | true => rfl
      | false => exact absurd ⟨o, ho, hb⟩ (hq (a + d) (by omega) (by omega))
    obtain ⟨t, ht, _, _, h1, h0⟩ := hT.step _ o ho
    have hst : stAt tr fin (a + d) = (t.tm, t.h, t.ds) := by simp [stAt, ht]
    rw [show a + (d + 1) = a + d + 1 by omega, hst]
    cases hg : t.g with
    | false => exact (h0 hg).2
    | true =>
      have := h1 hg
      unfold oneOpF at this
      rw [Nat.zero_add] at this
      simp only [hquiet] at this
      cases hv : quietF E fx bs (a + d) o.op (opnd E.G t.tm) t.h with
      | none => simp [hv] at this
      | some v =>
        simp only [hv, Option.some.injEq, Prod.mk.injEq] at this
        obtain ⟨_, e1, e2⟩ := this
        exact Prod.ext e1.symm e2.symm

 include hE hnd hc hn hR hT hW hX

theorem draw_step {D : Array Bool} {p : Nat} {σ : Sub} {a : Act} {w : World} (hI : Inv n E fx bs w0 B ops tr fin D p σ a w) {i : Nat} (hi : i < ops.size) (hDi : D.getD i false = false)
    (hready : EdgesIn ops.toList (fun k => D.getD k false) i) {K : Act → World → Prop}
    (hK : ∀ (p' : Nat) (τ : Sub) (a' : Act) (w' : World), σ.le τ → Inv n E fx bs w0 B ops tr fin (D.setIfInBounds i true) p' τ a' w' → K a' w') : wpOpIn (fw ro) 0 P ops Q i K a w := by
  have hlen : ops.toList.length = ops.size := by simp
  obtain ⟨o, ho⟩ : ∃ o, ops.toList[i]? = some o := ⟨ops.toList[i], List.getElem?_eq_getElem (by omega)⟩
  have ho' : ops[i]? = some o := by simpa using ho
  obtain ⟨t, ht, hg, hput, hg1, hg0⟩ := hT.step i o ho
  obtain ⟨hput1, hput2⟩ := putT_ok hn hput
  have hsti : stAt tr fin i = (t.tm, t.h, t.ds) := by simp [stAt, ht]
  let Df : Nat → Bool := fun k => D.getD k false
  have hclosed : ∀ j, Df j = true → EdgesIn ops.toList Df j := hI.closed
  have mc := mask_closed hR.back hclosed
  -- who writes a place that this one names
  have writers : ∀ x, x ∈ namesOf ops.toList o → ∀ k, k < ops.toList.length → dstAt ops.toList k = some x → Df k = decide (k < i) := by
    intro x hx k hk hd
    obtain ⟨b, hb⟩ : ∃ b, ops.toList[k]? = some b := ⟨ops.toList[k], List.getElem?_eq_getElem hk⟩
    have hbd : b.dst = some x := by simpa [dstAt, hb] using hd
    rcases Nat.lt_trichotomy k i with hlt | heq | hgt
    · have hp := hR.pair k i b o hlt hb ho
      unfold pairOk at hp
      have hno : dstFree b.dst (namesOf ops.toList o) = false := by rw [hbd]; simp [dstFree, hx]
      rw [hno] at hp
      simp only [Bool.false_and, Bool.or_false] at hp
      have := mc i k hready hp
      rw [this]; simp [hlt]
    · subst heq; rw [show Df k = false from hDi]; simp
    · have hp := hR.pair i k o b hgt ho hb
      unfold pairOk at hp
      have hno : dstFree b.dst (namesOf ops.toList o) = false := by rw [hbd]; simp [dstFree, hx]
      rw [hno] at hp
      simp only [Bool.and_false, Bool.false_and, Bool.or_false] at hp
      cases hDk : Df k with
      | false => simp; omega
      | true =>
        have := mc k i (hclosed k hDk) hp
        rw [show Df i = false from hDi] at this; cases this
  have names_val : ∀ x, x ∈ namesOf ops.toList o → FD (getT (stAt tr fin 0).1) ops.toList tr Df ops.toList.length x = getT t.tm x := by
    intro x hx
    have htext := FD_text hn hT i (by omega)
    rw [show t.tm = (stAt tr fin i).1 by rw [hsti], htext]
    rw [FD_congr (D' := fun k => decide (k < i)) _ (fun k hk hd => writers x hx k hk hd)]
    obtain ⟨d, hd⟩ : ∃ d, ops.toList.length = i + d := ⟨ops.toList.length - i, by omega⟩
    rw [hd, FD_stop (fun k hk _ => by simp; omega) d]
    exact FD_congr i (fun k hk _ => by simp [hk])
  -- the new set of steps
  have hD1 : ∀ k, (D.setIfInBounds i true).getD k false = if k = i then true else Df k := by
    intro k
    simp only [Array.getD_eq_getD_getElem?]
    by_cases e : k = i
    · subst e
      have : k < D.size := by rw [hI.size]; exact hi
      simp [this]
    · rw [Array.getElem?_setIfInBounds_ne (fun h => e h.symm)]
      simp [e, Df, Array.getD_eq_getD_getElem?]
  have FD_new : ∀ v, vAt tr i = v → FD (getT (stAt tr fin 0).1) ops.toList tr (fun k => (D.setIfInBounds i true).getD k false) ops.toList.length = setF (FD (getT (stAt tr fin 0).1) ops.toList tr Df ops.toList.length) o.dst v := by
    intro v hv
    funext x
    simp only [setF]
    by_cases hx : o.dst = some x
    · rw [if_pos hx]
      have hxn : x ∈ namesOf ops.toList o := by unfold namesOf; rw [hx]; simp
      obtain ⟨d, hd⟩ : ∃ d, ops.toList.length = (i + 1) + d := ⟨ops.toList.length - (i + 1), by omega⟩
      rw [hd, FD_stop (i := i + 1) (fun k hk hdk => ?_) d]
      · simp only [FD]
        rw [if_pos ⟨by rw [hD1]; simp, by simp [dstAt, ho, hx]⟩]
        exact hv
      · rw [hD1, if_neg (by omega)]
        by_cases hkl : k < ops.toList.length
        · rw [writers x hxn k hkl hdk]; simp; omega
        · exfalso; unfold dstAt at hdk; rw [List.getElem?_eq_none (by omega)] at hdk; cases hdk
    · rw [if_neg hx]
      refine FD_congr _ (fun k hk hdk => ?_)
      rw [hD1, if_neg]
      rintro rfl
      apply hx
      simpa [dstAt, ho] using hdk
  have closed1 : ∀ j, (D.setIfInBounds i true).getD j false = true → EdgesIn ops.toList (fun k => (D.setIfInBounds i true).getD k false) j := by
    intro j hj x hx e he hb
    have up : ∀ k, Df k = true → (D.setIfInBounds i true).getD k false = true := by
      intro k hk; rw [hD1]; split
      · rfl
      · exact hk
    rw [hD1] at hj
    split at hj
    · rename_i e1; subst e1; exact up _ (hready x hx e he hb)
    · exact up _ (hclosed j hj x hx e he hb)
  have hvt : vAt tr i = t.v := by simp [vAt, ht]
  have shrink : ∀ k, (baseF w0 fx bs ops.toList.length fun k => (D.setIfInBounds i true).getD k false).U k = true → (baseF w0 fx bs ops.toList.length Df).U k = true := by
    intro k hk
    rw [baseF_U] at hk ⊢
    rcases hk with hk | ⟨j, h1, h2, h3⟩
    · exact .inl hk
    · refine .inr ⟨j, h1, h2, ?_⟩
      rw [hD1] at h3
      split at h3
      · cases h3
      · exact h3
  -- the operands
  have hrel : ∀ x, x ∈ namesOf ops.toList o → VRel σ (getT t.tm x) (a.tmps.getD x undef) := fun x hx => by rw [← names_val x hx]; exact hI.st.tm x
  have hρ : ∀ x ∈ o.op.operands, VRel σ (opnd E.G t.tm x) (a.eval x) := by
    intro x hx
    cases x with
    | tmp y =>
      refine hrel y ?_
      unfold namesOf
      rw [List.mem_append, List.mem_append]
      left; right
      rw [List.mem_filterMap]
      exact ⟨.tmp y, by simpa using hx, rfl⟩
    | const v => exact VRel.ofVal σ v
    | func f => simp [opnd, Act.eval, VRel, VRels]
    | global g =>
      simp only [opnd, Act.eval]
      cases hb : Nat.blt g E.G with
      | false => simp [VRel]
      | true =>
        have : g < E.G := by rw [Nat.blt_eq] at hb; exact hb
        obtain ⟨r, h1, h2, h3⟩ := hI.st.heap.glob g this
        simp only [VRel]
        exact ⟨r, h1, by simp [h2, h3]⟩
  have hwant : Region.wanted o (yielded ops a.tmps) = t.g := by
    refine guardV_ok hg (a := a) (σ := σ) (fun g want x hog hdx => hrel x ?_)
    unfold namesOf
    rw [List.mem_append]
    right
    rw [hog]
    have : ops.toList[g]? = ops[g]? := by simp
    simp only [this]
    cases hg2 : ops[g]? with
    | none => rw [hg2] at hdx; cases hdx
    | some y =>
      rw [hg2] at hdx
      simp only [Option.bind_some] at hdx
      simp [hdx]
  -- the frontier, where a loud one is taken
  have loud_here : calmF E fx i o.op = false → p = i ∧ ∀ (τ : Sub) (a' : Act) (w' : World), SRel n E.G (baseF w0 fx bs ops.toList.length Df) B τ (FD (getT (stAt tr fin 0).1) ops.toList tr (fun k => (D.setIfInBounds i true).getD k false) ops.toList.length) (stAt tr fin (i + 1)).2.1 (stAt tr fin (i + 1)).2.2 a' w' →
      ∃ p', Inv n E fx bs w0 B ops tr fin (D.setIfInBounds i true) p' τ a' w' := by
    intro hl
    have hli : loudAt E fx ops.toList i := ⟨o, ho, hl⟩
    have both : ∀ q b, ops.toList[q]? = some b → calmF E fx q b.op = false → (q < i → Df q = true) ∧ (i < q → Df q = false) := by
      intro q b hb hbl
      constructor
      · intro hlt
        have hp := hR.pair q i b o hlt hb ho
        unfold pairOk at hp
        simp only [hbl, hl, Bool.or_self, Bool.and_false, Bool.or_false] at hp
        exact mc i q hready hp
      · intro hlt
        have hp := hR.pair i q o b hlt ho hb
        unfold pairOk at hp
        simp only [hbl, hl, Bool.or_self, Bool.and_false, Bool.or_false] at hp
        cases hDq : Df q with
        | false => rfl
        | true =>
          have := mc q i (hclosed q hDq) hp
          rw [show Df i = false from hDi] at this; cases this
    have hpi : p = i := by
      rcases Nat.lt_trichotomy p i with hlt | heq | hgt
      · obtain ⟨⟨b, hb, hbl⟩, hDp⟩ := hI.pl (by omega)
        have := (both p b hb hbl).1 hlt
        rw [show Df p = false from hDp] at this; cases this
      · exact heq
      · have := hI.pd i hgt hli
        rw [show D.getD i false = false from hDi] at this; cases this
    refine ⟨hpi, fun τ a' w' hS => ?_⟩
    obtain ⟨p', q1, q2, q3, q4⟩ := nextLoud E fx ops.toList (ops.toList.length - (i + 1)) (i + 1) (by omega)
    have hspan : (stAt tr fin p').2 = (stAt tr fin (i + 1)).2 := by
      obtain ⟨d, rfl⟩ : ∃ d, p' = (i + 1) + d := ⟨p' - (i + 1), by omega⟩
      exact quiet_span hT d q2 q4
    refine ⟨p', by simpa using hI.size, closed1, q2, fun hlt => ⟨q3 hlt, ?_⟩, fun q hq hql => ?_, by rw [hspan]; exact hS.weaken rfl shrink⟩
    · obtain ⟨b, hb, hbl⟩ := q3 hlt
      rw [hD1, if_neg (by omega)]
      exact (both p' b hb hbl).2 (by omega)
    · rw [hD1]
      by_cases e : q = i
      · rw [if_pos e]
      · rw [if_neg e]
        obtain ⟨b, hb, hbl⟩ := hql
        rcases Nat.lt_or_gt_of_ne e with hlt | hgt
        · exact (both q b hb hbl).1 hlt
        · exact absurd ⟨b, hb, hbl⟩ (q4 q (by omega) hq)
  have quiet_here : calmF E fx i o.op = true → ∀ (τ : Sub) (a' : Act) (w' : World), SRel n E.G (baseF w0 fx bs ops.toList.length fun k => (D.setIfInBounds i true).getD k false) B τ (FD (getT (stAt tr fin 0).1) ops.toList tr (fun k => (D.setIfInBounds i true).getD k false) ops.toList.length) (stAt tr fin p).2.1 (stAt tr fin p).2.2 a' w' →
      Inv n E fx bs w0 B ops tr fin (D.setIfInBounds i true) p τ a' w' := by
    intro hq τ a' w' hS
    have hne : ∀ q, loudAt E fx ops.toList q → q ≠ i := by
      rintro q ⟨b, hb, hbl⟩ rfl
      rw [ho] at hb; cases hb; rw [hq] at hbl; cases hbl
    refine ⟨by simpa using hI.size, closed1, hI.pn, fun hlt => ⟨(hI.pl hlt).1, ?_⟩, fun q hq hql => ?_, hS⟩
    · rw [hD1, if_neg (hne p (hI.pl hlt).1)]; exact (hI.pl hlt).2
    · rw [hD1, if_neg (hne q hql)]; exact hI.pd q hq hql
  unfold wpOpIn
  rw [ho']
  simp only [hwant]
  cases htg : t.g with
  | true =>
    simp only [if_true]
    have hone := hg1 htg
    unfold oneOpF at hone
    rw [Nat.zero_add] at hone
    cases hq : calmF E fx i o.op with
    | true =>
      simp only [hq] at hone
      cases hv : quietF E fx bs i o.op (opnd E.G t.tm) t.h with
      | none => simp [hv] at hone
      | some v =>
        simp only [hv, Option.some.injEq, Prod.mk.injEq] at hone
        obtain ⟨rfl, _, _⟩ := hone
        have hval : quietF E fx bs i o.op (opnd E.G t.tm) (stAt tr fin p).2.1 = some t.v := by
          cases hlk : looksF E fx i o.op with
          | false =>
            have hfn : flAt fx 0 i = none := by
              unfold looksF at hlk
              split at hlk
              · cases hlk
              · rename_i h0; exact h0
            have hfb := flAt_none fx 0 bs i hfn
            rw [← hv]
            unfold looksF at hlk
            unfold quietF
            simp only [hfn, hfb] at hlk ⊢
            exact quiet_blind E o.op _ _ _ hlk
          | true =>
            have hmem : p ∈ winOf (idxLoud E fx ops.toList 0) (masks ops.toList []) (0 + i) (idxLoud E fx ops.toList 0 ++ [ops.toList.length]) := by
              rw [Nat.zero_add]
              refine winOf_mem _ _ _ _ (fun q hq hlt => ?_) (fun q hq hle => ?_) _ ?_
              · obtain ⟨j, b, hb, hbl, rfl⟩ := (idxLoud_spec E _ _ _ _).1 hq
                rw [Nat.zero_add] at hlt hbl ⊢
                cases hbit : bitAt (masks ops.toList []) j i with
                | false => rfl
                | true =>
                  have h1 := hI.pd j hlt ⟨b, hb, hbl⟩
                  have := mc j i (hclosed j h1) hbit
                  rw [show Df i = false from hDi] at this; cases this
              · obtain ⟨j, b, hb, hbl, rfl⟩ := (idxLoud_spec E _ _ _ _).1 hq
                rw [Nat.zero_add] at hle hbl ⊢
                cases hbit : bitAt (masks ops.toList []) i j with
                | false => rfl
                | true =>
                  have h1 := mc i j hready hbit
                  have hjl : j < ops.toList.length := (List.getElem?_eq_some_iff.1 hb).1
                  obtain ⟨⟨b2, hb2, hbl2⟩, hDp⟩ := hI.pl (by omega)
                  by_cases e : j = p
                  · subst e; rw [show Df j = false from hDp] at h1; cases h1
                  · have hp := hR.pair p j b2 b (by omega) hb2 hb
                    unfold pairOk at hp
                    simp only [hbl, hbl2, Bool.or_self, Bool.and_false, Bool.or_false] at hp
                    have := mc j p (hclosed j h1) hp
                    rw [show Df p = false from hDp] at this; cases this
              · rw [List.mem_append]
                by_cases e : p < ops.toList.length
                · left
                  obtain ⟨⟨b, hb, hbl⟩, _⟩ := hI.pl e
                  rw [idxLoud_spec]
                  exact ⟨p, b, hb, by rw [Nat.zero_add]; exact hbl, by omega⟩
                · right
                  have := hI.pn
                  simp only [List.mem_singleton]; omega
            have := winOk_spec ops.toList 0 hW i o t ho (by rw [Nat.zero_add]; exact hq) (by rw [Nat.zero_add]; exact hlk) (by rw [Nat.zero_add]; exact ht) htg p hmem
            rw [Nat.zero_add] at this
            have hh : heapsAt tr fin.2.1 p = (stAt tr fin p).2.1 := by
              unfold heapsAt stAt
              cases tr[p]? <;> rfl
            rw [hh] at this
            exact this
        cases hfl : flAt fx bs i with
        | none =>
          unfold quietF at hval
          simp only [hfl] at hval
          refine quiet_wp hE hI.st.heap hρ hval (fun v' hv' => ?_)
          obtain ⟨p1, p2⟩ := put_rel hI.st.size hI.st.tm hput2 hv'
          exact hK p σ _ w (Sub.le_refl _) (quiet_here hq σ _ w ⟨p1, by rw [FD_new _ hvt]; exact p2, hI.st.heap.weaken rfl shrink, by cases hdd : o.dst <;> simpa [Act.put, hdd, baseF_w] using hI.st.ds⟩)
        | some b =>
          unfold quietF at hval
          simp only [hfl] at hval
          have hUb : (baseF w0 fx bs ops.toList.length Df).U b = true := by
            rw [baseF_U]
            exact .inr ⟨i, by omega, hfl, hDi⟩
          refine float_wp (P := P) hE hI.st.heap hρ hUb hval (fun τ v' w' hle hH' hv' => ?_)
          obtain ⟨p1, p2⟩ := put_rel hI.st.size (fun x => VRel.mono hle _ _ (hI.st.tm x)) hput2 hv'
          refine hK p τ _ w' hle (quiet_here hq τ _ w' ⟨p1, by rw [FD_new _ hvt]; exact p2, hH'.weaken rfl (fun k hk => ?_), by cases hdd : o.dst <;> simpa [Act.put, hdd, baseF_w] using DRel.mono hle _ _ hI.st.ds⟩)
          have h1 := shrink k hk
          show ((baseF w0 fx bs ops.toList.length Df).U k && !(Nat.beq k b)) = true
          rw [h1, Bool.true_and]
          cases hkb : Nat.beq k b with
          | false => rfl
          | true =>
            have := Nat.eq_of_beq_eq_true hkb
            subst this
            rw [baseF_U] at hk
            rcases hk with hk | ⟨j, _, h2, h3⟩
            · rw [hX i k hfl] at hk; cases hk
            · have := flAt_inj fx bs j i k h2 hfl
              subst this
              rw [hD1] at h3; simp at h3
    | false =>
      simp only [hq] at hone
      obtain ⟨rfl, hfin⟩ := loud_here hq
      have hh := hI.st.heap
      have hd := hI.st.ds
      rw [hsti] at hh hd
      refine oneLoud_wp hE hnd hc hh hρ hd hone (fun τ v' w' a' hle hH' hv' hD' hta => ?_)
      obtain ⟨p1, p2⟩ := put_rel (a := a') (by rw [hta]; exact hI.st.size) (fun x => by rw [hta]; exact VRel.mono hle _ _ (hI.st.tm x)) hput2 hv'
      obtain ⟨p', hI'⟩ := hfin τ (a'.put o.dst v') w' ⟨p1, by rw [FD_new _ hvt]; exact p2, hH', by cases hdd : o.dst <;> simpa [Act.put, hdd, baseF_w] using hD'⟩
      exact hK p' τ _ w' hle hI'
  | false =>
    simp only [Bool.false_eq_true, if_false]
    refine ⟨fun _ _ => trivial, ?_⟩
    obtain ⟨hv0, hst0⟩ := hg0 htg
    have hvu : VRel σ t.v undef := by rw [hv0]; exact VRel.undef σ
    obtain ⟨p1, p2⟩ := put_rel hI.st.size hI.st.tm hput2 hvu
    cases hq : calmF E fx i o.op with
    | true =>
      exact hK p σ _ w (Sub.le_refl _) (quiet_here hq σ _ w ⟨p1, by rw [FD_new _ hvt]; exact p2, hI.st.heap.weaken rfl shrink, by cases hdd : o.dst <;> simpa [Act.put, hdd, baseF_w] using hI.st.ds⟩)
    | false =>
      obtain ⟨rfl, hfin⟩ := loud_here hq
      have hh := hI.st.heap
      have hd := hI.st.ds
      rw [hsti] at hh hd
      obtain ⟨p', hI'⟩ := hfin σ (a.put o.dst undef) w ⟨p1, by rw [FD_new _ hvt]; exact p2, by rw [hst0]; exact hh, by rw [hst0]; cases hdd : o.dst <;> simpa [Act.put, hdd, baseF_w] using hd⟩
      exact hK p' σ _ w (Sub.le_refl _) hI'

theorem ready_iff {D : Array Bool} (hsz : D.size = ops.size) {i : Nat} : i ∈ Region.ready .any ops D ↔ i < ops.size ∧ D.getD i false = false ∧ EdgesIn ops.toList (fun k => D.getD k false) i := by
  unfold Region.ready
  rw [List.mem_filter, List.mem_range]
  constructor
  · rintro ⟨h1, h2⟩
    rw [Bool.and_eq_true] at h2
    obtain ⟨h2, h3⟩ := h2
    have hi : D[i]? = some (D[i]'(by omega)) := Array.getElem?_eq_getElem (by omega)
    refine ⟨h1, ?_, ?_⟩
    · simp only [Array.getD_eq_getD_getElem?, hi] at h2 ⊢
      simpa using h2
    · intro o ho e he hb
      have ho' : ops[i]? = some o := by simpa using ho
      simp only [ho', Option.map_some, Option.getD_some] at h3
      rw [Array.all_eq_true_iff_forall_mem] at h3
      have := h3 e (by simpa using he)
      rw [binds_any, hb] at this
      simpa using this
  · rintro ⟨h1, h2, h3⟩
    refine ⟨h1, ?_⟩
    have hi : D[i]? = some (D[i]'(by omega)) := Array.getElem?_eq_getElem (by omega)
    rw [Bool.and_eq_true]
    constructor
    · simp only [Array.getD_eq_getD_getElem?, hi] at h2 ⊢
      simpa using h2
    · have ho : ops[i]? = some ops[i] := Array.getElem?_eq_getElem h1
      simp only [ho, Option.map_some, Option.getD_some]
      rw [Array.all_eq_true_iff_forall_mem]
      intro e he
      rw [binds_any]
      cases hb : bindsAny e with
      | false => rfl
      | true => simpa using h3 ops[i] (by simp [h1]) e (by simpa using he) hb

theorem draw_any {σ0 : Sub} (hQ : ∀ (τ : Sub) (a' : Act) (w' : World), σ0.le τ → SRel n E.G w0 B τ (getT fin.1) fin.2.1 fin.2.2 a' w' → Q .normal a' w') : ∀ (fuel : Nat) (D : Array Bool) (p : Nat) (σ : Sub) (a : Act) (w : World), σ0.le σ → Inv n E fx bs w0 B ops tr fin D p σ a w → cntF (fun k => D.getD k false) ops.size ≤ fuel →
    wpAnyIn (fw ro) 0 P .any ops Q fuel D a w := by
  have hlen : ops.toList.length = ops.size := by simp
  -- where nothing is ready all is done
  have done : ∀ (D : Array Bool) (p : Nat) (σ : Sub) (a : Act) (w : World), σ0.le σ → Inv n E fx bs w0 B ops tr fin D p σ a w → (∀ k, k < ops.size → D.getD k false = true) → Q .normal a w := by
    intro D p σ a w h0 hI hall
    have hp : p = ops.toList.length := by
      rcases Nat.lt_or_ge p ops.toList.length with hlt | hge
      · have h1 := (hI.pl hlt).2
        have h2 := hall p (by omega)
        rw [h1] at h2; cases h2
      · have := hI.pn; omega
    have hst := hI.st
    rw [hp] at hst
    have hend : stAt tr fin ops.toList.length = fin := by
      unfold stAt; rw [List.getElem?_eq_none (by rw [hT.len]; exact Nat.le_refl _)]
    have hF : FD (getT (stAt tr fin 0).1) ops.toList tr (fun k => D.getD k false) ops.toList.length = getT fin.1 := by
      have := FD_text hn hT ops.toList.length (Nat.le_refl _)
      rw [hend] at this
      rw [this]
      funext x
      exact FD_congr _ (fun k hk _ => hall k (by omega))
    rw [hF, hend] at hst
    exact hQ σ a w h0 (hst.weaken rfl (fun k hk => baseF_U.2 (.inl hk)))
  have ready_nil : ∀ (D : Array Bool) (p : Nat) (σ : Sub) (a : Act) (w : World), Inv n E fx bs w0 B ops tr fin D p σ a w → Region.ready .any ops D = [] → ∀ k, k < ops.size → D.getD k false = true := by
    intro D p σ a w hI hnil k
    induction k using Nat.strongRecOn with
    | _ k ih =>
      intro hk
      cases hd : D.getD k false with
      | true => rfl
      | false =>
        have : k ∈ Region.ready .any ops D := (ready_iff hE hnd hc hn hR hT hW hX hI.size).2 ⟨hk, hd, fun o ho e he hb => by
          have hback := hR.back k o ho
          unfold backOk at hback
          rw [List.all_eq_true] at hback
          have := hback e he
          simp only [hb, Bool.not_true, Bool.false_or] at this
          rw [Nat.blt_eq] at this
          exact ih e.on this (by omega)⟩
        rw [hnil] at this; cases this
  intro fuel
  induction fuel with
  | zero =>
    intro D p σ a w h0 hI hcnt
    have hall := cntF_zero ops.size (by omega : cntF (fun k => D.getD k false) ops.size = 0)
    refine ⟨?_, done D p σ a w h0 hI hall⟩
    cases hr : Region.ready .any ops D with
    | nil => rfl
    | cons x l =>
      have := (ready_iff hE hnd hc hn hR hT hW hX hI.size).1 (by rw [hr]; exact List.mem_cons_self : x ∈ Region.ready .any ops D)
      have h2 := hall x this.1
      rw [this.2.1] at h2; cases h2
  | succ fuel ih =>
    intro D p σ a w h0 hI hcnt
    refine ⟨fun hr => done D p σ a w h0 hI (ready_nil D p σ a w hI hr), fun i hi => ?_⟩
    obtain ⟨h1, h2, h3⟩ := (ready_iff hE hnd hc hn hR hT hW hX hI.size).1 hi
    refine draw_step hE hnd hc hn hR hT hW hX hI h1 h2 h3 (fun p' τ a' w' hle hI' => ih _ p' τ a' w' (Sub.le_trans h0 hle) hI' ?_)
    have hDs : i < D.size := by rw [hI.size]; exact h1
    have := cntF_set (D := fun k => D.getD k false) (D' := fun k => (D.setIfInBounds i true).getD k false) (i := i) h2 (by simp [Array.getD_eq_getD_getElem?, hDs]) (fun k hk => by
      simp only [Array.getD_eq_getD_getElem?]
      rw [Array.getElem?_setIfInBounds_ne (fun h => hk h.symm)]) ops.size h1
    omega
end
end Go.Bx
