/- Aggregates that are built; all quiet operations together. -/
import Derived.Test.YtmiebhjpdmokoaaGreatDoorBx7
set_option linter.all false
namespace Go.Bx
open Go.RowKit
variable [Valn]

theorem foldl_sets (off : Nat) : ∀ (l : List Value) (k : Nat) (cells : Array Value), off + k + l.length ≤ cells.size →
    ((l.zipIdx k).foldl (fun (cs : Array Value) p => cs.setIfInBounds (off + p.2) p.1) cells).size = cells.size ∧
    ∀ j, ((l.zipIdx k).foldl (fun (cs : Array Value) p => cs.setIfInBounds (off + p.2) p.1) cells)[j]? = if off + k ≤ j ∧ j < off + k + l.length then l[j - (off + k)]? else cells[j]?
  | [], k, cells, _ => ⟨rfl, fun j => by rw [if_neg (by simp)]; rfl⟩
  | v :: l, k, cells, h => by
    simp only [List.zipIdx_cons, List.foldl_cons]
    obtain ⟨h1, h2⟩ := foldl_sets off l (k + 1) (cells.setIfInBounds (off + k) v) (by rw [Array.size_setIfInBounds]; simp only [List.length_cons] at h; omega)
    refine ⟨by rw [h1]; simp, fun j => ?_⟩
    rw [h2]
    simp only [List.length_cons] at h ⊢
    by_cases hj : off + (k + 1) ≤ j ∧ j < off + (k + 1) + l.length
    · rw [if_pos hj, if_pos (by omega)]
      have : j - (off + k) = (j - (off + (k + 1))) + 1 := by omega
      rw [this, List.getElem?_cons_succ]
    · rw [if_neg hj]
      by_cases e : j = off + k
      · subst e
        rw [if_pos (by omega), Nat.sub_self]
        simp only [Array.getElem?_setIfInBounds, List.getElem?_cons_zero, if_true]
        rw [if_pos (by omega)]
      · rw [if_neg (by omega)]
        rw [Array.getElem?_setIfInBounds_ne (by omega)]

def PRels (σ : Sub) : List (Nat × V) → List (Nat × Value) → Prop
  | [], l => l = []
  | (i, v) :: r, l => ∃ v' l', l = (i, v') :: l' ∧ VRel σ v v' ∧ PRels σ r l'

theorem vcells_ok {σ : Sub} {v : V} {cs : List V} (h : vcells v = some cs) {v' : Value} (hr : VRel σ v v') : VRels σ cs v'.cells.toList := by
  cases v <;> simp [vcells] at h <;> subst h <;> simp only [VRel] at hr
  case agg => obtain ⟨cs', rfl, h⟩ := hr; exact h
  case sym t e => subst hr; cases t <;> simp [VRels, Value.cells, VRel, tv]
  case xsl => obtain ⟨r, a, L, h1, h2, h3, rfl, h4⟩ := hr; simp only [VRels, Value.cells, VRel]; exact ⟨_, _, rfl, ⟨r, a, L, h1, h2, h3, rfl, h4⟩, rfl⟩
  case xarg =>
    obtain ⟨L, h1, h2⟩ := hr
    have : v'.cells = #[v'] := by rcases h2 with ⟨_, _, rfl, _⟩ | ⟨r, c, _, rfl, _⟩ <;> rfl
    rw [this]; simp only [VRels, VRel]; exact ⟨_, _, rfl, ⟨L, h1, h2⟩, rfl⟩
  case osl =>
    obtain ⟨r, a, L, c, h1, h2, h3, rfl, h4⟩ := hr
    simp only [VRels, Value.cells, VRel]; exact ⟨_, _, rfl, ⟨r, a, L, c, h1, h2, h3, rfl, h4⟩, rfl⟩
  case xptr => obtain ⟨r, n, h1, h2, rfl, h4⟩ := hr; simp only [VRels, Value.cells, VRel]; exact ⟨_, _, rfl, ⟨r, n, h1, h2, rfl, h4⟩, rfl⟩
  all_goals first
    | (subst hr; simp [VRels, Value.cells, VRel])
    | (obtain ⟨r, h1, rfl⟩ := hr; simp only [VRels, Value.cells, VRel]; exact ⟨_, _, rfl, ⟨r, h1, rfl⟩, rfl⟩)
    | (obtain ⟨r, a, c, h1, rfl, h2⟩ := hr; simp only [VRels, Value.cells, VRel]; exact ⟨_, _, rfl, ⟨r, a, c, h1, rfl, h2⟩, rfl⟩)
    | (obtain ⟨r, a, rfl, h2⟩ := hr; simp only [VRels, Value.cells, VRel]; exact ⟨_, _, rfl, ⟨r, a, rfl, h2⟩, rfl⟩)
    | (obtain ⟨r, rfl, h2⟩ := hr; simp only [VRels, Value.cells, VRel]; exact ⟨_, _, rfl, ⟨r, rfl, h2⟩, rfl⟩)
    | (obtain ⟨r, rfl, h2⟩ := hr; refine ⟨.string r, [], rfl, ?_, rfl⟩; simp only [VRel]; exact ⟨r, rfl, h2⟩)

theorem overlay_rel {σ : Sub} {off : Nat} {new old c : List V} {N O : List Value} (h : overlay off new old = some c) (hn : VRels σ new N) (ho : VRels σ old O) {C : List Value} (hl : C.length = O.length)
    (hC : ∀ k, C[k]? = if off ≤ k ∧ k < off + N.length then N[k - off]? else O[k]?) : VRels σ c C := by
  obtain ⟨h1, h2, h3⟩ := overlay_some _ _ _ _ h
  obtain ⟨n1, n2⟩ := (VRels.iff _ _).1 hn
  obtain ⟨o1, o2⟩ := (VRels.iff _ _).1 ho
  refine (VRels.iff _ _).2 ⟨by omega, fun k v hk => ?_⟩
  rw [h3] at hk
  rw [hC, n1]
  split at hk
  · rename_i hc; rw [if_pos hc]; exact n2 _ _ hk
  · rename_i hc; rw [if_neg hc]; exact o2 _ _ hk

theorem fillV_ok {σ : Sub} {place place' : Nat → Option (Nat × Nat)} (hp : ∀ i p, place i = some p → place' i = some p) :
    ∀ (parts : List (Nat × V)) (z c : List V) (Z : Array Value) (parts' : List (Nat × Value)), fillV place z parts = some c → VRels σ z Z.toList → PRels σ parts parts' →
      ∃ C : Array Value, Instr.fill place' Z parts' = some C ∧ VRels σ c C.toList
  | [], z, c, Z, parts', h, hz, hr => by
    simp only [fillV, Option.some.injEq] at h; subst h
    simp only [PRels] at hr; subst hr
    exact ⟨Z, rfl, hz⟩
  | (i, v) :: rest, z, c, Z, parts', h, hz, hr => by
    simp only [PRels] at hr
    obtain ⟨v', l', rfl, hv, hl⟩ := hr
    simp only [fillV] at h
    cases hpl : place i with
    | none => simp [hpl] at h
    | some p =>
      obtain ⟨off, size⟩ := p
      cases hc : vcells v with
      | none => simp [hpl, hc] at h
      | some cs =>
        simp only [hpl, hc] at h
        split at h
        · rename_i e1 e2
          have e1 := Nat.eq_of_beq_eq_true e1
          have e2 := Nat.le_of_ble_eq_true e2
          cases ho : overlay off cs z with
          | none => simp [ho] at h
          | some q =>
            simp only [ho] at h
            have hvc := vcells_ok hc hv
            have hlen := hvc.length
            have hzl := hz.length
            have hsz : v'.cells.size = cs.length := by simpa using hlen
            have hzsz : Z.size = z.length := by simpa using hzl
            obtain ⟨s1, s2⟩ := foldl_sets off v'.cells.toList 0 Z (by simp; omega)
            let C1 := (v'.cells.toList.zipIdx 0).foldl (fun (cs : Array Value) p => cs.setIfInBounds (off + p.2) p.1) Z
            have hq : VRels σ q C1.toList := by
              refine overlay_rel ho hvc hz ?_ (fun k => ?_)
              · simpa using s1
              · have := s2 k
                simp only [Nat.add_zero] at this
                simpa using this
            obtain ⟨C, h1, h2⟩ := fillV_ok hp rest q c C1 l' h hq hl
            refine ⟨C, ?_, h2⟩
            simp only [Instr.fill, hp i _ hpl]
            rw [if_neg (by simp; omega)]
            rw [← h1]
            congr 1
            rw [← Array.foldl_toList]
            simp [C1]
        · cases h

section
variable {P : Program} {E : Env} (hE : EnvOk P E) {σ : Sub}
 include hE

theorem zcells_ok {t : TypeId} {z : List V} (h : zcells E t = some z) : ∃ v, E.zero t = some v ∧ VRels σ z v.cells.toList := by
  unfold zcells at h
  split at h
  · rename_i cs hz; cases h; exact ⟨_, hz, VRels.ofVals σ cs⟩
  · rename_i v hna hz; cases h
    refine ⟨v, hz, ?_⟩
    cases v with
    | agg c => obtain ⟨l⟩ := c; exact (hna l rfl).elim
    | _ => simp only [VRels, Value.cells]; exact ⟨_, _, rfl, VRel.ofVal σ _, rfl⟩
  · cases h

theorem fieldPlaces_ok (w : World) : ∀ (fs : List Field) (ps : List (Nat × Nat)), fieldPlaces E fs = some ps → (fs.mapM fun f => do pure (f.offset, ← sizeOf f.type) : Sem (List (Nat × Nat))).run P w = .ok ps w
  | [], ps, h => by simp only [fieldPlaces, Option.some.injEq] at h; subst h; rfl
  | f :: fs, ps, h => by
    simp only [fieldPlaces] at h
    split at h
    · rename_i s r hs hr
      cases h
      have ih := fieldPlaces_ok w fs r hr
      rw [List.mapM_cons]
      simp only [Sem.run_bind, run_size hE hs, Result.andThen_ok, Sem.run_pure]
      rw [ih]
      rfl
    · cases h

 omit hE in
theorem nthP_eq : ∀ (l : List (Nat × Nat)) (i : Nat), nthP l i = l[i]?
  | [], i => by simp [nthP]
  | p :: l, 0 => by simp [nthP]
  | p :: l, i + 1 => by simp [nthP, nthP_eq l i]

theorem buildQ_ok {t : TypeId} {parts : List (Nat × V)} {parts' : Array (Nat × Value)} {v : V} (h : buildQ E t parts = some v) (hr : PRels σ parts parts'.toList) (w : World) :
    ∃ v', (Instr.build t parts').run P w = .ok v' w ∧ VRel σ v v' := by
  unfold buildQ at h
  split at h
  · rename_i z fs hz hu
    obtain ⟨zv, hz1, hz2⟩ := zcells_ok (σ := σ) hE hz
    split at h
    · rename_i ps hps
      split at h
      · rename_i c hf
        cases h
        obtain ⟨C, h1, h2⟩ := fillV_ok (place' := fun i => ps.toArray[i]?) (fun i p hp => by rw [nthP_eq] at hp; simpa using hp) parts z c zv.cells parts'.toList hf hz2 hr
        refine ⟨.agg C, ?_, by simp only [VRel]; exact ⟨C, rfl, h2⟩⟩
        have hm := fieldPlaces_ok (P := P) hE w fs.toList ps hps
        simp only [Instr.build, Sem.run_bind, run_zero hE hz1, Result.andThen_ok, run_und hE hu]
        rw [Array.mapM_eq_mapM_toList]
        simp only [Sem.run_map, hm, Result.andThen_ok, h1, Sem.run_pure]
      · cases h
    · cases h
  · rename_i z n e hz hu
    obtain ⟨zv, hz1, hz2⟩ := zcells_ok (σ := σ) hE hz
    split at h
    · rename_i s hs
      split at h
      · rename_i c hf
        cases h
        obtain ⟨C, h1, h2⟩ := fillV_ok (place' := fun i => some (i * s, s)) (fun i p hp => hp) parts z c zv.cells parts'.toList hf hz2 hr
        refine ⟨.agg C, ?_, by simp only [VRel]; exact ⟨C, rfl, h2⟩⟩
        simp only [Instr.build, Sem.run_bind, run_zero hE hz1, Result.andThen_ok, run_und hE hu, run_size hE hs, h1, Sem.run_pure]
      · cases h
    · cases h
  · cases h
end

theorem mapOpnds_ok {σ : Sub} {ρ : Operand → V} {ρ' : Operand → Value} (hρ : ∀ x, VRel σ (ρ x) (ρ' x)) : ∀ (l : List (Nat × Operand)), PRels σ (mapOpnds ρ l) (l.map fun (i, x) => (i, ρ' x))
  | [] => by simp [mapOpnds, PRels]
  | (i, x) :: l => by simp only [mapOpnds, PRels, List.map_cons]; exact ⟨_, _, rfl, hρ x, mapOpnds_ok hρ l⟩

theorem VRels.map {σ : Sub} {ρ : Operand → V} {ρ' : Operand → Value} (hρ : ∀ x, VRel σ (ρ x) (ρ' x)) : ∀ (l : List Operand), VRels σ (l.map ρ) (l.map ρ')
  | [] => by simp [VRels]
  | x :: l => by simp only [VRels, List.map_cons]; exact ⟨_, _, rfl, hρ x, VRels.map hρ l⟩

theorem nthV_eq : ∀ (l : List V) (i : Nat), nthV l i = l[i]?
  | [], i => by simp [nthV]
  | p :: l, 0 => by simp [nthV]
  | p :: l, i + 1 => by simp [nthV, nthV_eq l i]

theorem array_one {α : Type} {a : Array α} {x : α} (h : a.toList = [x]) : a = #[x] := by cases a; simp at h; simp [h]
theorem array_cons {α : Type} {a : Array α} {x : α} {l : List α} (h : a.toList = x :: l) : a = (x :: l).toArray := by cases a; simp at h; simp [h]

section
variable {P : Program} {E : Env} (hE : EnvOk P E) {σ : Sub} {G : Nat} {w0 : Base} {B : Nat} {h : Hp} {w : World} (hH : HRel G w0 B σ h w)
 include hE hH

theorem quiet0_ok {o : Oper} {ρ : Operand → V} {ρ' : Operand → Value} (hρ : ∀ x, VRel σ (ρ x) (ρ' x)) {v : V} (hq : quiet0 E o.op ρ h = some v) :
    ∃ v', (execOp ρ' o).run P w = .ok (.value v') w ∧ VRel σ v v' := by
  have lift : ∀ {s : Sem Value} {v : V}, (∃ v', s.run P w = .ok v' w ∧ VRel σ v v') → ∃ v', (do pure (Next.value (← s)) : Sem Next).run P w = .ok (.value v') w ∧ VRel σ v v' := by
    rintro s v ⟨v', h1, h2⟩
    exact ⟨v', by simp [h1], h2⟩
  obtain ⟨dst, op, type, pos, after, guard⟩ := o
  simp only at hq
  unfold quiet0 at hq
  split at hq
  · cases hq; exact ⟨_, rfl, hρ _⟩
  · cases hq; exact ⟨_, rfl, hρ _⟩
  · rename_i c a b
    have hc := hρ c
    split at hq
    · rename_i hb; rw [hb] at hc; simp only [VRel] at hc; cases hq
      exact ⟨ρ' a, by simp [execOp, hc, asBool], hρ a⟩
    · rename_i hb; rw [hb] at hc; simp only [VRel] at hc; cases hq
      exact ⟨ρ' b, by simp [execOp, hc, asBool], hρ b⟩
    · cases hq
  · rename_i t parts
    exact lift (buildQ_ok hE hq (by simpa using mapOpnds_ok hρ parts.toList) w)
  · rename_i t a
    have ha := hρ a
    split at hq
    · rename_i b o hb
      rw [hb] at ha; simp only [VRel] at ha; obtain ⟨r, hr, e⟩ := ha
      obtain ⟨r', hr', v', h1, h2⟩ := loadAt_ok (P := P) hE hH hq hr
      rw [hr] at hr'; cases hr'
      exact lift ⟨v', by simp [Instr.loadAt, Instr.sureAddr, e, h1], h2⟩
    · cases hq
  · rename_i x
    have hx := hρ x
    split at hq <;> first
      | (cases hq; done)
      | (rename_i hb; rw [hb] at hx; cases hq; refine ⟨ρ' x, ?_, hx⟩; simp only [VRel] at hx
         first
          | (obtain ⟨r, hr, e⟩ := hx; simp [execOp, e]; done)
          | (obtain ⟨r, a, e, hr⟩ := hx; simp [execOp, e]; done)
          | (obtain ⟨r, e, hr⟩ := hx; simp [execOp, e]; done)
          | (obtain ⟨r, a, c, hr, e, _⟩ := hx; simp [execOp, e]; done))
  · rename_i op t x y yt
    exact lift (binV_ok hE hq (hρ x) (hρ y) w)
  · rename_i op t x
    exact lift (unV_ok hq (hρ x) w)
  · rename_i src dst x
    exact lift (convQ_ok hE hH hq (hρ x))
  · rename_i arr x
    have hx := hρ x
    split at hq
    · rename_i n e b o len cap hu hb
      rw [hb] at hx; simp only [VRel] at hx; obtain ⟨r, hr, e⟩ := hx
      split at hq
      · rename_i hle
        have hle := Nat.le_of_ble_eq_true hle
        cases hq
        refine lift ⟨.pointer (some ⟨r.block, r.base + o, none⟩), ?_, by simp only [VRel]; exact ⟨r, hr, rfl⟩⟩
        simp [Instr.arrayAt, run_und hE hu, e]; omega
      · cases hq
    · cases hq
  · rename_i t x
    split at hq
    · cases hq
    · rename_i d hni hu
      cases hq
      refine lift ⟨.iface t (ρ' x), ?_, by simp only [VRel]; exact ⟨_, rfl, hρ x⟩⟩
      simp only [Instr.makeInterface, Sem.run_bind, run_und hE hu, Result.andThen_ok]
      cases d <;> first | rfl | exact absurd hu (hni _)
    · cases hq
  · rename_i fn first captured
    cases hq
    refine lift ⟨_, rfl, ?_⟩
    simp only [VRel]
    exact ⟨_, _, rfl, by simpa using VRels.map hρ first.toList, by simpa using VRels.map hρ captured.toList⟩
  · rename_i t x lo hi mx
    split at hq
    · rename_i lo0 hi0 mx0 e1 e2 e3
      exact lift (sliceQ_ok hE hq (hρ x) (optNat_ok hρ e1) (optNat_ok hρ e2) (optNat_ok hρ e3) w)
    · cases hq
  · rename_i t x f
    exact lift (fieldAddrQ_ok hE hq (hρ x))
  · rename_i t x f
    exact lift (fieldQ_ok hE hq (hρ x))
  · rename_i t x i
    exact lift (indexAddrQ_ok hE hq (hρ x) (hρ i))
  · rename_i t x i
    exact lift (indexQ_ok hE hq (hρ x) (hρ i))
  · rename_i t m k ok
    exact lift (lookupQ_ok hE hH hq (hρ m) (hρ k))
  · rename_i x xt asserted ok
    exact lift (typeAssertQ_ok hE hq (hρ x))
  · rename_i x i
    have hx := hρ x
    split at hq
    · rename_i vs hb
      rw [hb] at hx; simp only [VRel] at hx; obtain ⟨vs', e, hvs⟩ := hx
      rw [nthV_eq] at hq
      obtain ⟨v', h1, h2⟩ := ((VRels.iff _ _).1 hvs).2 _ _ hq
      simp at h1
      exact lift ⟨v', by simp [Instr.extract, e, h1], h2⟩
    · cases hq
  · rename_i args argTypes
    split at hq
    · rename_i x t e1 e2
      obtain ⟨v', h1, h2⟩ := lenQ_ok hE hH type hq (hρ x)
      refine ⟨v', ?_, h2⟩
      have e1 := array_one e1; have e2 := array_one e2; subst e1; subst e2
      simp [execOp, resolve, invoke, builtin, h1]
    · cases hq
  · rename_i args argTypes
    split at hq
    · rename_i x t e1 e2
      obtain ⟨v', h1, h2⟩ := capQ_ok (P := P) (w := w) hE type hq (hρ x)
      refine ⟨v', ?_, h2⟩
      have e1 := array_one e1; have e2 := array_one e2; subst e1; subst e2
      simp [execOp, resolve, invoke, builtin, h1]
    · cases hq
  · rename_i args argTypes
    split at hq
    · rename_i x l e1
      obtain ⟨v', h1, h2⟩ := maxFold_ok (P := P) (w := w) _ _ _ _ _ hq (hρ x) (VRels.map hρ l)
      refine ⟨v', ?_, h2⟩
      have e1 := array_cons e1; subst e1
      simp [execOp, resolve, invoke, builtin, Builtin.max_, h1]
    · cases hq
  · rename_i args argTypes
    split at hq
    · rename_i x l e1
      obtain ⟨v', h1, h2⟩ := minFold_ok (P := P) (w := w) _ _ _ _ _ hq (hρ x) (VRels.map hρ l)
      refine ⟨v', ?_, h2⟩
      have e1 := array_cons e1; subst e1
      simp [execOp, resolve, invoke, builtin, Builtin.min_, h1]
    · cases hq
  · cases hq
end
end Go.Bx
