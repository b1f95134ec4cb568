/- Acting operations on what is of a length that is not known. -/
import Derived.Test.YtammiaaocohdaaaGreatBx12
set_option linter.all false
namespace Go.Bx
open Go.RowKit
variable [Valn]

theorem isBytes_range : ∀ (e : SX), isBytes e = true → ∀ n ∈ e.den.list, 0 ≤ n ∧ n < 256 := by
  have wr : ∀ n : Int, 0 ≤ wrapK .u8 n ∧ wrapK .u8 n < 256 := by
    intro n
    rw [wrapK_eq]
    simp only [IntKind.wrap, IntKind.bits, IntKind.signed]
    simp
    omega
  intro e
  induction e with
  | txt s => intro _ n hn; simp only [SX.den, D.list, List.mem_map] at hn; obtain ⟨b, _, rfl⟩ := hn; have := b.toNat_lt; simp; omega
  | lvar k i =>
    intro h n hn
    have := kindBeq_eq h; subst this
    simp only [SX.den, D.list, List.mem_map] at hn; obtain ⟨b, _, rfl⟩ := hn; exact wr b
  | ofk k a =>
    intro h n hn
    have := kindBeq_eq h; subst this
    change n ∈ a.den.list.map (wrapK .u8) at hn
    rw [List.mem_map] at hn; obtain ⟨b, _, rfl⟩ := hn; exact wr b
  | one k a =>
    intro h n hn
    have := kindBeq_eq h; subst this
    change n ∈ [wrapK .u8 a.den.int] at hn
    rw [List.mem_singleton] at hn; subst hn; exact wr _
  | rep a =>
    intro _ n hn
    change n ∈ List.replicate a.den.int.toNat 0 at hn
    have := (List.mem_replicate.1 hn).2; subst this; decide
  | cat a b iha ihb =>
    intro h n hn
    simp only [isBytes] at h
    split at h
    · rename_i ha
      change n ∈ a.den.list ++ b.den.list at hn
      rw [List.mem_append] at hn
      exact hn.elim (iha ha n) (ihb h n)
    · cases h
  | win a lo m iha _ _ =>
    intro h n hn
    change n ∈ (a.den.list.drop lo.den.int.toNat).take m.den.int.toNat at hn
    exact iha h n (List.mem_of_mem_drop (List.mem_of_mem_take hn))
  | over a lo b iha _ ihb =>
    intro h n hn
    simp only [isBytes] at h
    split at h
    · rename_i ha
      change n ∈ a.den.list.take lo.den.int.toNat ++ b.den.list ++ a.den.list.drop (lo.den.int.toNat + b.den.list.length) at hn
      rw [List.mem_append, List.mem_append] at hn
      rcases hn with (hn | hn) | hn
      · exact iha ha n (List.mem_of_mem_take hn)
      · exact ihb h n hn
      · exact iha ha n (List.mem_of_mem_drop hn)
    · cases h
  | _ => intro h; simp [isBytes] at h

theorem isBytes_ok {e : SX} (h : isBytes e = true) : (asBytes e.den.list).map (fun b => (Value.int .u8 (b.toNat : Int))) = e.den.list.map (Value.int .u8) := by
  have := isBytes_range e h
  generalize e.den.list = l at this
  induction l with
  | nil => rfl
  | cons n l ih =>
    have h1 := this n (by simp)
    simp only [asBytes, List.map_cons] at ih ⊢
    rw [ih (fun m hm => this m (by simp [hm]))]
    congr 2
    have : n.toNat % 256 = n.toNat := by omega
    simp [this]; omega

section
variable {P : Program} {E : Env} (hE : EnvOk P E) {σ : Sub} {G : Nat} {w0 : Base} {B : Nat} {h : Hp} {w : World} (hH : HRel G w0 B σ h w)
 include hE hH

theorem makeSliceX_ok {t e : TypeId} {a : SX} (hu : E.und t = some (.slice e)) (hs : E.size e = some 1) (hb : E.bytes e = some 1) (hz : E.zero e = some (.int .u8 0)) (h0 : leT E (.num 0) a = true) (h1 : leT E a (.num 1000000000) = true)
    {b : Nat} {h' : Hp} (ha : h.alloc (.arr (lookX (.rep a) E.rw)) = some (b, h')) :
    ∃ v' w' τ, (Instr.makeSlice t (.int .i64 a.den.int) (.int .i64 a.den.int)).run P w = .ok v' w' ∧ σ.le τ ∧ HRel G w0 B τ h' w' ∧ VRel τ (.xsl b 0 a) v' := by
  have h0 : (0 : Int) ≤ a.den.int := leT_ok hE h0
  have h1 : a.den.int ≤ (1000000000 : Int) := leT_ok hE h1
  obtain ⟨L, hL⟩ : ∃ L : Nat, a.den.int = Int.ofNat L := ⟨a.den.int.toNat, by simp only [Int.ofNat_eq_natCast]; omega⟩
  rw [hL] at h0 h1 ⊢
  have hL9 : L ≤ 1000000000 := by simp only [Int.ofNat_eq_natCast] at h1; omega
  obtain ⟨i, hi, hib⟩ := bytes_ok hE hb
  have wl : IntKind.i64.wrap (Int.ofNat L) = L := by simp [IntKind.wrap, IntKind.bits, IntKind.signed]; omega
  let zero : Array Value := if L * 1 = 0 then #[] else (Value.int .u8 0).cells
  let C : Array Value := (Array.range (L * 1)).map fun i => zero[i % zero.size]!
  have hC : C.toList = List.replicate L (Value.int .u8 0) := by
    by_cases hl : L = 0
    · subst hl; simp [C]
    · have hz : zero = #[.int .u8 0] := by simp [zero, hl, Value.cells]
      refine List.eq_replicate_iff.2 ⟨by simp [C], fun x hx => ?_⟩
      simp only [C, hz] at hx
      simp [Nat.mod_one] at hx
      exact hx.2.symm
  have hCs : C.size = L := by simp [C]
  obtain ⟨rfl, hA⟩ := hH.alloc ha (.cells C e) (r := ⟨w.heap.size, 0, L⟩) rfl ⟨hH.Bsize, rfl, C, e, (0, 0), heap_alloc_new _ _, hCs, fun k _ => by simp, by
    rw [look_ok hE, hC]
    show _ = (List.replicate a.den.int.toNat 0).map (Value.int .u8)
    rw [hL]; simp⟩
  refine ⟨.slice (some ⟨w.heap.size, 0, none⟩) L L, _, _, ?_, Sub.le_add hH.fresh, hA, ?_⟩
  · have hbig : ¬ ((L : Int) < 0 ∨ (i.bytes : Int) * L > 2 ^ 48) := by
      have e48 : (2 : Int) ^ 48 = 281474976710656 := by decide
      rw [hib]
      omega
    unfold Instr.makeSlice
    simp only [Sem.run_bind, run_und hE hu, Result.andThen_ok, asInt, asIntOf, Sem.run_pure, typeInfo, run_program, hi, wl]
    rw [if_neg (by simp at hbig ⊢; omega)]
    simp only [Sem.run_bind, run_askRoom, Result.andThen_ok, run_size hE hs]
    simp only [Int.toNat_natCast]
    have r1 : (newRow e C).run P w = .ok ⟨w.heap.size, 0, none⟩ (w.alloc (.cells C e)) := by simp [newRow]
    by_cases hl : L * 1 = 0
    · have hz0 : zero = #[] := if_pos hl
      rw [if_pos hl]
      simp only [C, hz0] at r1 ⊢
      simp only [Sem.run_bind, Sem.run_pure, Result.andThen_ok, r1]
    · have hz0 : zero = (Value.int .u8 0).cells := if_neg hl
      rw [if_neg hl]
      simp only [C, hz0] at r1 ⊢
      simp only [Sem.run_bind, run_zero hE hz, Sem.run_pure, Result.andThen_ok, r1]
  · simp only [VRel]
    exact ⟨_, 0, L, Sub.add_same _ _ _, hL, hL9, rfl, .inr rfl, by simp, by simp⟩

theorem copyX_ok {dT sT ty e : TypeId} {b o : Nat} {n s c : SX} {d' : Value} (hu : E.und dT = some (.slice e)) (hs : E.size e = some 1) (hg : h.t.get b = some (.arr c)) (hb : isBytes s = true) (hn : SX.beq (lookX (.len s) E.rw) n = true) (hd : VRel σ (.xsl b o n) d') :
    ∃ v' w' τ, (Builtin.copy_ #[dT, sT] ty #[d', .string ⟨⟨asBytes s.den.list⟩⟩]).run P w = .ok v' w' ∧ σ.le τ ∧ HRel G w0 B τ (h.put b (.arr (lookX (.over c (.num (Int.ofNat o)) s) E.rw))) w' ∧ VRel τ (mkS (.i .i64) n) v' := by
  simp only [VRel] at hd
  obtain ⟨r, a, L, hr, hnL, hL, rfl, b3, b4, b5⟩ := hd
  have hlen : s.den.list.length = L := by
    have h1 := SX.beq_eq _ _ hn
    have h2 := look_ok hE (.len s)
    rw [h1] at h2
    have h3 : n.den.int = (s.den.list.length : Int) := by rw [h2]; rfl
    rw [hnL] at h3
    exact (Int.ofNat.inj h3).symm
  have hbl : (asBytes s.den.list).length = L := by simp [asBytes, hlen]
  let N : List Value := s.den.list.map (Value.int .u8)
  have hN : N.length = L := by simp [N, hlen]
  obtain ⟨hB, hb0, C, e', F, hw, hCs, hF, hC⟩ := hH.rel b _ hg rfl r hr
  have hmk : VRel σ (mkS (.i .i64) n) (goInt L) := by
    have := mkS_ok σ (.i .i64) n
    simp only [tv, hnL] at this
    simpa [goInt] using this
  have hlenOf : (Builtin.lenOf (.string ⟨⟨asBytes s.den.list⟩⟩)).run P w = .ok L w := by
    simp [Builtin.lenOf, ByteArray.size, hbl]
  have hfirst : (Builtin.firstCells 1 (Nat.min L L) (.string ⟨⟨asBytes s.den.list⟩⟩)).run P w = .ok N.toArray w := by
    have : Nat.min L L = L := Nat.min_self L
    rw [this]
    simp only [Builtin.firstCells, Sem.run_pure, Result.ok.injEq, and_true]
    apply Array.ext'
    have h2 := isBytes_ok hb
    have h3 : (ByteArray.extract ⟨⟨asBytes s.den.list⟩⟩ 0 L).data.toList = asBytes s.den.list := by
      simp [ByteArray.data_extract, ← hbl]
    rw [Array.toList_map, h3]
    simpa [N] using h2
  have hden : (lookX (.over c (.num (Int.ofNat o)) s) E.rw).den.list = c.den.list.take o ++ s.den.list ++ c.den.list.drop (o + s.den.list.length) := by
    rw [look_ok hE]; rfl
  have hCl : C.size = c.den.list.length := by have := congrArg List.length hC; simpa using this
  by_cases hl : L = 0
  · have hN0 : N = [] := List.eq_nil_of_length_eq_zero (by omega)
    refine ⟨goInt (Nat.min L L), w, σ, ?_, Sub.le_refl _, ?_, by rw [show Nat.min L L = L from Nat.min_self L]; exact hmk⟩
    · rw [hN0] at hfirst
      simp only [Builtin.copy_, List.getElem?_toArray, List.getElem?_cons_zero, List.getElem?_cons_succ, Sem.run_bind, run_und hE hu, Result.andThen_ok, hlenOf, run_size hE hs, hfirst, Sem.run_pure]
      rfl
    · refine hH.put (w' := w) hg rfl rfl hr (Below.refl _ _) (Nat.le_refl _) (fun _ _ _ => rfl) ⟨hB, hb0, C, e', F, hw, hCs, hF, ?_⟩
      rw [hden, hC]
      have : s.den.list = [] := List.eq_nil_of_length_eq_zero (by omega)
      rw [this]; simp
  · have ha : a = o := by rcases b3 with b3 | b3 <;> omega
    subst ha
    have hfit : a + N.length ≤ C.size := by omega
    have hcell : ∀ j, j < N.length → (w.cell? ⟨r.block, a + j, none⟩).isSome = true := by
      intro j hj
      have hlt : a + j < C.size := by omega
      simp [World.cell?, hw, hlt]
    have hfro : ∀ j, j < N.length → w.frozen? ⟨r.block, a + j, none⟩ = false := by
      intro j hj
      have := hF (a + j) (by omega)
      simp only [World.frozen?, hw]
      obtain ⟨lo, hi⟩ := F
      simp only at this ⊢
      simpa using this
    have hone : ∀ x ∈ N, x.oneCell' = true := by
      intro x hx
      simp only [N, List.mem_map] at hx
      obtain ⟨m, _, rfl⟩ := hx
      rfl
    have hst : (storeCells ⟨r.block, a, none⟩ N).run P w = .ok () (w.setCells r.block a N) := by
      have := run_storeCells_cells (P := P) r.block a N 0 w (by simpa using hcell) (by simpa using hfro) hone
      simpa using this
    obtain ⟨C', c1, c2, c3⟩ := heap_setCells r.block N a w C e' F hw hfit
    refine ⟨goInt (Nat.min L L), w.setCells r.block a N, σ, ?_, Sub.le_refl _, ?_, by rw [show Nat.min L L = L from Nat.min_self L]; exact hmk⟩
    · simp only [Builtin.copy_, List.getElem?_toArray, List.getElem?_cons_zero, List.getElem?_cons_succ, Sem.run_bind, run_und hE hu, Result.andThen_ok, hlenOf, run_size hE hs, hfirst, hst, Sem.run_pure]
    · refine hH.put hg rfl rfl hr (Below.setCells hB N a w w (Below.refl _ _)) (by rw [setCells_size]; exact Nat.le_refl _) (fun j hj _ => setCells_other _ _ _ _ _ hj) ⟨hB, hb0, C', e', F, c1, by rw [c2, hCs], hF, ?_⟩
      rw [hden]
      apply List.ext_getElem?
      intro k
      have hk : C'.toList[k]? = C'[k]? := by simp
      have hk2 : ∀ j : Nat, C[j]? = (c.den.list[j]?).map (Value.int .u8) := by
        intro j
        have : C[j]? = C.toList[j]? := by simp
        rw [this, hC, List.getElem?_map]
      rw [hk, c3, hN, hlen]
      simp only [N, List.getElem?_map, hk2]
      by_cases q1 : a ≤ k ∧ k < a + L
      · rw [if_pos q1, List.append_assoc, List.getElem?_append_right (by simp; omega), List.getElem?_append_left (by simp; omega)]
        rw [List.length_take, Nat.min_eq_left (by omega)]
      · rw [if_neg q1]
        by_cases q2 : k < a
        · rw [List.append_assoc, List.getElem?_append_left (by simp; omega), List.getElem?_take, if_pos q2]
        · rw [List.getElem?_append_right (by simp; omega), List.getElem?_drop]
          congr 2
          simp; omega

theorem rangeX_ok {t kt et : TypeId} {r c : Nat} {x' : Value} (hu : E.und t = some (.map kt et)) (hg : h.t.get r = some (.map [] c)) {b : Nat} {h' : Hp} (ha : h.alloc (.mit r) = some (b, h')) (hx : VRel σ (.map r) x') :
    ∃ v' w' τ, (Instr.range t x').run P w = .ok v' w' ∧ σ.le τ ∧ HRel G w0 B τ h' w' ∧ VRel τ (.ptr b 0) v' := by
  simp only [VRel] at hx
  obtain ⟨q, hq, rfl⟩ := hx
  obtain ⟨q', hq', hB, ES, hw, _⟩ := map_obj hH hg hq
  rw [hq] at hq'; cases hq'
  have hle : σ.le (σ.add h.n ⟨w.heap.size, 0, 0⟩) := Sub.le_add hH.fresh
  obtain ⟨rfl, hA⟩ := hH.alloc ha (.mapIter (some q.block) c #[] c) (r := ⟨w.heap.size, 0, 0⟩) rfl ⟨hH.Bsize, rfl, q, c, c, hle _ _ hq, heap_alloc_new _ _⟩
  refine ⟨.pointer (some ⟨w.heap.size, 0, none⟩), _, _, ?_, hle, hA, by simp only [VRel]; exact ⟨_, Sub.add_same _ _ _, rfl⟩⟩
  simp [Instr.range, run_und hE hu, run_getObj_map hw]

 omit hE in
theorem nextX_ok {r m c : Nat} {ty : TypeId} {x' : Value} (hg : h.t.get r = some (.mit m)) (hm : h.t.get m = some (.map [] c)) (hx : VRel σ (.ptr r 0) x') :
    ∃ v' w' τ, (Instr.next x' false ty).run P w = .ok v' w' ∧ σ.le τ ∧ HRel G w0 B τ h w' ∧ VRel τ (.tuple [.bool false]) v' := by
  simp only [VRel] at hx
  obtain ⟨q, hq, rfl⟩ := hx
  obtain ⟨hB, hb0, p, s, l, hp, hw⟩ := hH.rel r _ hg rfl q hq
  obtain ⟨p', hp', hB', ES, hw', hes⟩ := map_obj hH hm hp
  rw [hp] at hp'; cases hp'
  simp only [ERels] at hes
  have hES : ES = #[] := by apply Array.ext'; simpa using hes
  subst hES
  have hgo : (getObj q.block).run P w = .ok (.mapIter (some p.block) s #[] l) w := by simp [getObj, Sem.run, hw]
  refine ⟨.tuple #[.bool false], w, σ, ?_, Sub.le_refl _, hH, by simp only [VRel]; exact ⟨_, rfl, by simp [VRels, VRel]⟩⟩
  rw [hb0]
  have hf : ∀ p : MapEntry → Bool, Array.filter p #[] = #[] := fun p => by simp
  simp only [Instr.next, Nat.zero_add, Nat.add_zero, Sem.run_bind, hgo, Result.andThen_ok, run_getObj_map hw', hf]
  simp [run_choose, Question.forced]

theorem loudS_ok {o : Oper} {ρ : Operand → V} {ρ' : Operand → Value} (hρ : ∀ x, VRel σ (ρ x) (ρ' x)) {v : V} {h' : Hp} (hq : loudS E o.op ρ h = some (v, h')) :
    LPost G w0 B σ h' v ((execOp ρ' o).run P w) := by
  have lift : ∀ {s : Sem Value}, (∃ v' w' τ, s.run P w = .ok v' w' ∧ σ.le τ ∧ HRel G w0 B τ h' w' ∧ VRel τ v v') → LPost G w0 B σ h' v ((do pure (Next.value (← s)) : Sem Next).run P w) := by
    rintro s ⟨v', w', τ, h1, h2⟩
    exact ⟨v', w', τ, .inl (by simp [h1]), h2⟩
  obtain ⟨dst, op, type, pos, after, guard⟩ := o
  simp only at hq
  unfold loudS at hq
  split at hq
  · rename_i t l c
    split at hq
    case h_2 => cases hq
    rename_i e a a' hu hl hc
    split at hq
    case h_2 => cases hq
    rename_i he hs hb hz
    split at hq
    case h_2 => cases hq
    rename_i q1 q2 q3
    split at hq
    · rename_i b h2 ha
      cases hq
      have e1 := hρ l; have e2 := hρ c
      rw [hl] at e1; rw [hc] at e2
      simp only [VRel, tv] at e1 e2
      rw [← SX.beq_eq _ _ q1] at e2
      refine lift ?_
      rw [e1, e2]
      exact makeSliceX_ok hE hH hu hs hb hz q2 q3 ha
    · cases hq
  · rename_i t x
    split at hq
    case h_2 => cases hq
    rename_i kt et r hu hx
    split at hq
    case h_2 => cases hq
    rename_i c hg
    split at hq
    · rename_i b h2 ha
      cases hq
      have e1 := hρ x
      rw [hx] at e1
      exact lift (rangeX_ok hE hH hu hg ha e1)
    · cases hq
  · rename_i it
    split at hq
    case h_2 => cases hq
    rename_i r hi
    split at hq
    case h_2 => cases hq
    rename_i m hg
    split at hq
    · rename_i c hm
      cases hq
      have e1 := hρ it
      rw [hi] at e1
      exact lift (nextX_ok hH hg hm e1)
    · cases hq
  · rename_i args argTypes
    split at hq
    case h_2 => cases hq
    rename_i d s dT sT e1 e2
    split at hq
    case h_2 => cases hq
    rename_i e b o n sx hu hd hsx
    split at hq
    case h_2 => cases hq
    rename_i c q1 q2 q3 q4
    cases hq
    have f1 := hρ d
    rw [hd] at f1
    have f2 := xTxt_ok hsx (hρ s)
    obtain ⟨v', w', τ, h1, h2⟩ := copyX_ok (P := P) (ty := type) (sT := sT) hE hH hu q1 q2 q3 q4 f1
    refine ⟨v', w', τ, .inl ?_, h2⟩
    have e1 := array_cons e1; have e2 := array_cons e2; subst e1; subst e2
    simp [execOp, resolve, invoke, builtin, f2, h1]
  · cases hq
end
end Go.Bx
