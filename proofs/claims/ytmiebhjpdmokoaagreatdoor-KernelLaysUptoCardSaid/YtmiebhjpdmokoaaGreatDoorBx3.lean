/- Laws of the evaluator's small functions against the model's own. -/
import Derived.Test.YtmiebhjpdmokoaaGreatDoorBx2
import Derived.Laws.Entries
import Derived.Laws.Strings
import Derived.Laws.Concat
import Derived.Laws.StructEq
set_option linter.all false
namespace Go.Bx
open Go.RowKit
variable [Valn]

theorem intBeq_eq (a b : Int) : intBeq a b = (a == b) := by
  cases a <;> cases b <;> simp [intBeq] <;> (try (rw [Bool.eq_iff_iff]; simp)) <;> omega

theorem intLe_eq (a b : Int) : intLe a b = decide (a ≤ b) := by
  cases a <;> cases b <;> simp only [intLe]
  · rw [Bool.eq_iff_iff]; simp
  · simp; omega
  · simp; omega
  · rw [Bool.eq_iff_iff]; simp; omega

theorem intLt_eq (a b : Int) : intLt a b = decide (a < b) := by
  unfold intLt; rw [intLe_eq, Bool.eq_iff_iff]; simp

theorem kindBeq_eq {a b : IntKind} (h : kindBeq a b = true) : a = b := by
  cases a <;> cases b <;> first | rfl | (simp [kindBeq] at h)

theorem wrapK_eq (k : IntKind) (n : Int) : wrapK k n = k.wrap n := by
  have e : ∀ m : Int, n.emod m = n % m := fun _ => rfl
  have s : ∀ a b : Int, Int.sub a b = a - b := fun _ _ => rfl
  cases k <;> simp only [wrapK, IntKind.wrap, IntKind.bits, IntKind.signed, e, intLt_eq, s]
  all_goals first
    | (simp; done)
    | (split <;> rename_i h <;> simp at h ⊢ <;> omega)

theorem toBits_eq (k : IntKind) (n : Int) : toBits k n = (BitVec.ofInt k.bits n).toNat := by
  rw [BitVec.toNat_ofInt]
  cases k <;> rfl

theorem fullBits_eq (k : IntKind) : fullBits k = 2 ^ k.bits - 1 := by cases k <;> rfl

theorem toBits_lt (k : IntKind) (n : Int) : toBits k n < 2 ^ k.bits := by rw [toBits_eq]; exact BitVec.isLt _

theorem bitsOf_eq (k : IntKind) : bitsOf k = k.bits := by cases k <;> rfl

theorem andNot_nat (w : Nat) (a b : BitVec w) : (a &&& ~~~b).toNat = Nat.land a.toNat (Nat.sub (2 ^ w - 1) b.toNat) := by
  rw [BitVec.toNat_and, BitVec.toNat_not]
  rfl

theorem minN_eq (a b : Nat) : minN a b = min a b := by
  unfold minN
  cases hb : Nat.ble a b with
  | true => have := Nat.le_of_ble_eq_true hb; simp; omega
  | false =>
    have : ¬ a ≤ b := fun h => by rw [Nat.ble_eq_true_of_le h] at hb; cases hb
    simp; omega

section
variable {P : Program}

theorem intOp_run {op : BinOp} {t : TypeId} {k : IntKind} {a b : Int} {v : V} (h : intOp op k a b = some v) (hs : op ≠ .shl ∧ op ≠ .shr) (w : World) :
    ∃ v', (binOp op t (.int k a) (.int k b)).run P w = .ok v' w ∧ ∀ σ, VRel σ v v' := by
  cases op <;> simp only [intOp] at h <;> first
    | (exact absurd rfl hs.1)
    | (exact absurd rfl hs.2)
    | (simp at h; done)
    | skip
  case add => cases h; exact ⟨_, by simp [binOp_add, Op.intArith]; rfl, fun σ => by simp [VRel, wrapK_eq]⟩
  case sub => cases h; exact ⟨_, by simp [binOp_sub, Op.intArith]; rfl, fun σ => by simp [VRel, wrapK_eq]⟩
  case mul => cases h; exact ⟨_, by simp [binOp_mul, Op.intArith]; rfl, fun σ => by simp [VRel, wrapK_eq]⟩
  case quo =>
    cases hb : intBeq b 0 with
    | true => simp [hb] at h
    | false =>
      simp only [hb] at h; cases h
      have hb0 : b ≠ 0 := by rw [intBeq_eq] at hb; simpa using hb
      exact ⟨_, by simp [binOp_quo, Op.intDiv, hb0]; rfl, fun σ => by simp [VRel, wrapK_eq]⟩
  case rem =>
    cases hb : intBeq b 0 with
    | true => simp [hb] at h
    | false =>
      simp only [hb] at h; cases h
      have hb0 : b ≠ 0 := by rw [intBeq_eq] at hb; simpa using hb
      exact ⟨_, by simp [binOp_rem, Op.intDiv, hb0]; rfl, fun σ => by simp [VRel]⟩
  case and => cases h; exact ⟨_, by simp only [binOp_and, Op.intBits]; rfl, fun σ => by simp only [VRel, wrapK_eq, toBits_eq]; rfl⟩
  case or => cases h; exact ⟨_, by simp only [binOp_or, Op.intBits]; rfl, fun σ => by simp only [VRel, wrapK_eq, toBits_eq]; rfl⟩
  case xor => cases h; exact ⟨_, by simp only [binOp_xor, Op.intBits]; rfl, fun σ => by simp only [VRel, wrapK_eq, toBits_eq]; rfl⟩
  case andNot =>
    cases h
    exact ⟨_, by simp only [binOp_andNot, Op.intBits]; rfl, fun σ => by
      simp only [VRel, wrapK_eq, toBits_eq, fullBits_eq, andNot_nat]; rfl⟩
  case eql => cases h; exact ⟨_, by simp only [binOp_eql]; rfl, fun σ => by simp [VRel, intBeq_eq]⟩
  case neq => cases h; exact ⟨_, by simp only [binOp_neq]; rfl, fun σ => by simp [VRel, intBeq_eq]; rfl⟩
  case lss => cases h; exact ⟨_, by simp only [binOp_lss]; rfl, fun σ => by simp [VRel, intLt_eq]⟩
  case leq => cases h; exact ⟨_, by simp only [binOp_leq]; rfl, fun σ => by simp [VRel, intLe_eq]⟩
  case gtr => cases h; exact ⟨_, by simp only [binOp_gtr]; rfl, fun σ => by simp [VRel, intLt_eq]⟩
  case geq => cases h; exact ⟨_, by simp only [binOp_geq]; rfl, fun σ => by simp [VRel, intLe_eq]⟩

theorem shiftOp_run {op : BinOp} {t : TypeId} {k yk : IntKind} {a b : Int} {v : V} (h : shiftOp op k a b = some v) (w : World) :
    ∃ v', (binOp op t (.int k a) (.int yk b)).run P w = .ok v' w ∧ ∀ σ, VRel σ v v' := by
  cases b with
  | negSucc m => simp [shiftOp] at h
  | ofNat m =>
    have hn : minN m (bitsOf k) = min m k.bits := by rw [minN_eq, bitsOf_eq]
    simp only [shiftOp, hn] at h
    have h0 : ¬ ((Int.ofNat m) < 0) := by simp
    cases op <;> simp at h
    case shl =>
      cases h
      exact ⟨_, by simp only [binOp_shl, Op.shift, h0, if_false]; rfl, fun σ => by simp only [VRel, wrapK_eq]; simp⟩
    case shr =>
      cases h
      exact ⟨_, by simp only [binOp_shr, Op.shift, h0, if_false]; rfl, fun σ => by simp only [VRel]; simp⟩
end

theorem bytesBeq_eq : ∀ a b : List UInt8, bytesBeq a b = (a == b)
  | [], [] => rfl
  | [], _ :: _ => rfl
  | _ :: _, [] => rfl
  | a :: l, b :: m => by
    simp only [bytesBeq, List.cons_beq_cons]
    cases h : Nat.beq a.toNat b.toNat with
    | true =>
      have := Nat.eq_of_beq_eq_true h
      have : a = b := UInt8.toNat_inj.1 this
      simp [this, bytesBeq_eq l m]
    | false =>
      have := Nat.ne_of_beq_eq_false h
      have : a ≠ b := fun e => this (by rw [e])
      simp [this]

theorem strBeq_eq (a b : ByteArray) : strBeq a b = (a.toList == b.toList) := by
  rw [ByteArray.toList_eq, ByteArray.toList_eq]; exact bytesBeq_eq _ _

theorem takeN_some : ∀ (n : Nat) (l r : List V), takeN n l = some r → r.length = n ∧ n ≤ l.length ∧ ∀ k, k < n → r[k]? = l[k]?
  | 0, l, r, h => by simp [takeN] at h; subst h; simp
  | n + 1, [], r, h => by simp [takeN] at h
  | n + 1, v :: l, r, h => by
    simp only [takeN] at h
    cases ht : takeN n l with
    | none => rw [ht] at h; simp at h
    | some s =>
      rw [ht] at h; simp at h; subst h
      obtain ⟨h1, h2, h3⟩ := takeN_some n l s ht
      refine ⟨by simp [h1], by simp; omega, fun k hk => ?_⟩
      cases k with
      | zero => simp
      | succ k => simpa using h3 k (by omega)

theorem dropN_eq : ∀ (n : Nat) (l : List V), dropN n l = l.drop n
  | 0, l => by simp [dropN]
  | n + 1, [] => by simp [dropN]
  | n + 1, v :: l => by simp [dropN, dropN_eq n l]

theorem overlay_some : ∀ (o : Nat) (new old r : List V), overlay o new old = some r →
    r.length = old.length ∧ (new = [] ∨ o + new.length ≤ old.length) ∧ ∀ k, r[k]? = if o ≤ k ∧ k < o + new.length then new[k - o]? else old[k]?
  | o, [], old, r, h => by
    have : r = old := by cases o <;> simp [overlay] at h <;> exact h.symm
    subst this
    exact ⟨rfl, .inl rfl, fun k => by rw [if_neg (by simp)]⟩
  | 0, v :: new, [], r, h => by simp [overlay] at h
  | 0, v :: new, x :: old, r, h => by
    simp only [overlay] at h
    cases ht : overlay 0 new old with
    | none => rw [ht] at h; simp at h
    | some s =>
      rw [ht] at h; simp at h; subst h
      obtain ⟨h1, h2, h3⟩ := overlay_some 0 new old s ht
      refine ⟨by simp [h1], .inr ?_, fun k => ?_⟩
      · rcases h2 with rfl | h2 <;> simp <;> omega
      · cases k with
        | zero => simp
        | succ k =>
          have := h3 k
          simp at this ⊢
          exact this
  | o + 1, v :: new, [], r, h => by simp [overlay] at h
  | o + 1, v :: new, x :: old, r, h => by
    simp only [overlay] at h
    cases ht : overlay o (v :: new) old with
    | none => rw [ht] at h; simp at h
    | some s =>
      rw [ht] at h; simp at h; subst h
      obtain ⟨h1, h2, h3⟩ := overlay_some o (v :: new) old s ht
      refine ⟨by simp [h1], .inr ?_, fun k => ?_⟩
      · rcases h2 with h2 | h2
        · simp at h2
        · simp at h2 ⊢; omega
      · cases k with
        | zero => simp
        | succ k =>
          have := h3 k
          simp only [List.length_cons] at this ⊢
          rw [List.getElem?_cons_succ, this]
          by_cases hc : o ≤ k ∧ k < o + (new.length + 1)
          · rw [if_pos hc, if_pos (by omega), show k + 1 - (o + 1) = k - o by omega]
          · rw [if_neg hc, if_neg (by omega)]; simp

section
variable {G : Nat} {w0 : Base} {B : Nat} {σ : Sub} {h : Hp} {w : World}

/-- Cells that are read: they are there. -/
theorem cellsAt_len {h : Hp} {b o n : Nat} {l : List V} (hc : cellsAt h b o n = some l) : l.length = n := by
  unfold cellsAt at hc
  split at hc
  · exact (takeN_some _ _ _ hc).1
  · exact (takeN_some _ _ _ hc).1
  · cases hc

theorem cellsAt_ok (hH : HRel G w0 B σ h w) {b o n : Nat} {l : List V} (hc : cellsAt h b o n = some l) {r0 : Ren} (hr : σ b = some r0) :
    l.length = n ∧ ∃ r, σ b = some r ∧ ∀ k v, l[k]? = some v → ∃ v', w.cell? ⟨r.block, r.base + o + k, none⟩ = some v' ∧ VRel σ v v' := by
  unfold cellsAt at hc
  have key : ∀ (ob : O) (c : List V), h.t.get b = some ob → ob.isDead = false → (∀ r, ORel σ B r w ob → ∃ C e F, w.heap[r.block]? = some (.cells C e F) ∧ CRel σ c C r.base) →
      takeN n (dropN o c) = some l → l.length = n ∧ ∃ r, σ b = some r ∧ ∀ k v, l[k]? = some v → ∃ v', w.cell? ⟨r.block, r.base + o + k, none⟩ = some v' ∧ VRel σ v v' := by
    intro ob c hg hd hO ht
    have hor := hH.rel b ob hg hd r0 hr
    obtain ⟨C, e, F, hw, hcr⟩ := hO r0 hor
    obtain ⟨h1, h2, h3⟩ := takeN_some _ _ _ ht
    refine ⟨h1, r0, hr, fun k v hk => ?_⟩
    have hkn : k < n := by
      rcases Nat.lt_or_ge k n with h' | h'
      · exact h'
      · rw [List.getElem?_eq_none (by omega)] at hk; cases hk
    have hk' : c[o + k]? = some v := by
      rw [h3 k hkn, dropN_eq, List.getElem?_drop] at hk; exact hk
    obtain ⟨v', hv', hrel⟩ := hcr.2 _ _ hk'
    exact ⟨v', by simp only [World.cell?, hw]; simpa [Nat.add_assoc] using hv', hrel⟩
  cases hg : h.t.get b with
  | none => rw [hg] at hc; simp at hc
  | some ob =>
    rw [hg] at hc
    cases ob with
    | cells c e => exact key _ c hg rfl (fun r hor => by obtain ⟨_, C, e, F, a, _, _, d⟩ := hor; exact ⟨C, e, F, a, d⟩) hc
    | ro c => exact key _ c hg rfl (fun r hor => by obtain ⟨_, C, e, F, a, _, d⟩ := hor; exact ⟨C, e, F, a, d⟩) hc
    | map _ _ => simp at hc
    | iter _ _ => simp at hc
    | coll => simp at hc
    | arr _ => simp at hc
    | xro _ _ => simp at hc
    | mit _ => simp at hc
    | buf _ _ _ _ _ => simp at hc
    | dead => simp at hc

theorem loadCells_ok {P : Program} (hH : HRel G w0 B σ h w) {b o n : Nat} {l : List V} (hc : cellsAt h b o n = some l) {r0 : Ren} (hr0 : σ b = some r0) :
    ∃ r, σ b = some r ∧ ∃ L : List Value, (loadCells ⟨r.block, r.base + o, none⟩ n).run P w = .ok L.toArray w ∧ VRels σ l L := by
  obtain ⟨h1, r, hr, h2⟩ := cellsAt_ok hH hc hr0
  refine ⟨r, hr, ?_⟩
  let L : List Value := l.zipIdx.map fun (_, k) => (w.cell? ⟨r.block, r.base + o + k, none⟩).getD undef
  have hL : L.length = n := by simp [L, h1]
  have hget : ∀ k v, l[k]? = some v → ∃ v', L[k]? = some v' ∧ VRel σ v v' ∧ w.cell? ⟨r.block, r.base + o + k, none⟩ = some v' := by
    intro k v hk
    obtain ⟨v', ha, hb⟩ := h2 k v hk
    exact ⟨v', by simp [L, hk, ha], hb, ha⟩
  refine ⟨L, ?_, (VRels.iff _ _).2 ⟨by simp [L], fun k v hk => let ⟨v', a, b, _⟩ := hget k v hk; ⟨v', a, b⟩⟩⟩
  rw [← hL]
  refine run_loadCells_list w _ L (fun j v hj => ?_)
  have hjl : j < l.length := by rw [h1, ← hL]; exact (List.getElem?_eq_some_iff.1 hj).1
  obtain ⟨v', ha, _, hb⟩ := hget j l[j] (List.getElem?_eq_getElem hjl)
  rw [Addr.add_lit, hb, ← ha, hj]

theorem loadAt_ok {P : Program} {E : Env} (hE : EnvOk P E) (hH : HRel G w0 B σ h w) {t : TypeId} {b o : Nat} {v : V} (hl : loadAt E h t b o = some v) {r0 : Ren} (hr0 : σ b = some r0) :
    ∃ r, σ b = some r ∧ ∃ v', (loadVar t ⟨r.block, r.base + o, none⟩).run P w = .ok v' w ∧ VRel σ v v' := by
  unfold loadAt at hl
  cases ha : E.isAgg t with
  | none => rw [ha] at hl; simp at hl
  | some bb =>
    rw [ha] at hl
    cases hs : E.size t with
    | none => rw [hs] at hl; cases bb <;> simp at hl
    | some n =>
      rw [hs] at hl
      cases bb with
      | true =>
        simp only at hl
        cases hc : cellsAt h b o n with
        | none => rw [hc] at hl; simp at hl
        | some l =>
          rw [hc] at hl; simp at hl; subst hl
          obtain ⟨r, hr, L, h1, h2⟩ := loadCells_ok (P := P) hH hc hr0
          refine ⟨r, hr, .agg L.toArray, ?_, ?_⟩
          · simp [loadVar, run_isAgg hE ha, run_size hE hs, h1]
          · simp only [VRel]; exact ⟨L.toArray, rfl, h2⟩
      | false =>
        simp only at hl
        cases hc : cellsAt h b o 1 with
        | none => rw [hc] at hl; simp at hl
        | some l =>
          rw [hc] at hl
          match l, hl with
          | [x], hl =>
            simp at hl; subst hl
            obtain ⟨_, r, hr, h2⟩ := cellsAt_ok hH hc hr0
            obtain ⟨v', h3, h4⟩ := h2 0 x rfl
            simp only [Nat.add_zero] at h3
            exact ⟨r, hr, v', by simp [loadVar, run_isAgg hE ha, h3], h4⟩

theorem part_ok {P : Program} {E : Env} (hE : EnvOk P E) {t : TypeId} {cs : List V} {off : Nat} {v : V} (hp : part E t cs off = some v) {cs' : Array Value} (hr : VRels σ cs cs'.toList) (w : World) :
    ∃ v', (Go.part t cs' off).run P w = .ok v' w ∧ VRel σ v v' := by
  obtain ⟨hlen, hget⟩ := (VRels.iff _ _).1 hr
  unfold Bx.part at hp
  cases ha : E.isAgg t with
  | none => rw [ha] at hp; simp at hp
  | some bb =>
    rw [ha] at hp
    cases hs : E.size t with
    | none => rw [hs] at hp; cases bb <;> simp at hp
    | some n =>
      rw [hs] at hp
      cases bb with
      | true =>
        simp only at hp
        cases hc : takeN n (dropN off cs) with
        | none => rw [hc] at hp; simp at hp
        | some l =>
          rw [hc] at hp; simp at hp; subst hp
          obtain ⟨h1, h2, h3⟩ := takeN_some _ _ _ hc
          rw [dropN_eq] at h2 h3
          simp only [List.length_drop] at h2
          refine ⟨.agg (cs'.extract off (off + n)), by simp [Go.part, run_isAgg hE ha, run_size hE hs], ?_⟩
          simp only [VRel]
          refine ⟨_, rfl, (VRels.iff _ _).2 ⟨?_, fun k v hk => ?_⟩⟩
          · simp at hlen ⊢; omega
          · have hkn : k < n := by rw [← h1]; exact (List.getElem?_eq_some_iff.1 hk).1
            rw [h3 k hkn, List.getElem?_drop] at hk
            obtain ⟨v', hv, hrel⟩ := hget _ _ hk
            refine ⟨v', ?_, hrel⟩
            simp at hv
            simp [hkn, hv]
      | false =>
        simp only at hp
        cases hc : takeN 1 (dropN off cs) with
        | none => rw [hc] at hp; simp at hp
        | some l =>
          rw [hc] at hp
          match l, hp with
          | [x], hp =>
            simp at hp; subst hp
            obtain ⟨h1, h2, h3⟩ := takeN_some _ _ _ hc
            have := h3 0 (by omega)
            rw [dropN_eq, List.getElem?_drop] at this
            simp at this
            obtain ⟨v', hv, hrel⟩ := hget _ _ this.symm
            simp at hv
            exact ⟨v', by simp [Go.part, run_isAgg hE ha, hv], hrel⟩
end
end Go.Bx
