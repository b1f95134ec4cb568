/- The quiet operations, further: conversions, slices, places, lookups, aggregates. -/
import Derived.Test.YtmiebhjpdmokoaaGreatDoorBx5
import Derived.Laws.BytesString
set_option linter.all false
namespace Go.Bx
open Go.RowKit
variable [Valn]

theorem bytesOfCells_ok {σ : Sub} : ∀ (cs : List V) (l : List UInt8) (cs' : List Value), bytesOfCells cs = some l → VRels σ cs cs' →
    ∃ ns : List Int, cs' = ns.map (Value.int .u8) ∧ l = ns.map (fun n => UInt8.ofNat n.toNat)
  | [], l, cs', h, hr => by
    simp only [bytesOfCells, Option.some.injEq] at h; subst h
    simp only [VRels] at hr; subst hr
    exact ⟨[], rfl, rfl⟩
  | c :: cs, l, cs', h, hr => by
    simp only [VRels] at hr
    obtain ⟨v', l', rfl, hv, hl⟩ := hr
    unfold bytesOfCells at h
    split at h
    · rename_i heq; cases heq
    · rename_i n l0 heq
      cases heq
      cases hb : bytesOfCells cs with
      | none => rw [hb] at h; simp at h
      | some r =>
        rw [hb] at h; simp only [Option.some.injEq] at h; subst h
        obtain ⟨ns, e1, e2⟩ := bytesOfCells_ok cs r l' hb hl
        simp only [VRel] at hv; subst hv
        exact ⟨n :: ns, by simp [e1], by simp [e2]⟩
    · cases h

theorem foldl_push (ns : List Int) : ∀ s : ByteArray, ns.foldl (fun r n => r.push (UInt8.ofNat n.toNat)) s = ⟨⟨s.data.toList ++ ns.map (fun n => UInt8.ofNat n.toNat)⟩⟩ := by
  induction ns with
  | nil => intro s; obtain ⟨⟨l⟩⟩ := s; simp
  | cons n ns ih =>
    intro s
    rw [List.foldl_cons, ih]
    obtain ⟨⟨l⟩⟩ := s
    simp [ByteArray.push]

theorem VRel.slice_cases {σ : Sub} {x : V} {b o len : Nat} (hx : (∃ cap, x = .slice b o len cap) ∨ (∃ cap sz, x = .oslice b o len cap sz)) {x' : Value} (h : VRel σ x x') :
    ∃ r a cap', σ b = some r ∧ x' = .slice (some ⟨r.block, a, none⟩) len cap' ∧ (len = 0 ∨ a = r.base + o) := by
  rcases hx with ⟨cap, rfl⟩ | ⟨cap, sz, rfl⟩
  · simp only [VRel] at h; obtain ⟨r, h1, h2⟩ := h; exact ⟨r, _, cap, h1, h2, .inr rfl⟩
  · simp only [VRel] at h
    obtain ⟨r, a, cap', h1, h2, h3, h4, h5, _⟩ := h
    refine ⟨r, a, cap', h1, h2, ?_⟩
    rcases h5 with h5 | h5
    · left; omega
    · exact .inr h5

section
variable {P : Program} {E : Env} (hE : EnvOk P E) {σ : Sub} {G : Nat} {w0 : Base} {B : Nat} {h : Hp} {w : World} (hH : HRel G w0 B σ h w)
 include hE

section
 include hH
 omit hE in
theorem loadCells_slice {b o n : Nat} {l : List V} {r : Ren} {a : Nat} (hr : σ b = some r) (hc : cellsAt h b o n = some l) (ha : n = 0 ∨ a = r.base + o) :
    ∃ L : List Value, (loadCells ⟨r.block, a, none⟩ n).run P w = .ok L.toArray w ∧ VRels σ l L := by
  rcases ha with rfl | rfl
  · have h1 := cellsAt_len hc
    have : l = [] := List.eq_nil_of_length_eq_zero h1
    subst this
    exact ⟨[], by simpa using run_loadCells_list (P := P) w ⟨r.block, a, none⟩ [] (by simp), by simp [VRels]⟩
  · obtain ⟨r', hr', L, h1, h2⟩ := loadCells_ok (P := P) hH hc hr
    rw [hr] at hr'; cases hr'
    exact ⟨L, h1, h2⟩

theorem convQ_ok {src dst : TypeId} {x v : V} {x' : Value} (hq : convQ E src dst x h = some v) (hx : VRel σ x x') :
    ∃ v', (convert src dst x').run P w = .ok v' w ∧ VRel σ v v' := by
  unfold convQ at hq
  split at hq
  · rename_i hs hd
    simp only [VRel] at hx; subst hx; cases hq
    exact ⟨_, by simp [convert, run_und hE hs, run_und hE hd, Conv.intToInt]; rfl, by simp [VRel, wrapK_eq]⟩
  · rename_i hs hd
    simp only [VRel] at hx; subst hx; cases hq
    exact ⟨_, by simp [convert, run_und hE hs, run_und hE hd]; rfl, by simp [VRel]⟩
  · rename_i e hs hd
    simp only [VRel] at hx; subst hx
    split at hq
    · rename_i he
      cases hq
      exact ⟨_, by simp [convert, run_und hE hs, run_und hE hd, run_und hE he, Conv.bytesToString]; rfl, by simp [VRel]⟩
    · cases hq
  · rename_i e b o len cap hs hd
    obtain ⟨r, a, cap', hr, rfl, ha⟩ := VRel.slice_cases (b := b) (o := o) (len := len) (.inl ⟨_, rfl⟩) hx
    split at hq
    · rename_i cs he hc
      split at hq
      · rename_i l hl
        cases hq
        obtain ⟨L, h1, h2⟩ := loadCells_slice hH hr hc ha
        obtain ⟨ns, rfl, e2⟩ := bytesOfCells_ok cs l L hl h2
        refine ⟨_, by simp only [convert, Sem.run_bind, run_und hE hs, run_und hE hd, run_und hE he, Result.andThen_ok]; exact run_bytesToString w _ len cap' ns h1, ?_⟩
        simp only [VRel, foldl_push]; simp [e2]
      · cases hq
    · cases hq
  · rename_i e b o len cap sz hs hd
    obtain ⟨r, a, cap', hr, rfl, ha⟩ := VRel.slice_cases (b := b) (o := o) (len := len) (.inr ⟨_, _, rfl⟩) hx
    split at hq
    · rename_i cs he hc
      split at hq
      · rename_i l hl
        cases hq
        obtain ⟨L, h1, h2⟩ := loadCells_slice hH hr hc ha
        obtain ⟨ns, rfl, e2⟩ := bytesOfCells_ok cs l L hl h2
        refine ⟨_, by simp only [convert, Sem.run_bind, run_und hE hs, run_und hE hd, run_und hE he, Result.andThen_ok]; exact run_bytesToString w _ len cap' ns h1, ?_⟩
        simp only [VRel, foldl_push]; simp [e2]
      · cases hq
    · cases hq
  · cases hq
end

def NRel : Option Nat → Option Value → Prop
  | none, v => v = none
  | some n, v => ∃ k, v = some (.int k (n : Int))

 omit hE in
theorem natOf_ok {x : V} {n : Nat} {x' : Value} (h : natOf x = some n) (hx : VRel σ x x') : ∃ k, x' = .int k (n : Int) := by
  unfold natOf at h
  split at h
  · simp only [Option.some.injEq] at h; subst h
    simp only [VRel] at hx; exact ⟨_, hx⟩
  · cases h

 omit hE in
theorem optNat_ok {ρ : Operand → V} {ρ' : Operand → Value} (hρ : ∀ x, VRel σ (ρ x) (ρ' x)) {x : Option Operand} {n : Option Nat} (h : optNat ρ x = some n) : NRel n (x.map ρ') := by
  cases x with
  | none => simp only [optNat, Option.some.injEq] at h; subst h; simp [NRel]
  | some y =>
    simp only [optNat] at h
    split at h
    · rename_i m hm
      cases h
      obtain ⟨k, hk⟩ := natOf_ok hm (hρ y)
      exact ⟨k, by simp [hk]⟩
    · cases h

 omit hE in
theorem sliceBounds_ok {isSlice : Bool} {len cap cap' : Nat} {lo hi mx : Option Nat} {l hh m : Nat} {lo' hi' mx' : Option Value} (hb : bounds3 len cap lo hi mx = some (l, hh, m)) (hcap : cap ≤ cap')
    (h1 : NRel lo lo') (h2 : NRel hi hi') (h3 : NRel mx mx') (w : World) :
    (Instr.sliceBounds isSlice len cap' lo' hi' mx').run P w = .ok (l, hh, if mx = none then cap' else m) w ∧ l ≤ hh ∧ hh ≤ m ∧ m ≤ cap ∧ (mx = none → m = cap) := by
  have sb : ∀ (k : IntKind) (n y : Nat) (c : BoundsCode), n ≤ y → (Instr.sliceBound (.int k (n : Int)) y c).run P w = .ok n w := by
    intro k n y c hny
    have := run_sliceBound (P := P) w k (n : Int) y c (by simp) (by simpa using hny)
    simpa using this
  unfold bounds3 at hb
  simp only at hb
  split at hb
  · rename_i e1 e2 e3
    have e1 := Nat.le_of_ble_eq_true e1
    have e2 := Nat.le_of_ble_eq_true e2
    have e3 := Nat.le_of_ble_eq_true e3
    split at hb
    · cases hb
    · cases hb
      refine ⟨?_, e3, e2, e1, fun h => by subst h; rfl⟩
      unfold Instr.sliceBounds
      cases mx with
      | none =>
        simp only [NRel] at h3; subst h3
        simp only at e1 e2 e3
        cases hi with
        | none =>
          simp only [NRel] at h2; subst h2
          simp only at e2 e3
          cases lo with
          | none => simp only [NRel] at h1; subst h1; simp
          | some l0 =>
            simp only [NRel] at h1; obtain ⟨k, rfl⟩ := h1
            simp [sb k l0 len _ (by simpa using e3)]
        | some h0 =>
          simp only [NRel] at h2; obtain ⟨k2, rfl⟩ := h2
          simp only at e2 e3
          cases lo with
          | none => simp only [NRel] at h1; subst h1; simp [sb k2 h0 cap' _ (by omega)]
          | some l0 =>
            simp only [NRel] at h1; obtain ⟨k, rfl⟩ := h1
            simp [sb k2 h0 cap' _ (by omega), sb k l0 h0 _ (by simpa using e3)]
      | some m0 =>
        simp only [NRel] at h3; obtain ⟨k3, rfl⟩ := h3
        simp only at e1 e2 e3
        cases hi with
        | none => rename_i hne; exact absurd rfl (hne m0 rfl)
        | some h0 =>
          simp only [NRel] at h2; obtain ⟨k2, rfl⟩ := h2
          simp only at e2 e3
          cases lo with
          | none => simp only [NRel] at h1; subst h1; simp [sb k3 m0 cap' _ (by omega), sb k2 h0 m0 _ (by omega)]
          | some l0 =>
            simp only [NRel] at h1; obtain ⟨k, rfl⟩ := h1
            simp [sb k3 m0 cap' _ (by omega), sb k2 h0 m0 _ (by omega), sb k l0 h0 _ (by simpa using e3)]
  · cases hb

theorem sliceQ_ok {t : TypeId} {x v : V} {lo hi mx : Option Nat} {x' : Value} {lo' hi' mx' : Option Value} (hq : sliceQ E t x lo hi mx = some v) (hx : VRel σ x x')
    (h1 : NRel lo lo') (h2 : NRel hi hi') (h3 : NRel mx mx') (w : World) :
    ∃ v', (Instr.sliceAt t x' lo' hi' mx').run P w = .ok v' w ∧ VRel σ v v' := by
  unfold sliceQ at hq
  split at hq
  · -- an array's address
    rename_i n e b o hu
    simp only [VRel] at hx; obtain ⟨r, hr, rfl⟩ := hx
    split at hq
    · rename_i l hh m s hb hs
      cases hq
      simp only [NRel] at h3; subst h3
      obtain ⟨hrun, a1, a2, a3, a4⟩ := sliceBounds_ok (P := P) (isSlice := false) hb (Nat.le_refl _) h1 h2 (mx' := none) (by simp [NRel]) w
      have hm : m = n := a4 rfl
      subst hm
      refine ⟨_, by simp [Instr.sliceAt, run_und hE hu, Instr.sureAddr, hrun, run_size hE hs]; rfl, ?_⟩
      simp only [VRel]
      refine ⟨r, hr, ?_⟩
      by_cases hml : m = l
      · subst hml
        simp [Nat.beq_refl]
      · have : Nat.beq m l = false := by rw [← Bool.not_eq_true]; intro h; exact hml (Nat.eq_of_beq_eq_true h)
        simp [hml, this, Addr.add_lit, Nat.add_assoc]
    · cases hq
  · rename_i s hu
    simp only [VRel] at hx; subst hx
    split at hq
    · rename_i l hh m hb
      cases hq
      simp only [NRel] at h3; subst h3
      obtain ⟨hrun, a1, a2, a3, a4⟩ := sliceBounds_ok (P := P) (isSlice := false) hb (Nat.le_refl _) h1 h2 (mx' := none) (by simp [NRel]) w
      refine ⟨_, by simp [Instr.sliceAt, Instr.slice, run_und hE hu, hrun]; rfl, ?_⟩
      simp only [VRel]
      congr 1
      obtain ⟨⟨d⟩⟩ := s
      apply ByteArray.ext
      apply Array.ext'
      simp [ByteArray.data_extract]
    · cases hq
  · rename_i e hu
    simp only [VRel] at hx; subst hx
    split at hq
    · rename_i q s hb hs
      cases hq
      obtain ⟨l, hh, m⟩ := q
      obtain ⟨hrun, a1, a2, a3, a4⟩ := sliceBounds_ok (P := P) (isSlice := true) hb (Nat.le_refl _) h1 h2 h3 w
      refine ⟨_, by simp [Instr.sliceAt, Instr.slice, run_und hE hu, hrun, run_size hE hs]; rfl, ?_⟩
      simp only [VRel]
      have : l = 0 ∧ hh = 0 ∧ m = 0 := by omega
      obtain ⟨rfl, rfl, rfl⟩ := this
      simp
    · cases hq
  · rename_i e b o len cap hu
    simp only [VRel] at hx; obtain ⟨r, hr, rfl⟩ := hx
    split at hq
    · rename_i l hh m s hb hs
      cases hq
      obtain ⟨hrun, a1, a2, a3, a4⟩ := sliceBounds_ok (P := P) (isSlice := true) hb (Nat.le_refl _) h1 h2 h3 w
      have hm : (if mx = none then cap else m) = m := by split; (exact (a4 ‹_›).symm); rfl
      rw [hm] at hrun
      refine ⟨_, by simp [Instr.sliceAt, Instr.slice, run_und hE hu, hrun, run_size hE hs]; rfl, ?_⟩
      simp only [VRel]
      refine ⟨r, hr, ?_⟩
      by_cases hml : m = l
      · subst hml; simp [Nat.beq_refl]
      · have : Nat.beq m l = false := by rw [← Bool.not_eq_true]; intro h; exact hml (Nat.eq_of_beq_eq_true h)
        simp [hml, this, Addr.add_lit, Nat.add_assoc]
    · cases hq
  · rename_i e b o len cap sz hu
    simp only [VRel] at hx; obtain ⟨r, a, cap', hr, rfl, b1, b2, b3, b4, b5⟩ := hx
    split at hq
    · rename_i l hh m s hb hs
      split at hq
      · rename_i m0 hz
        cases hq
        have hz := Nat.eq_of_beq_eq_true hz; subst hz
        obtain ⟨hrun, a1, a2, a3, a4⟩ := sliceBounds_ok (P := P) (isSlice := true) hb b2 h1 h2 h3 w
        simp only [reduceCtorEq, if_false] at hrun
        have : l = 0 ∧ hh = 0 ∧ m = 0 := by omega
        obtain ⟨rfl, rfl, rfl⟩ := this
        refine ⟨_, by simp [Instr.sliceAt, Instr.slice, run_und hE hu, hrun, run_size hE hs]; rfl, ?_⟩
        simp only [VRel]
        exact ⟨r, a, 0, hr, rfl, by omega, by omega, .inl trivial, by simp; omega, b5⟩
      · rename_i m0 c0 hz
        cases hq
        have hz := Nat.eq_of_beq_eq_true hz; subst hz
        obtain ⟨hrun, a1, a2, a3, a4⟩ := sliceBounds_ok (P := P) (isSlice := true) hb b2 h1 h2 h3 w
        simp only [reduceCtorEq, if_false] at hrun
        refine ⟨_, by simp [Instr.sliceAt, Instr.slice, run_und hE hu, hrun, run_size hE hs]; rfl, ?_⟩
        simp only [VRel]
        have ha : a = r.base + o := by rcases b3 with b3 | b3; (omega); exact b3
        subst ha
        refine ⟨r, hr, ?_⟩
        by_cases hml : m = l
        · subst hml; simp [Nat.beq_refl]
        · have : Nat.beq m l = false := by rw [← Bool.not_eq_true]; intro h; exact hml (Nat.eq_of_beq_eq_true h)
          simp [hml, this, Addr.add_lit, Nat.add_assoc]
      · rename_i hz
        cases hq
        have hz := Nat.eq_of_beq_eq_true hz; subst hz
        obtain ⟨hrun, a1, a2, a3, a4⟩ := sliceBounds_ok (P := P) (isSlice := true) hb b2 h1 h2 h3 w
        simp only [if_true] at hrun
        have hm := a4 rfl
        subst hm
        refine ⟨_, by simp [Instr.sliceAt, Instr.slice, run_und hE hu, hrun, run_size hE hs]; rfl, ?_⟩
        simp only [VRel]
        by_cases hml : cap' = l
        · subst hml
          have : m = cap' := by omega
          subst this
          refine ⟨r, a, 0, hr, by simp, by omega, by omega, .inl (by omega), by simp; omega, b5⟩
        · refine ⟨r, a + l * s, cap' - l, hr, by simp [hml, Addr.add_lit], by omega, by omega, ?_, ?_, by omega⟩
          · rcases b3 with b3 | b3
            · left; omega
            · by_cases hc : m - l = 0
              · exact .inl hc
              · right; omega
          · have : l * s + (cap' - l) * s = cap' * s := by rw [← Nat.add_mul]; congr 1; omega
            omega
      · cases hq
    · cases hq
  · cases hq

end
end Go.Bx
