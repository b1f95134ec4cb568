/- The operations that act: maps. -/
import Derived.Test.YtmiebhjpdmokoaaGreatDoorBx9
set_option linter.all false
namespace Go.Bx
open Go.RowKit
variable [Valn]

theorem ERels.iff {σ : Sub} : ∀ (es : List (V × V × Nat)) (ES : List MapEntry), ERels σ es ES ↔
    ES.length = es.length ∧ ∀ (i : Nat) (x : V × V × Nat), es[i]? = some x → ∃ e, ES[i]? = some e ∧ VRel σ x.1 e.key ∧ VRel σ x.2.1 e.val ∧ e.born = x.2.2
  | [], ES => by simp [ERels]
  | (k, v, b) :: es, ES => by
    simp only [ERels]
    constructor
    · rintro ⟨k', v', l', rfl, h1, h2, h3⟩
      obtain ⟨a1, a2⟩ := (ERels.iff es l').1 h3
      refine ⟨by simp [a1], fun i x hx => ?_⟩
      cases i with
      | zero => simp at hx; subst hx; exact ⟨_, rfl, h1, h2, rfl⟩
      | succ i => simpa using a2 i x (by simpa using hx)
    · rintro ⟨h1, h2⟩
      cases ES with
      | nil => simp at h1
      | cons e l' =>
        obtain ⟨e', he, a, b', c⟩ := h2 0 (k, v, b) rfl
        simp at he; subst he
        refine ⟨e.key, e.val, l', ?_, a, b', (ERels.iff es l').2 ⟨by simpa using h1, fun i x hx => by simpa using h2 (i + 1) x (by simpa using hx)⟩⟩
        simp only at c
        rw [← c]

theorem setNth_eq {α : Type} : ∀ (l : List α) (i : Nat) (a : α), setNth l i a = l.set i a
  | [], _, _ => rfl
  | _ :: _, 0, _ => rfl
  | x :: l, i + 1, a => by simp [setNth, setNth_eq l i a]
theorem delNth_eq {α : Type} : ∀ (l : List α) (i : Nat), delNth l i = l.eraseIdx i
  | [], _ => rfl
  | _ :: _, 0 => rfl
  | x :: l, i + 1 => by simp [delNth, delNth_eq l i]
theorem nthE_eq : ∀ (l : List (V × V × Nat)) (i : Nat), nthE l i = l[i]?
  | [], _ => by simp [nthE]
  | _ :: _, 0 => by simp [nthE]
  | x :: l, i + 1 => by simp [nthE, nthE_eq l i]

theorem ERels.set {σ : Sub} {es : List (V × V × Nat)} {ES : List MapEntry} (h : ERels σ es ES) {i : Nat} {x : V × V × Nat} {f : MapEntry → MapEntry}
    (hf : ∀ e, ES[i]? = some e → VRel σ x.1 (f e).key ∧ VRel σ x.2.1 (f e).val ∧ (f e).born = x.2.2) : ERels σ (es.set i x) (ES.modify i f) := by
  obtain ⟨h1, h2⟩ := (ERels.iff _ _).1 h
  refine (ERels.iff _ _).2 ⟨by simp [h1], fun j y hy => ?_⟩
  rw [List.getElem?_modify]
  rw [List.getElem?_set] at hy
  by_cases e : i = j
  · subst e
    simp only [if_true] at hy ⊢
    split at hy
    · rename_i hlt
      cases hy
      have : i < ES.length := by omega
      refine ⟨f ES[i], by simp [List.getElem?_eq_getElem this], ?_⟩
      exact hf _ (List.getElem?_eq_getElem this)
    · cases hy
  · simp only [e, if_false] at hy ⊢
    simpa using h2 j y hy

theorem ERels.erase {σ : Sub} {es : List (V × V × Nat)} {ES : List MapEntry} (h : ERels σ es ES) (i : Nat) : ERels σ (es.eraseIdx i) (ES.eraseIdx i) := by
  obtain ⟨h1, h2⟩ := (ERels.iff _ _).1 h
  refine (ERels.iff _ _).2 ⟨by rw [List.length_eraseIdx, List.length_eraseIdx, h1], fun j y hy => ?_⟩
  rw [List.getElem?_eraseIdx] at hy ⊢
  split at hy <;> rename_i hc
  · rw [if_pos hc]; exact h2 _ _ hy
  · rw [if_neg hc]; exact h2 _ _ hy

theorem ERels.push {σ : Sub} {es : List (V × V × Nat)} {ES : List MapEntry} (h : ERels σ es ES) {k v : V} {b : Nat} {k' v' : Value} (hk : VRel σ k k') (hv : VRel σ v v') :
    ERels σ (es ++ [(k, v, b)]) (ES ++ [⟨k', v', b⟩]) := by
  induction es generalizing ES with
  | nil => simp only [ERels] at h; subst h; simp only [List.nil_append, ERels]; exact ⟨_, _, _, rfl, hk, hv, rfl⟩
  | cons x es ih =>
    obtain ⟨k0, v0, b0⟩ := x
    simp only [ERels] at h
    obtain ⟨k1, v1, l, rfl, a1, a2, a3⟩ := h
    simp only [List.cons_append, ERels]
    exact ⟨k1, v1, _, rfl, a1, a2, ih a3⟩

theorem findNow_at {d : TypeDesc} {k : Value} : ∀ (ES : List MapEntry) (j i : Nat) (v : Value), Instr.findNow d k ES j = some (some (i, v)) → j ≤ i ∧ ∃ e, ES[i - j]? = some e ∧ Instr.sameNow d k e.key = some true ∧ e.val = v
  | [], j, i, v, h => by simp [Instr.findNow] at h
  | e :: ES, j, i, v, h => by
    simp only [Instr.findNow] at h
    split at h
    · rename_i hs
      cases h
      exact ⟨Nat.le_refl _, e, by simp, hs, rfl⟩
    · obtain ⟨a, e', b, c⟩ := findNow_at ES (j + 1) i v h
      refine ⟨by omega, e', ?_, c⟩
      rw [show i - j = (i - (j + 1)) + 1 by omega]
      simpa using b
    · cases h

theorem beq_str {a b : ByteArray} (h : (a == b) = true) : a = b := by
  rw [beq_toListBytes, ByteArray.toList_eq, ByteArray.toList_eq] at h
  obtain ⟨⟨x⟩⟩ := a
  obtain ⟨⟨y⟩⟩ := b
  simp at h
  rw [h]

section
variable {P : Program} {E : Env} (hE : EnvOk P E) {σ : Sub} {G : Nat} {w0 : Base} {B : Nat} {h : Hp} {w : World} (hH : HRel G w0 B σ h w)

/-- What a key that was found says: the entry bears that very key. -/
theorem sameNow_key {kt : TypeId} {k : V} (hk : keyOk E kt k = true) {d : TypeDesc} (hu : E.und kt = some d) {k' : Value} (hr : VRel σ k k') {u : Value} (h : Instr.sameNow d k' u = some true) : u = k' ∧ Instr.sameBits 10000 u k' = true := by
  unfold keyOk at hk
  rw [hu] at hk
  split at hk
  · rename_i e1; cases e1
    simp only [VRel] at hr; subst hr
    cases u <;> simp [Instr.sameNow] at h
    obtain ⟨rfl, rfl⟩ := h
    exact ⟨rfl, by simp [Instr.sameBits]⟩
  · rename_i e1; cases e1
    simp only [VRel] at hr; subst hr
    cases u <;> simp [Instr.sameNow] at h
    have h := beq_str h
    subst h
    exact ⟨rfl, by simp [Instr.sameBits, beq_toListBytes]⟩
  · cases hk

 include hE

theorem findKey_full {kt : TypeId} {k : V} (hk : keyOk E kt k = true) {k' : Value} (hr : VRel σ k k') {es : List (V × V × Nat)} {ES : List MapEntry} {r : Option (Nat × V)} (hf : findK E kt k es 0 = some r) (he : ERels σ es ES) (w : World) :
    ∃ r', (Instr.findKey kt k' ES).run P w = .ok r' w ∧ KRel σ r r' ∧ ∀ i v', r' = some (i, v') → ∃ e, ES[i]? = some e ∧ e.key = k' ∧ e.val = v' ∧ Instr.sameBits 10000 e.key k' = true := by
  cases hu : E.und kt with
  | none => simp [keyOk, hu] at hk
  | some d =>
    obtain ⟨r', h1, h2⟩ := findK_ok hk hu hr es ES 0 r hf he
    refine ⟨r', by simp [Instr.findKey, run_und hE hu, h1], h2, ?_⟩
    rintro i v' rfl
    obtain ⟨_, e, b, c, d'⟩ := findNow_at ES 0 i v' h1
    obtain ⟨s1, s2⟩ := sameNow_key hk hu hr c
    exact ⟨e, by simpa using b, s1, d', s2⟩

 omit hE in
theorem run_setObj_map {r : Nat} {ES : Array MapEntry} {c : Nat} (hw : w.heap[r]? = some (.map ES c)) (o : Obj) : (setObj r o).run P w = .ok () { w with heap := w.heap.setIfInBounds r o } := by
  simp [setObj, Sem.run, hw]

 omit hE in
theorem heap_set_same {r : Nat} {x o : Obj} (hw : w.heap[r]? = some x) : ({ w with heap := w.heap.setIfInBounds r o } : World).heap[r]? = some o := by
  have : r < w.heap.size := (Array.getElem?_eq_some_iff.1 hw).1
  simp [this]
 omit hE in
theorem heap_set_other {r j : Nat} {o : Obj} (h : j ≠ r) : ({ w with heap := w.heap.setIfInBounds r o } : World).heap[j]? = w.heap[j]? := by
  simp [Array.getElem?_setIfInBounds_ne (Ne.symm h)]
 omit hE in
theorem below_set {r : Nat} {o : Obj} (hr : B ≤ r) : Below B w { w with heap := w.heap.setIfInBounds r o } :=
  ⟨rfl, rfl, rfl, by simp, fun k hk => heap_set_other (by omega)⟩

 omit hE in
 include hH in
theorem HRel.set_map {r : Nat} {es es' : List (V × V × Nat)} {c c' : Nat} (hg : h.t.get r = some (.map es c)) {q : Ren} (hq : σ r = some q) {ES' : Array MapEntry} (he : ERels σ es' ES'.toList) :
    HRel G w0 B σ (h.put r (.map es' c')) { w with heap := w.heap.setIfInBounds q.block (.map ES' c') } := by
  obtain ⟨q', hq', hB, ES, hw, _⟩ := map_obj hH hg hq
  rw [hq] at hq'; cases hq'
  exact hH.put hg rfl rfl hq (below_set hB) (by simp) (fun j hj _ => heap_set_other hj) ⟨hB, ES', heap_set_same hw, he⟩

 include hH

theorem mapUpdateE_ok {t : TypeId} {m k v : V} {h' : Hp} {m' k' v' : Value} (hq : mapUpdateE E t m k v h = some h') (hm : VRel σ m m') (hk : VRel σ k k') (hv : VRel σ v v') :
    ∃ w', (Instr.mapUpdate t m' k' v').run P w = .ok () w' ∧ HRel G w0 B σ h' w' := by
  unfold mapUpdateE at hq
  split at hq
  case h_2 => cases hq
  rename_i kt et r hu
  simp only [VRel] at hm; obtain ⟨q, hq1, rfl⟩ := hm
  split at hq
  case h_2 => cases hq
  rename_i es clock hg hko
  obtain ⟨q', hq2, hB, ES, hw, he⟩ := map_obj hH hg hq1
  rw [hq1] at hq2; cases hq2
  split at hq
  · rename_i i x hf
    obtain ⟨r', h1, h2, h3⟩ := findKey_full (P := P) hE hko hk hf he w
    obtain ⟨x', rfl, hx⟩ := h2
    obtain ⟨e, a1, a2, a3, a4⟩ := h3 i x' rfl
    split at hq
    · rename_i a b born hn
      cases hq
      rw [nthE_eq] at hn
      have hkey : ((ES[i]?).map (·.key)).getD k' = e.key := by simp at a1; simp [a1]
      refine ⟨_, ?_, hH.set_map hg hq1 (ES' := ES.modify i fun e => { e with key := k', val := v' }) ?_⟩
      · simp [Instr.mapUpdate, run_und hE hu, run_getObj_map hw, run_checkKey hE hko hk, h1, hkey, Instr.keyThatStays, a4, run_setObj_map hw]
      · rw [setNth_eq, Array.toList_modify]
        refine he.set (fun e' he' => ⟨hk, hv, ?_⟩)
        rw [a1] at he'; cases he'
        obtain ⟨_, b2⟩ := (ERels.iff _ _).1 he
        obtain ⟨e2, c1, _, _, c4⟩ := b2 i _ hn
        rw [a1] at c1; cases c1
        exact c4
    · cases hq
  · rename_i hf
    cases hq
    obtain ⟨r', h1, h2, h3⟩ := findKey_full (P := P) hE hko hk hf he w
    simp only [KRel] at h2; subst h2
    refine ⟨_, ?_, hH.set_map hg hq1 (ES' := ES.push ⟨k', v', clock⟩) ?_⟩
    · simp [Instr.mapUpdate, run_und hE hu, run_getObj_map hw, run_checkKey hE hko hk, h1, run_setObj_map hw]
    · rw [Array.toList_push]; exact he.push hk hv
  · cases hq

theorem deleteE_ok {t ty : TypeId} {t2 : TypeId} {m k : V} {h' : Hp} {m' k' : Value} (hq : deleteE E t m k h = some h') (hm : VRel σ m m') (hk : VRel σ k k') :
    ∃ w', (Builtin.delete_ #[t, t2] ty #[m', k']).run P w = .ok (.tuple #[]) w' ∧ HRel G w0 B σ h' w' := by
  unfold deleteE at hq
  split at hq
  case h_2 => cases hq
  rename_i kt et r hu
  simp only [VRel] at hm; obtain ⟨q, hq1, rfl⟩ := hm
  split at hq
  case h_2 => cases hq
  rename_i es clock hg hko
  obtain ⟨q', hq2, hB, ES, hw, he⟩ := map_obj hH hg hq1
  rw [hq1] at hq2; cases hq2
  split at hq
  · rename_i i x hf
    obtain ⟨r', h1, h2, h3⟩ := findKey_full (P := P) hE hko hk hf he w
    obtain ⟨x', rfl, hx⟩ := h2
    cases hq
    refine ⟨_, ?_, hH.set_map hg hq1 (ES' := ES.eraseIdxIfInBounds i) ?_⟩
    · simp [Builtin.delete_, run_und hE hu, run_getObj_map hw, run_checkKey hE hko hk, h1, run_setObj_map hw]
    · rw [delNth_eq, Array.toList_eraseIdxIfInBounds]; exact he.erase i
  · rename_i hf
    cases hq
    obtain ⟨r', h1, h2, h3⟩ := findKey_full (P := P) hE hko hk hf he w
    simp only [KRel] at h2; subst h2
    refine ⟨{ w with heap := w.heap.setIfInBounds q.block (.map ES clock) }, ?_, ?_⟩
    · simp [Builtin.delete_, run_und hE hu, run_getObj_map hw, run_checkKey hE hko hk, h1, run_setObj_map hw]
    · have : ({ w with heap := w.heap.setIfInBounds q.block (.map ES clock) } : World) = w := by
        have hlt : q.block < w.heap.size := (Array.getElem?_eq_some_iff.1 hw).1
        have hval : w.heap[q.block] = .map ES clock := by rw [Array.getElem?_eq_getElem hlt] at hw; simpa using hw
        have : w.heap.setIfInBounds q.block (.map ES clock) = w.heap := by
          apply Array.ext_getElem?
          intro j
          by_cases e : j = q.block
          · subst e; simp [hlt, hval]
          · rw [Array.getElem?_setIfInBounds_ne (Ne.symm e)]
        rw [this]
      rw [this]; exact hH
  · cases hq
end
end Go.Bx
