/- The operations that act: all of them together. -/
import Derived.Test.YtmiebhjpdmokoaaGreatDoorBx11
set_option linter.all false
namespace Go.Bx
open Go.RowKit
variable [Valn]

/-- What an operation leaves. -/
def LPost (G : Nat) (w0 : Base) (B : Nat) (σ : Sub) (h' : Hp) (v : V) (res : Result Next) : Prop :=
  ∃ v' w' τ, (res = .ok (.value v') w' ∨ (res = .ok .skip w' ∧ v' = undef)) ∧ σ.le τ ∧ HRel G w0 B τ h' w' ∧ VRel τ v v'

theorem replV_length (z : List V) : ∀ n, (replV n z).length = n * z.length
  | 0 => by simp [replV]
  | n + 1 => by rw [replV, List.length_append, replV_length z n, Nat.add_mul]; omega

theorem replV_get (z : List V) : ∀ (n k : Nat), k < n * z.length → (replV n z)[k]? = z[k % z.length]?
  | 0, k, h => by simp at h
  | n + 1, k, h => by
    rw [replV]
    by_cases hk : k < z.length
    · rw [List.getElem?_append_left hk, Nat.mod_eq_of_lt hk]
    · rw [List.getElem?_append_right (by omega), replV_get z n (k - z.length) (by rw [Nat.add_mul] at h; omega), ← Nat.mod_eq_sub_mod (by omega)]

theorem replRel {σ : Sub} {z : List V} {Z : Array Value} (h : VRels σ z Z.toList) (n m : Nat) (hm : m = n * Z.size) (zero : Array Value) (hz : zero = if m = 0 then #[] else Z) :
    VRels σ (replV n z) ((Array.range m).map fun i => zero[i % zero.size]!).toList := by
  have hl := h.length
  simp at hl
  refine (VRels.iff _ _).2 ⟨by rw [replV_length]; simp [hm, hl], fun k v hk => ?_⟩
  have hkl : k < (replV n z).length := (List.getElem?_eq_some_iff.1 hk).1
  rw [replV_length, ← hl, ← hm] at hkl
  have hm0 : m ≠ 0 := by omega
  rw [if_neg hm0] at hz
  subst hz
  rw [replV_get _ _ _ (by rw [← hl, ← hm]; exact hkl)] at hk
  obtain ⟨v', h1, h2⟩ := ((VRels.iff _ _).1 h).2 _ _ hk
  refine ⟨v', ?_, h2⟩
  have hz0 : 0 < zero.size := by
    rcases Nat.eq_zero_or_pos zero.size with h0 | h0
    · rw [h0] at hm; omega
    · exact h0
  have hlt : k % zero.size < zero.size := Nat.mod_lt _ hz0
  rw [← hl] at h1
  simp at h1
  simp [hkl, hlt]
  rw [Array.getElem?_eq_getElem hlt] at h1
  simpa using h1

section
variable {P : Program} {E : Env} (hE : EnvOk P E) {σ : Sub} {G : Nat} {w0 : Base} {B : Nat} {h : Hp} {w : World} (hH : HRel G w0 B σ h w)
 include hE hH

 omit hE in
theorem newRow_ok {b : Nat} {c : List V} {e : TypeId} {h' : Hp} (ha : h.alloc (.cells c e) = some (b, h')) (C : Array Value) (e' : TypeId) (hr : VRels σ c C.toList) :
    (newRow e' C).run P w = .ok ⟨w.heap.size, 0, none⟩ (w.alloc (.cells C e')) ∧ σ.le (σ.add h.n ⟨w.heap.size, 0, C.size⟩) ∧ HRel G w0 B (σ.add h.n ⟨w.heap.size, 0, C.size⟩) h' (w.alloc (.cells C e')) ∧ (σ.add h.n ⟨w.heap.size, 0, C.size⟩) b = some ⟨w.heap.size, 0, C.size⟩ := by
  obtain ⟨a, b'⟩ := (VRels.iff _ _).1 hr
  obtain ⟨rfl, h2⟩ := hH.alloc_cells ha C e' (fun k v hk => by simpa using b' k v hk) (by simp at a; omega)
  exact ⟨by simp [newRow], Sub.le_add hH.fresh, h2, Sub.add_same _ _ _⟩

theorem makeSlice_ok {t : TypeId} {e : TypeId} (hu : E.und t = some (.slice e)) {l c size bytes : Nat} (hs : E.size e = some size) (hb : E.bytes e = some bytes) {z : List V} (hz : zcellsN E e size = some z)
    (hlc : l ≤ c) (hbc : bytes * c ≤ 140737488355328) (hc : c ≤ 1000000000) {b : Nat} {h' : Hp} (ha : h.alloc (.cells (replV c z) e) = some (b, h')) {kl kc : IntKind} :
    ∃ v' w' τ, (Instr.makeSlice t (.int kl (l : Int)) (.int kc (c : Int))).run P w = .ok v' w' ∧ σ.le τ ∧ HRel G w0 B τ h' w' ∧ VRel τ (.slice b 0 l c) v' := by
  obtain ⟨hzl, zv, hzr, hzrel, hzs⟩ := zcellsN_ok (P := P) (σ := σ) (w := w) hE hz
  obtain ⟨i, hi, rfl⟩ := bytes_ok hE hb
  have wl : IntKind.i64.wrap (l : Int) = l := by simp [IntKind.wrap, IntKind.bits, IntKind.signed]; omega
  have wc : IntKind.i64.wrap (c : Int) = c := by simp [IntKind.wrap, IntKind.bits, IntKind.signed]; omega
  let zero : Array Value := if c * size = 0 then #[] else zv.cells
  have hrel := replRel hzrel c (c * size) (by rw [hzs]) zero rfl
  obtain ⟨r1, r2, r3, r4⟩ := newRow_ok (P := P) hH ha _ e hrel
  refine ⟨.slice (some ⟨w.heap.size, 0, none⟩) l c, _, _, ?_, r2, r3, by simp only [VRel]; exact ⟨_, r4, rfl⟩⟩
  have hbig : ¬ ((c : Int) < 0 ∨ (i.bytes : Int) * c > 2 ^ 48) := by
    have e48 : (2 : Int) ^ 48 = 281474976710656 := by decide
    have : (i.bytes : Int) * (c : Int) = ((i.bytes * c : Nat) : Int) := by simp
    omega
  unfold Instr.makeSlice
  simp only [Sem.run_bind, run_und hE hu, Result.andThen_ok, asInt, asIntOf, Sem.run_pure, typeInfo, run_program, hi, wl, wc]
  rw [if_neg (by simp at hbig ⊢; omega)]
  simp only [Sem.run_bind, run_askRoom, Result.andThen_ok, run_size hE hs]
  simp only [Int.toNat_natCast]
  by_cases h0 : c * size = 0
  · have hz0 : zero = #[] := if_pos h0
    rw [if_pos h0]
    rw [hz0] at r1 ⊢
    simp only [Sem.run_bind, Sem.run_pure, Result.andThen_ok, r1]
  · have hz0 : zero = zv.cells := if_neg h0
    rw [if_neg h0]
    rw [hz0] at r1 ⊢
    simp only [Sem.run_bind, hzr, Sem.run_pure, Result.andThen_ok, r1]

 omit hE hH in
theorem run_choose_cap {n m : Nat} {e : TypeId} : ∃ c, n ≤ c ∧ (choose (.appendCap n m e)).run P w = .ok c w.drew := by
  refine ⟨(Question.appendCap n m e).cut (w.tape w.drawn (.appendCap n m e)), by simp only [Question.cut]; omega, ?_⟩
  simp [run_choose, Question.forced]

theorem toBytes_ok {src dst e : TypeId} {d : TypeDesc} (hsrc : E.und src = some d) (hdst : E.und dst = some (.slice e)) (he : E.und e = some (.int .u8)) {s : ByteArray} {b : Nat} {h2 : Hp} {l : List V} (hrel : VRels σ l (s.data.toList.map fun b => .int .u8 (b.toNat : Int)))
    (ha : h.alloc (.cells l e) = some (b, h2)) :
    ∃ v' w' τ, (convert src dst (.string s)).run P w = .ok v' w' ∧ σ.le τ ∧ HRel G w0 B τ h2 w' ∧ VRel τ (.oslice b 0 s.size s.size 1) v' := by
  obtain ⟨c, hc1, hc2⟩ := run_choose_cap (P := P) (w := w) (n := s.size) (m := 0) (e := e)
  let C : Array Value := (s.data.map fun b => (.int .u8 (b.toNat : Int) : Value)) ++ Array.replicate (c - s.size) (.int .u8 0)
  have hCs : C.size = c := by
    have : s.data.size = s.size := rfl
    simp [C, this]; omega
  obtain ⟨n1, n2⟩ := new_cells (R := List.replicate (c - s.size) (Value.int .u8 0)) hrel
  have hCe : (List.map (fun b : UInt8 => (.int .u8 (b.toNat : Int) : Value)) s.data.toList ++ List.replicate (c - s.size) (Value.int .u8 0)).toArray = C := by
    apply Array.ext'; simp [C]
  rw [hCe] at n1 n2
  obtain ⟨rfl, hA⟩ := hH.drew.alloc ha (.cells C e) (r := ⟨w.heap.size, 0, C.size⟩) rfl ⟨hH.Bsize, C, e, (0, 0), heap_alloc_new _ _, rfl, fun k _ => by simp,
    ⟨by simpa using n2, fun k v hk => by obtain ⟨v', a, b⟩ := n1 k v hk; exact ⟨v', by simpa using a, VRel.mono (Sub.le_add hH.fresh) _ _ b⟩⟩⟩
  -- the mark behind the row's end
  have hfr : HRel G w0 B (σ.add h.n ⟨w.heap.size, 0, C.size⟩) h2 ((w.drew.alloc (.cells C e)).freeze ⟨w.heap.size, C.size, none⟩ 1) := by
    have hheap : ((w.drew.alloc (.cells C e)).freeze ⟨w.heap.size, C.size, none⟩ 1).heap[w.heap.size]? = some (.cells C e (C.size, C.size + 1)) := by
      have := heap_alloc_new w.drew (.cells C e)
      simp only [World.freeze, Nat.one_ne_zero, if_false, Array.getElem?_modify, if_true]
      rw [show (w.drew.alloc (.cells C e)).heap[w.heap.size]? = some (.cells C e) from this]
      simp
    have hoth : ∀ j, j ≠ w.heap.size → ((w.drew.alloc (.cells C e)).freeze ⟨w.heap.size, C.size, none⟩ 1).heap[j]? = (w.drew.alloc (.cells C e)).heap[j]? := by
      intro j hj
      simp only [World.freeze, Nat.one_ne_zero, if_false, Array.getElem?_modify]
      rw [if_neg (Ne.symm hj)]
    refine ⟨hA.below.trans ⟨rfl, rfl, rfl, by simp [World.freeze], fun k hk => hoth k (by have := hH.Bsize; omega)⟩, hA.keep.trans (Keeps.one (fun k hk _ => hoth k hk) (heap_alloc_new w.drew (.cells C e)) rfl), by have := hA.Bsize; simpa [World.freeze] using this, hA.nb, hA.dom, hA.glob, hA.obj, hA.unb, fun i x hx hxd q q1 => ?_, hA.inj⟩
    have q2 := hA.rel i x hx hxd q q1
    by_cases e0 : q.block = w.heap.size
    · -- it is the new row
      cases x with
      | cells cc ce =>
        obtain ⟨hB, C', e', F, a1, a2, a3, a4⟩ := q2
        rw [e0] at a1
        rw [show (w.drew.alloc (.cells C e)).heap[w.heap.size]? = some (.cells C e) from heap_alloc_new w.drew _] at a1
        cases a1
        exact ⟨hB, C, e, _, by rw [e0]; exact hheap, a2, fun k hk => by simp only; omega, a4⟩
      | ro cc =>
        obtain ⟨hB, _⟩ := q2
        have := hH.Bsize; omega
      | map es cl =>
        obtain ⟨hB, ES, a1, _⟩ := q2
        rw [e0] at a1
        rw [show (w.drew.alloc (.cells C e)).heap[w.heap.size]? = some (.cells C e) from heap_alloc_new w.drew _] at a1
        cases a1
      | iter ss pp =>
        obtain ⟨hB, _, a1⟩ := q2
        rw [e0] at a1
        rw [show (w.drew.alloc (.cells C e)).heap[w.heap.size]? = some (.cells C e) from heap_alloc_new w.drew _] at a1
        cases a1
      | coll =>
        obtain ⟨hB, a1⟩ := q2
        rw [e0] at a1
        rw [show (w.drew.alloc (.cells C e)).heap[w.heap.size]? = some (.cells C e) from heap_alloc_new w.drew _] at a1
        cases a1
      | arr cc =>
        obtain ⟨hB, hb0, C', e', F, a1, a2, a3, a4⟩ := q2
        rw [e0] at a1
        rw [show (w.drew.alloc (.cells C e)).heap[w.heap.size]? = some (.cells C e) from heap_alloc_new w.drew _] at a1
        cases a1
        exact ⟨hB, hb0, C, e, _, by rw [e0]; exact hheap, a2, fun k hk => by simp only; omega, a4⟩
      | xro tt ff =>
        have hB := q2.1
        have := hH.Bsize; omega
      | buf own kk cc nn zz =>
        obtain ⟨hB, C', e', F, N, a1, a2, a3, a4⟩ := q2
        rw [e0] at a1
        rw [show (w.drew.alloc (.cells C e)).heap[w.heap.size]? = some (.cells C e) from heap_alloc_new w.drew _] at a1
        cases a1
        refine ⟨hB, C, e, _, N, by rw [e0]; exact hheap, fun ho => ⟨(a2 ho).1, fun k hk => ?_⟩, a3, a4⟩
        have := (a2 ho).1
        simp only; omega
      | mit mm =>
        obtain ⟨hB, _, _, _, _, _, a1⟩ := q2
        rw [e0] at a1
        rw [show (w.drew.alloc (.cells C e)).heap[w.heap.size]? = some (.cells C e) from heap_alloc_new w.drew _] at a1
        cases a1
      | dead => cases hxd
    · exact ORel.mono (Sub.le_refl _) (hoth _ e0) q2
  refine ⟨.slice (some ⟨w.heap.size, 0, none⟩) s.size c, _, _, ?_, Sub.le_add hH.fresh, hfr, ?_⟩
  · have hsh : (w.drew.alloc (.cells C e)).shape? w.heap.size = some (e, C.size) := by
      unfold World.shape?
      rw [show (w.drew.alloc (.cells C e)).heap[w.heap.size]? = some (.cells C e) from heap_alloc_new w.drew _]
    unfold convert
    simp only [Sem.run_bind, run_und hE hsrc, run_und hE hdst, run_und hE he, Result.andThen_ok]
    have : (Conv.stringToBytes e s).run P w = .ok (.slice (some ⟨w.heap.size, 0, none⟩) s.size c) ((w.drew.alloc (.cells C e)).freeze ⟨w.heap.size, C.size, none⟩ 1) := by
      unfold Conv.stringToBytes
      simp only [Sem.run_bind, hc2, Result.andThen_ok, newRow, run_newObj, Sem.run_pure, markStringish, run_shape]
      have hsh' : ({ heap := w.drew.heap.push (Obj.cells C e), tape := w.drew.tape, drawn := w.drew.drawn, os := w.drew.os, output := w.drew.output } : World).shape? w.drew.heap.size = some (e, C.size) := hsh
      rw [hsh']
      rfl
    cases d <;> exact this
  · simp only [VRel]
    exact ⟨_, 0, c, Sub.add_same _ _ _, rfl, Nat.le_refl _, hc1, .inr rfl, by simp [hCs], Nat.le_refl _⟩

theorem mapEntryE_ok {t : TypeId} {m k v : V} {h' : Hp} {m' k' : Value} (hq : mapEntryE E t m k h = some (v, h')) (hm : VRel σ m m') (hk : VRel σ k k') :
    ∃ v' w' τ, (Instr.mapEntry t m' k').run P w = .ok v' w' ∧ σ.le τ ∧ HRel G w0 B τ h' w' ∧ VRel τ v v' := by
  unfold mapEntryE at hq
  split at hq
  case h_2 => cases hq
  rename_i kt et r hu
  simp only [VRel] at hm; obtain ⟨q, hq1, rfl⟩ := hm
  split at hq
  case h_2 => cases hq
  rename_i es clock hg hko
  obtain ⟨q', hq2, hB, ES, hw, he⟩ := map_obj hH hg hq1
  rw [hq1] at hq2; cases hq2
  split at hq
  · rename_i i x hf
    obtain ⟨r', h1, h2, h3⟩ := findKey_full (P := P) hE hko hk hf he w
    obtain ⟨x', rfl, hx⟩ := h2
    obtain ⟨e, a1, a2, a3, a4⟩ := h3 i x' rfl
    split at hq
    · rename_i a b born hn
      cases hq
      rw [nthE_eq] at hn
      have a1' : ES[i]? = some e := by simpa using a1
      have hkey : ((ES[i]?).map (·.key)).getD k' = e.key := by simp [a1']
      obtain ⟨_, b2⟩ := (ERels.iff _ _).1 he
      obtain ⟨e2, c1, c2, c3, c4⟩ := b2 i _ hn
      rw [a1] at c1; cases c1
      simp only at c4
      refine ⟨.tuple #[x', goInt born], _, σ, ?_, Sub.le_refl _, hH.set_map hg hq1 (ES' := ES.modify i fun e => { e with key := k' }) ?_, ?_⟩
      · simp [Instr.mapEntry, run_und hE hu, run_getObj_map hw, run_checkKey hE hko hk, h1, Instr.keyThatStays, a4, run_setObj_map hw, a1', c4]
      · rw [setNth_eq, Array.toList_modify]
        refine he.set (fun e' he' => ?_)
        rw [a1] at he'; cases he'
        exact ⟨hk, by simp only; rw [a3]; exact hx, c4⟩
      · simp only [VRel]; exact ⟨_, rfl, by simp [VRels, VRel, hx, goInt]⟩
    · cases hq
  · rename_i hf
    obtain ⟨r', h1, h2, h3⟩ := findKey_full (P := P) hE hko hk hf he w
    simp only [KRel] at h2; subst h2
    split at hq
    · rename_i z hz
      cases hq
      refine ⟨.tuple #[z, goInt clock], _, σ, ?_, Sub.le_refl _, hH.set_map hg hq1 (ES' := ES.push ⟨k', z, clock⟩) ?_, ?_⟩
      · simp [Instr.mapEntry, run_und hE hu, run_getObj_map hw, run_checkKey hE hko hk, h1, run_setObj_map hw, run_zero hE hz]
      · rw [Array.toList_push]; exact he.push hk (VRel.ofVal σ z)
      · simp only [VRel]; exact ⟨_, rfl, by simp [VRels, VRel, VRel.ofVal, goInt]⟩
    · cases hq
  · cases hq

 omit hE hH in
theorem bornAt_ok {born : Nat} : ∀ (es : List (V × V × Nat)) (ES : List MapEntry) (j i : Nat) (k : V), bornAt es born j = some (i, k) → ERels σ es ES →
    j ≤ i ∧ ES.findIdx? (fun e => (e.born : Int) == (born : Int)) = some (i - j) ∧ ∃ e, ES[i - j]? = some e ∧ VRel σ k e.key ∧ e.born = born
  | [], ES, j, i, k, h, _ => by simp [bornAt] at h
  | (k0, v0, b0) :: es, ES, j, i, k, h, he => by
    simp only [ERels] at he
    obtain ⟨k1, v1, l, rfl, a1, a2, a3⟩ := he
    simp only [bornAt] at h
    cases hb : Nat.beq b0 born with
    | true =>
      have hb' := Nat.eq_of_beq_eq_true hb
      simp only [hb, Option.some.injEq, Prod.mk.injEq] at h
      obtain ⟨rfl, rfl⟩ := h
      refine ⟨Nat.le_refl _, ?_, ⟨k1, v1, b0⟩, by simp, a1, hb'⟩
      simp [List.findIdx?_cons, hb']
    | false =>
      have hb' := Nat.ne_of_beq_eq_false hb
      simp only [hb] at h
      obtain ⟨c1, c2, e, c3, c4⟩ := bornAt_ok es l (j + 1) i k h a3
      have e1 : i - j = (i - (j + 1)) + 1 := by omega
      refine ⟨by omega, ?_, e, ?_, c4⟩
      · rw [List.findIdx?_cons, c2]
        have : ((b0 : Int) == (born : Int)) = false := by simp; omega
        simp [this, e1]
      · rw [e1]; simpa using c3

 omit hE in
theorem entryStoreE_ok {t : TypeId} {m st v : V} {h' : Hp} {m' st' v' : Value} (hq : entryStoreE m st v h = some h') (hm : VRel σ m m') (hs : VRel σ st st') (hv : VRel σ v v') :
    ∃ w', (Instr.entryStore t m' st' v').run P w = .ok () w' ∧ HRel G w0 B σ h' w' := by
  unfold entryStoreE at hq
  split at hq
  case h_2 => cases hq
  rename_i r born hn
  simp only [VRel] at hm; obtain ⟨q, hq1, rfl⟩ := hm
  obtain ⟨kk, rfl⟩ := natOf_ok hn hs
  split at hq
  case h_2 => cases hq
  rename_i es clock hg
  obtain ⟨q', hq2, hB, ES, hw, he⟩ := map_obj hH hg hq1
  rw [hq1] at hq2; cases hq2
  split at hq
  · rename_i i k hb
    cases hq
    obtain ⟨_, c2, e, c3, c4, c5⟩ := bornAt_ok es ES.toList 0 i k hb he
    simp only [Nat.sub_zero] at c2 c3
    have c2' : ES.findIdx? (fun e => (e.born : Int) == (born : Int)) = some i := by
      rw [← c2]; obtain ⟨l⟩ := ES; simp
    refine ⟨_, ?_, hH.set_map hg hq1 (ES' := ES.modify i fun e => { e with val := v' }) ?_⟩
    · simp only [Instr.entryStore, Sem.run_bind, run_getObj_map hw, Result.andThen_ok, asInt, asIntOf, Sem.run_pure, c2', run_setObj_map hw]
    · rw [setNth_eq, Array.toList_modify]
      refine he.set (fun e' he' => ?_)
      rw [c3] at he'; cases he'
      exact ⟨c4, hv, c5⟩
  · cases hq

 omit hE in
theorem firstV_len {x : V} {size n : Nat} {l : List V} (hq : firstV h size n x = some l) (hn : ∀ m, lenV x = some m → n ≤ m) : l.length = n * size := by
  unfold firstV at hq
  split at hq
  · exact cellsAt_len hq
  · exact cellsAt_len hq
  · cases hq; have := hn 0 rfl; have : n = 0 := by omega
    subst this; simp
  · split at hq
    · cases hq
      rename_i s _
      have h1 := hn s.size rfl
      rw [List.length_map, List.length_take, Nat.mul_one]
      exact Nat.min_eq_left h1
    · cases hq
  · split at hq
    · cases hq
      rename_i s _
      have h1 := hn s.length rfl
      rw [List.length_take, Nat.mul_one]
      exact Nat.min_eq_left h1
    · cases hq
  · cases hq

theorem copyE_ok {dT sT ty : TypeId} {d s v : V} {h' : Hp} {d' s' : Value} (hq : copyE E dT d s h = some (v, h')) (hd : VRel σ d d') (hs : VRel σ s s') :
    ∃ v' w' τ, (Builtin.copy_ #[dT, sT] ty #[d', s']).run P w = .ok v' w' ∧ σ.le τ ∧ HRel G w0 B τ h' w' ∧ VRel τ v v' := by
  unfold copyE at hq
  split at hq
  case h_2 => cases hq
  rename_i e hu
  split at hq
  case h_2 => cases hq
  rename_i size dl sl hsz hdl hsl
  have hlen := lenV_ok (P := P) (w := w) hsl hs
  have hmin : minN sl dl = Nat.min sl dl := minN_eq sl dl
  have hle : ∀ m, lenV s = some m → minN sl dl ≤ m := fun m hm => by rw [hsl] at hm; cases hm; rw [hmin]; exact Nat.min_le_left _ _
  have fin : ∀ (b o : Nat) (r : Ren) (a c' : Nat) (cs : List V) (h2 : Hp), firstV h size (minN sl dl) s = some cs → σ b = some r → d' = .slice (some ⟨r.block, a, none⟩) dl c' → storeAt h b o cs = some h2 → (cs = [] ∨ a = r.base + o) →
      ∃ v' w' τ, (Builtin.copy_ #[dT, sT] ty #[d', s']).run P w = .ok v' w' ∧ σ.le τ ∧ HRel G w0 B τ h2 w' ∧ VRel τ (.int .i64 (Int.ofNat (minN sl dl))) v' := by
    rintro b o r a c' cs h2 hf hr rfl hst ha
    obtain ⟨L, hL, rL⟩ := firstV_ok (P := P) hH hf hle hs
    obtain ⟨s1, s2⟩ := storeAt_ok (P := P) hH hst hr rL ha
    refine ⟨goInt (Nat.min sl dl), _, σ, ?_, Sub.le_refl _, s2, by simp [VRel, hmin, goInt]⟩
    rw [hmin] at hL
    simp only [Builtin.copy_, List.getElem?_toArray, List.getElem?_cons_zero, List.getElem?_cons_succ, Sem.run_bind, run_und hE hu, Result.andThen_ok, hlen, run_size hE hsz, hL, s1, Sem.run_pure]
  simp only at hq
  split at hq
  · rename_i cs b o dl0 cap hf
    simp only [lenV, Option.some.injEq] at hdl; subst hdl
    split at hq
    · rename_i h2 hst
      cases hq
      simp only [VRel] at hd; obtain ⟨r, hr, rfl⟩ := hd
      exact fin b o r _ _ cs _ hf hr rfl hst (.inr rfl)
    · cases hq
  · rename_i cs b o dl0 cap sz hf
    simp only [lenV, Option.some.injEq] at hdl; subst hdl
    split at hq
    · rename_i h2 hst
      cases hq
      simp only [VRel] at hd; obtain ⟨r, a, c', hr, rfl, b1, b2, b3, _⟩ := hd
      refine fin b o r a c' cs _ hf hr rfl hst ?_
      rcases b3 with b3 | b3
      · left
        have hd0 : dl0 = 0 := by omega
        have h0 : minN sl dl0 = 0 := by rw [hmin, hd0]; exact Nat.min_eq_right (Nat.zero_le _)
        have := firstV_len hH hf hle
        rw [h0] at this
        exact List.eq_nil_of_length_eq_zero (by simpa using this)
      · exact .inr b3
    · cases hq
  · rename_i cs hf
    simp only [lenV, Option.some.injEq] at hdl; subst hdl
    cases hq
    simp only [VRel] at hd; subst hd
    obtain ⟨L, hL, rL⟩ := firstV_ok (P := P) hH hf hle hs
    rw [hmin] at hL
    refine ⟨goInt (Nat.min sl 0), w, σ, ?_, Sub.le_refl _, hH, by simp [VRel, hmin, goInt]⟩
    simp only [Builtin.copy_, List.getElem?_toArray, List.getElem?_cons_zero, List.getElem?_cons_succ, Sem.run_bind, run_und hE hu, Result.andThen_ok, hlen, run_size hE hsz, hL, Sem.run_pure]
  · cases hq

theorem loud_ok {o : Oper} {ρ : Operand → V} {ρ' : Operand → Value} (hρ : ∀ x, VRel σ (ρ x) (ρ' x)) {v : V} {h' : Hp} (hq : loud E o.op ρ h = some (v, h')) :
    LPost G w0 B σ h' v ((execOp ρ' o).run P w) := by
  have lift : ∀ {s : Sem Value}, (∃ v' w' τ, s.run P w = .ok v' w' ∧ σ.le τ ∧ HRel G w0 B τ h' w' ∧ VRel τ v v') → LPost G w0 B σ h' v ((do pure (Next.value (← s)) : Sem Next).run P w) := by
    rintro s ⟨v', w', τ, h1, h2⟩
    exact ⟨v', w', τ, .inl (by simp [h1]), h2⟩
  have liftU : ∀ {s : Sem Unit}, v = undefV → (∃ w', s.run P w = .ok () w' ∧ HRel G w0 B σ h' w') → LPost G w0 B σ h' v ((do s; pure .skip : Sem Next).run P w) := by
    rintro s rfl ⟨w', h1, h2⟩
    exact ⟨undef, w', σ, .inr ⟨by simp [h1], rfl⟩, Sub.le_refl _, h2, VRel.undef σ⟩
  obtain ⟨dst, op, type, pos, after, guard⟩ := o
  simp only at hq
  unfold loud at hq
  split at hq
  · -- alloc
    rename_i t
    split at hq
    · rename_i z hz
      split at hq
      · rename_i b h2 ha
        cases hq
        obtain ⟨zv, hz1, hz2⟩ := zcells_ok (σ := σ) hE hz
        obtain ⟨r1, r2, r3, r4⟩ := newRow_ok (P := P) hH ha zv.cells t hz2
        refine lift ⟨_, _, _, ?_, r2, r3, by simp only [VRel]; exact ⟨_, r4, rfl⟩⟩
        simp [Instr.alloc, run_zero hE hz1, newVar, r1]
      · cases hq
    · cases hq
  · -- box
    rename_i t x
    split at hq
    · rename_i cs hc
      split at hq
      · rename_i b h2 ha
        cases hq
        obtain ⟨r1, r2, r3, r4⟩ := newRow_ok (P := P) hH ha (ρ' x).cells t (vcells_ok hc (hρ x))
        refine lift ⟨_, _, _, ?_, r2, r3, by simp only [VRel]; exact ⟨_, r4, rfl⟩⟩
        simp [Instr.box, newVar, r1]
      · cases hq
    · cases hq
  · -- buildSlice
    rename_i t len parts
    split at hq
    case h_2 => cases hq
    rename_i e hu
    split at hq
    case h_2 => cases hq
    rename_i size hs
    split at hq
    case h_2 => cases hq
    rename_i z hz
    split at hq
    case h_2 => cases hq
    rename_i cs hle hf
    have hle := Nat.le_of_ble_eq_true hle
    split at hq
    · rename_i b h2 ha
      cases hq
      obtain ⟨hzl, zv, hzr, hzrel, hzs⟩ := zcellsN_ok (P := P) (σ := σ) (w := w) hE hz
      let zero : Array Value := if len * size = 0 then #[] else zv.cells
      have hrel := replRel hzrel len (len * size) (by rw [hzs]) zero rfl
      obtain ⟨C, f1, f2⟩ := fillV_ok (place' := fun i => some (i * size, size)) (fun i p hp => hp) _ _ _ _ _ hf hrel (mapOpnds_ok hρ parts.toList)
      obtain ⟨r1, r2, r3, r4⟩ := newRow_ok (P := P) hH ha C e f2
      refine lift ⟨_, _, _, ?_, r2, r3, by simp only [VRel]; exact ⟨_, r4, rfl⟩⟩
      have e24 : (2 : Nat) ^ 24 = 16777216 := by decide
      unfold Instr.buildSlice
      simp only [Sem.run_bind, run_und hE hu, Result.andThen_ok, run_size hE hs]
      rw [if_neg (by omega)]
      by_cases h0 : len * size = 0
      · have hz0 : zero = #[] := if_pos h0
        rw [hz0] at f1
        rw [if_pos h0]
        simp only [Sem.run_bind, Sem.run_pure, Result.andThen_ok, Array.toList_map, f1, r1]
      · have hz0 : zero = zv.cells := if_neg h0
        rw [hz0] at f1
        rw [if_neg h0]
        simp only [Sem.run_bind, hzr, Sem.run_pure, Result.andThen_ok, Array.toList_map, f1, r1]
    · cases hq
  · -- store
    rename_i t a x
    split at hq
    case h_2 => cases hq
    rename_i b o cs n ha hc hn
    have hpa := hρ a
    rw [ha] at hpa; simp only [VRel] at hpa; obtain ⟨r, hr, e⟩ := hpa
    split at hq
    case h_2 => cases hq
    rename_i hb
    have hb := Nat.eq_of_beq_eq_true hb
    split at hq
    · rename_i h2 hst
      cases hq
      have hcs := vcells_ok hc (hρ x)
      obtain ⟨s1, s2⟩ := storeAt_ok (P := P) hH hst hr hcs (a := r.base + o) (.inr rfl)
      have hl := hcs.length
      refine liftU rfl ⟨_, ?_, s2⟩
      unfold Instr.storeAt
      simp only [Sem.run_bind, e, Instr.sureAddr, Sem.run_pure, Result.andThen_ok, storeVar, run_size hE hn]
      rw [if_neg (by simp at hl; simp; omega)]
      exact s1
    · cases hq
  · -- makeMap
    split at hq
    · rename_i b h2 ha
      cases hq
      obtain ⟨rfl, hA⟩ := hH.alloc ha (.map #[] 0) (r := ⟨w.heap.size, 0, 0⟩) rfl ⟨hH.Bsize, #[], heap_alloc_new _ _, by simp [ERels]⟩
      refine lift ⟨_, _, _, by simp [Instr.makeMap]; rfl, Sub.le_add hH.fresh, hA, by simp only [VRel]; exact ⟨_, Sub.add_same _ _ _, rfl⟩⟩
    · cases hq
  · -- makeMap with a hint
    rename_i t x
    split at hq
    case h_2 => cases hq
    rename_i kt et k n hu hx
    have hpx := hρ x
    rw [hx] at hpx; simp only [VRel] at hpx
    split at hq
    · rename_i b h2 ha
      cases hq
      obtain ⟨rfl, hA⟩ := hH.alloc ha (.map #[] 0) (r := ⟨w.heap.size, 0, 0⟩) rfl ⟨hH.Bsize, #[], heap_alloc_new _ _, by simp [ERels]⟩
      refine lift ⟨_, _, _, by simp [Instr.makeMap, run_und hE hu, hpx, asInt, asIntOf]; rfl, Sub.le_add hH.fresh, hA, by simp only [VRel]; exact ⟨_, Sub.add_same _ _ _, rfl⟩⟩
    · cases hq
  · -- makeSlice
    rename_i t l c
    split at hq
    case h_2 => cases hq
    rename_i e l0 c0 hu hl hc
    obtain ⟨kl, el⟩ := natOf_ok hl (hρ l)
    obtain ⟨kc, ec⟩ := natOf_ok hc (hρ c)
    split at hq
    case h_2 => cases hq
    rename_i size bytes hs hb
    split at hq
    case h_2 => cases hq
    rename_i z hz
    split at hq
    case h_2 => cases hq
    rename_i h1 h2 h3
    split at hq
    · rename_i b h2' ha
      cases hq
      refine lift ?_
      rw [el, ec]
      exact makeSlice_ok hE hH hu hs hb hz (Nat.le_of_ble_eq_true h1) (Nat.le_of_ble_eq_true h2) (Nat.le_of_ble_eq_true h3) ha
    · cases hq
  · -- string to bytes
    rename_i src dst x
    split at hq
    case h_3 => cases hq
    · rename_i d e s hsrc hdst hx
      have hpx := hρ x
      rw [hx] at hpx; simp only [VRel] at hpx
      split at hq
      case h_2 => cases hq
      rename_i he
      split at hq
      · rename_i b h2 ha
        cases hq
        refine lift ?_
        rw [hpx]
        exact toBytes_ok hE hH hsrc hdst he (VRels.bytes σ _) ha
      · cases hq
    · rename_i d e s hsrc hdst hx
      have hpx := hρ x
      rw [hx] at hpx; simp only [VRel] at hpx
      obtain ⟨S, hpx, hS⟩ := hpx
      split at hq
      case h_2 => cases hq
      rename_i he
      split at hq
      · rename_i b h2 ha
        cases hq
        refine lift ?_
        rw [hpx]
        have hl : s.length = S.size := by have := hS.length; simp at this; exact this.symm
        rw [hl]
        exact toBytes_ok hE hH hsrc hdst he hS ha
      · cases hq
  · -- mapUpdate
    rename_i t m k x
    split at hq
    · rename_i h2 hm
      cases hq
      exact liftU rfl (mapUpdateE_ok hE hH hm (hρ m) (hρ k) (hρ x))
    · cases hq
  · rename_i t m k x
    split at hq
    · rename_i h2 hm
      cases hq
      exact liftU rfl (mapUpdateE_ok hE hH hm (hρ m) (hρ k) (hρ x))
    · cases hq
  · rename_i t m k
    exact lift (mapEntryE_ok hE hH hq (hρ m) (hρ k))
  · rename_i t m s x
    split at hq
    · rename_i h2 hm
      cases hq
      exact liftU rfl (entryStoreE_ok hH hm (hρ m) (hρ s) (hρ x))
    · cases hq
  · -- range
    rename_i t x
    split at hq
    case h_2 => cases hq
    rename_i s hu hx
    have hpx := hρ x
    rw [hx] at hpx; simp only [VRel] at hpx
    split at hq
    · rename_i b h2 ha
      cases hq
      obtain ⟨rfl, hA⟩ := hH.alloc ha (.stringIter s 0) (r := ⟨w.heap.size, 0, 0⟩) rfl ⟨hH.Bsize, rfl, heap_alloc_new _ _⟩
      refine lift ⟨.pointer (some ⟨w.heap.size, 0, none⟩), _, _, ?_, Sub.le_add hH.fresh, hA, by simp only [VRel]; exact ⟨_, Sub.add_same _ _ _, rfl⟩⟩
      simp [Instr.range, run_und hE hu, hpx]
    · cases hq
  · -- next
    rename_i it
    split at hq
    case h_2 => cases hq
    rename_i r hi
    have hpi := hρ it
    rw [hi] at hpi; simp only [VRel] at hpi; obtain ⟨q, hq1, ei⟩ := hpi
    split at hq
    case h_2 => cases hq
    rename_i s p hg
    obtain ⟨hB, hb0, hw⟩ := hH.rel r _ hg rfl _ hq1
    rw [hb0] at ei
    split at hq
    · rename_i hlt
      cases hq
      have hlt : p < s.size := by rw [Nat.blt_eq] at hlt; exact hlt
      refine lift ⟨.tuple #[.bool true, goInt p, .int .i32 (Utf8.decode s p).1], _, σ, ?_, Sub.le_refl _, hH.put (w' := { w with heap := w.heap.setIfInBounds q.block (.stringIter s (p + (Utf8.decode s p).2)) }) hg rfl rfl hq1 (below_set hB) (by simp) (fun j hj _ => heap_set_other hj) ⟨hB, hb0, heap_set_same hw⟩, ?_⟩
      · simp only [Instr.next, ei, Nat.add_zero, Sem.run_bind, run_getObj_iter hw, Result.andThen_ok, hlt, if_true]
        simp [setObj, Sem.run, hw]
      · simp only [VRel]; exact ⟨_, rfl, by simp [VRels, VRel, goInt]⟩
    · rename_i hlt
      cases hq
      have hlt : ¬ p < s.size := fun hc => by rw [← Nat.blt_eq] at hc; rw [hc] at hlt; cases hlt
      refine lift ⟨.tuple #[.bool false], w, σ, ?_, Sub.le_refl _, hH, by simp only [VRel]; exact ⟨_, rfl, by simp [VRels, VRel]⟩⟩
      simp only [Instr.next, ei, Nat.add_zero, Sem.run_bind, run_getObj_iter hw, Result.andThen_ok, hlt, if_false, Sem.run_pure]
  · -- append
    rename_i args argTypes
    split at hq
    · rename_i s x sT xT e1 e2
      obtain ⟨v', w', τ, h1, h2⟩ := appendE_ok (P := P) (ty := type) hE hH hq (hρ s) (hρ x)
      refine ⟨v', w', τ, .inl ?_, h2⟩
      have e1 := array_cons e1; have e2 := array_cons e2; subst e1; subst e2
      simp [execOp, resolve, invoke, builtin, h1]
    · cases hq
  · -- copy
    rename_i args argTypes
    split at hq
    · rename_i d s dT sT e1 e2
      obtain ⟨v', w', τ, h1, h2⟩ := copyE_ok (P := P) (ty := type) (sT := sT) hE hH hq (hρ d) (hρ s)
      refine ⟨v', w', τ, .inl ?_, h2⟩
      have e1 := array_cons e1; have e2 := array_cons e2; subst e1; subst e2
      simp [execOp, resolve, invoke, builtin, h1]
    · cases hq
  · -- delete
    rename_i args argTypes
    split at hq
    · rename_i m k t t2 e1 e2
      split at hq
      · rename_i h2 hd
        cases hq
        obtain ⟨w', h1, h3⟩ := deleteE_ok (P := P) (ty := type) (t2 := t2) hE hH hd (hρ m) (hρ k)
        refine ⟨.tuple #[], w', σ, .inl ?_, Sub.le_refl _, h3, by simp [VRel, VRels]⟩
        have e1 := array_cons e1; have e2 := array_cons e2; subst e1; subst e2
        simp [execOp, resolve, invoke, builtin, h1]
      · cases hq
    · cases hq
  · -- clear
    rename_i args argTypes
    split at hq
    · rename_i x t e1 e2
      split at hq
      case h_2 => cases hq
      rename_i kt et r hu hx
      have hpx := hρ x
      rw [hx] at hpx; simp only [VRel] at hpx; obtain ⟨q, hq1, ex⟩ := hpx
      split at hq
      · rename_i es c hg
        cases hq
        obtain ⟨q', hq2, hB, ES, hw, he⟩ := map_obj hH hg hq1
        rw [hq1] at hq2; cases hq2
        refine ⟨.tuple #[], _, σ, .inl ?_, Sub.le_refl _, hH.set_map hg hq1 (ES' := #[]) (c' := c) (by simp [ERels]), by simp [VRel, VRels]⟩
        have e1 := array_cons e1; have e2 := array_cons e2; subst e1; subst e2
        simp [execOp, resolve, invoke, builtin, Builtin.clear_, run_und hE hu, ex, run_getObj_map hw, run_setObj_map hw]
      · cases hq
    · cases hq
  · cases hq
end
end Go.Bx
