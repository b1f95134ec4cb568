/- Steps of the evaluator's heap beside steps of the world. -/
import Derived.Test.YtmiebhjpdmokoaaGreatDoorBx8s
import Derived.Lib.FrozenHead
set_option linter.all false
namespace Go.Bx
open Go.RowKit
variable [Valn]

theorem pow40 {n : Nat} (h : n ≤ 1000000001) : n + 1 < 2 ^ 40 := by
  have : (2 : Nat) ^ 40 = 1099511627776 := by decide
  omega

theorem ORel.mono {σ τ : Sub} (hs : σ.le τ) {B : Nat} {r : Ren} {w w' : World} (hw : w'.heap[r.block]? = w.heap[r.block]?) : ∀ {o : O}, ORel σ B r w o → ORel τ B r w' o
  | .cells c e, ⟨h0, C, e', F, h1, h2, h3, h4⟩ => ⟨h0, C, e', F, by rw [hw]; exact h1, h2, h3, h4.mono hs⟩
  | .ro c, ⟨h0, C, e', F, h1, h2, h4⟩ => ⟨h0, C, e', F, by rw [hw]; exact h1, h2, h4.mono hs⟩
  | .map es c, ⟨h0, ES, h1, h2⟩ => ⟨h0, ES, by rw [hw]; exact h1, ERels.mono hs _ _ h2⟩
  | .iter s p, ⟨h0, h1, h2⟩ => ⟨h0, h1, by rw [hw]; exact h2⟩
  | .coll, ⟨h0, h1⟩ => ⟨h0, by rw [hw]; exact h1⟩
  | .arr c, ⟨h0, hb, C, e', F, h1, h2, h3, h4⟩ => ⟨h0, hb, C, e', F, by rw [hw]; exact h1, h2, h3, h4⟩
  | .xro t f, h => by obtain ⟨h0, C, e', F, h1, h2, h3⟩ := h; exact ⟨h0, C, e', F, by rw [hw]; exact h1, h2, h3⟩
  | .buf own k c n sz, h => by obtain ⟨h0, C, e', F, N, h1, h2⟩ := h; exact ⟨h0, C, e', F, N, by rw [hw]; exact h1, h2⟩
  | .mit m, ⟨h0, hb, q, s, l, h1, h2⟩ => ⟨h0, hb, q, s, l, hs _ _ h1, by rw [hw]; exact h2⟩
  | .dead, _ => trivial

theorem ORel.plain {σ : Sub} {B : Nat} {r : Ren} {w : World} {o : O} (hd : o.isDead = false) (hc : o.isColl = false) (h : ORel σ B r w o) : ∃ x, w.heap[r.block]? = some x ∧ loopish x = false := by
  cases o with
  | cells c e => obtain ⟨_, C, _, F, h1, _⟩ := h; exact ⟨_, h1, rfl⟩
  | ro c => obtain ⟨_, C, _, F, h1, _⟩ := h; exact ⟨_, h1, rfl⟩
  | map es c => obtain ⟨_, ES, h1, _⟩ := h; exact ⟨_, h1, rfl⟩
  | iter s p => obtain ⟨_, _, h1⟩ := h; exact ⟨_, h1, rfl⟩
  | coll => cases hc
  | arr c => obtain ⟨_, _, C, _, F, h1, _⟩ := h; exact ⟨_, h1, rfl⟩
  | xro t f => obtain ⟨_, C, _, F, h1, _⟩ := h; exact ⟨_, h1, rfl⟩
  | buf own k c n sz => obtain ⟨_, C, _, F, N, h1, _⟩ := h; exact ⟨_, h1, rfl⟩
  | mit m => obtain ⟨_, _, q, s, l, _, h1⟩ := h; exact ⟨_, h1, rfl⟩
  | dead => cases hd

theorem ORel.lt {σ : Sub} {B : Nat} {r : Ren} {w : World} {o : O} (hd : o.isDead = false) (h : ORel σ B r w o) : r.block < w.heap.size := by
  have key : ∀ x, w.heap[r.block]? = some x → r.block < w.heap.size := fun x hx => (Array.getElem?_eq_some_iff.1 hx).1
  cases o with
  | cells c e => obtain ⟨_, C, _, F, h1, _⟩ := h; exact key _ h1
  | ro c => obtain ⟨_, C, _, F, h1, _⟩ := h; exact key _ h1
  | map es c => obtain ⟨_, ES, h1, _⟩ := h; exact key _ h1
  | iter s p => obtain ⟨_, _, h1⟩ := h; exact key _ h1
  | coll => obtain ⟨_, h1⟩ := h; exact key _ h1
  | arr c => obtain ⟨_, _, C, _, F, h1, _⟩ := h; exact key _ h1
  | xro t f => obtain ⟨_, C, _, F, h1, _⟩ := h; exact key _ h1
  | buf own k c n sz => obtain ⟨_, C, _, F, N, h1, _⟩ := h; exact key _ h1
  | mit m => obtain ⟨_, _, q, s, l, _, h1⟩ := h; exact key _ h1
  | dead => cases hd

def Sub.add (σ : Sub) (n : Nat) (r : Ren) : Sub := fun i => if i = n then some r else σ i
theorem Sub.le_add {σ : Sub} {n : Nat} {r : Ren} (h : σ n = none) : σ.le (σ.add n r) := by
  intro i q hq
  by_cases e : i = n
  · subst e; rw [h] at hq; cases hq
  · simp [Sub.add, e, hq]
theorem Sub.add_same (σ : Sub) (n : Nat) (r : Ren) : σ.add n r n = some r := by simp [Sub.add]

section
variable {G : Nat} {w0 : Base} {B : Nat} {σ : Sub} {h : Hp} {w : World}

theorem HRel.fresh (hH : HRel G w0 B σ h w) : σ h.n = none := by
  cases hs : σ h.n with
  | none => rfl
  | some r => have := hH.dom _ _ hs; omega

/-- The world draws an answer. -/
theorem HRel.drew (hH : HRel G w0 B σ h w) : HRel G w0 B σ h w.drew :=
  ⟨hH.below.drew, hH.keep, hH.Bsize, hH.nb, hH.dom, hH.glob, hH.obj, hH.unb, fun i o hg hd r hr => ORel.mono (Sub.le_refl σ) rfl (hH.rel i o hg hd r hr), hH.inj⟩

theorem get_put {h : Hp} {b i : Nat} {o : O} (hb : b ≤ 1000000001) : (h.put b o).t.get i = if i = b then some o else h.t.get i :=
  T.get_set o 40 h.t b i (pow40 hb)

/-- An object turns, and its block in the world. -/
theorem HRel.put (hH : HRel G w0 B σ h w) {b : Nat} {o o' : O} {r : Ren} (hg : h.t.get b = some o) (hd : o.isDead = false) (hcl : o.isColl = false) (hr : σ b = some r) {w' : World} (hbel : Below B w w') (hsz : w.heap.size ≤ w'.heap.size)
    (hoth : ∀ j, j ≠ r.block → j < w.heap.size → w'.heap[j]? = w.heap[j]?) (ho : ORel σ B r w' o') : HRel G w0 B σ (h.put b o') w' := by
  have hbn := hH.obj _ _ hg
  have hb1 : b ≤ 1000000001 := by have := hH.nb; omega
  obtain ⟨x0, hx0, hx1⟩ := (hH.rel b o hg hd r hr).plain hd hcl
  refine ⟨hH.below.trans hbel, hH.keep.trans (Keeps.one hoth hx0 hx1), Nat.le_trans hH.Bsize hsz, hH.nb, hH.dom, hH.glob, ?_, hH.unb, ?_, ?_⟩
  · intro i x hx
    rw [get_put hb1] at hx
    split at hx
    · rename_i e; subst e; exact hbn
    · exact hH.obj i x hx
  · intro i x hx hxd q hq
    rw [get_put hb1] at hx
    split at hx
    · rename_i e; subst e; cases hx; rw [hr] at hq; cases hq; exact ho
    · rename_i hne
      have hoq := hH.rel i x hx hxd q hq
      refine ORel.mono (Sub.le_refl σ) (hoth _ ?_ (hoq.lt hxd)) hoq
      intro e
      exact hne (hH.inj i b x o q r hx hg hxd hd hq hr e)
  · intro i j x y q q' hx hy hxd hyd hq hq' e
    rw [get_put hb1] at hx hy
    have live : ∀ k z, (if k = b then some o' else h.t.get k) = some z → z.isDead = false → ∃ z', h.t.get k = some z' ∧ z'.isDead = false := by
      intro k z hk hz
      split at hk
      · rename_i e; subst e; exact ⟨o, hg, hd⟩
      · exact ⟨z, hk, hz⟩
    obtain ⟨x', hx', hxd'⟩ := live i x hx hxd
    obtain ⟨y', hy', hyd'⟩ := live j y hy hyd
    exact hH.inj i j x' y' q q' hx' hy' hxd' hyd' hq hq' e

/-- An object dies. -/
theorem HRel.kill (hH : HRel G w0 B σ h w) {b : Nat} {o : O} (hg : h.t.get b = some o) : HRel G w0 B σ (h.put b .dead) w := by
  have hbn := hH.obj _ _ hg
  have hb1 : b ≤ 1000000001 := by have := hH.nb; omega
  refine ⟨hH.below, hH.keep, hH.Bsize, hH.nb, hH.dom, hH.glob, ?_, hH.unb, ?_, ?_⟩
  · intro i x hx
    rw [get_put hb1] at hx
    split at hx
    · rename_i e; subst e; exact hbn
    · exact hH.obj i x hx
  · intro i x hx hxd
    rw [get_put hb1] at hx
    split at hx
    · cases hx; cases hxd
    · exact hH.rel i x hx hxd
  · intro i j x y q q' hx hy hxd hyd hq hq' e
    rw [get_put hb1] at hx hy
    split at hx
    · cases hx; cases hxd
    · split at hy
      · cases hy; cases hyd
      · exact hH.inj i j x y q q' hx hy hxd hyd hq hq' e

/-- A new object, in a block that no living one has. -/
theorem HRel.add (hH : HRel G w0 B σ h w) {b : Nat} {o : O} {h' : Hp} (ha : h.alloc o = some (b, h')) {r : Ren} (ho : ORel (σ.add h.n r) B r w o)
    (hfree : ∀ i x q, h.t.get i = some x → x.isDead = false → σ i = some q → q.block ≠ r.block) : b = h.n ∧ HRel G w0 B (σ.add h.n r) h' w := by
  unfold Hp.alloc at ha
  cases hb : Nat.blt h.n 1000000000 with
  | false => simp [hb] at ha
  | true =>
    have hlt : h.n < 1000000000 := by rw [Nat.blt_eq] at hb; exact hb
    simp only [hb, Option.some.injEq, Prod.mk.injEq] at ha
    obtain ⟨rfl, rfl⟩ := ha
    have hf := hH.fresh
    have hle := Sub.le_add (r := r) hf
    have gp : ∀ i, T.get (h.t.set 40 h.n o) i = if i = h.n then some o else h.t.get i := fun i => T.get_set o 40 h.t h.n i (pow40 (by omega))
    refine ⟨rfl, hH.below, hH.keep, hH.Bsize, by show h.n + 1 ≤ _; omega, ?_, ?_, ?_, ?_, ?_, ?_⟩
    · intro i q hq
      show i < h.n + 1
      simp only [Sub.add] at hq
      split at hq
      · omega
      · have := hH.dom i q hq; omega
    · intro g hg
      obtain ⟨q, h1, h2⟩ := hH.glob g hg
      exact ⟨q, hle _ _ h1, h2⟩
    · intro i x hx
      show i < h.n + 1
      rw [gp] at hx
      split at hx
      · omega
      · have := hH.obj i x hx; omega
    · intro i hi
      obtain ⟨h1, h2⟩ := hH.unb i hi
      have hne : i ≠ h.n := by omega
      exact ⟨by simp [Sub.add, hne, h1], by show i < h.n + 1; omega⟩
    · intro i x hx hxd q hq
      rw [gp] at hx
      split at hx
      · rename_i e; subst e; cases hx; rw [Sub.add_same] at hq; cases hq; exact ho
      · rename_i e
        have hq1 : σ i = some q := by simpa [Sub.add, e] using hq
        exact ORel.mono hle rfl (hH.rel i x hx hxd q hq1)
    · intro i j x y q q' hx hy hxd hyd hq hq' e
      rw [gp] at hx hy
      have old : ∀ k (z : O) (p : Ren), k ≠ h.n → (σ.add h.n r) k = some p → σ k = some p := fun k z p hk hp => by simpa [Sub.add, hk] using hp
      split at hx
      · rename_i e1
        split at hy
        · rename_i e2; rw [e1, e2]
        · rename_i e2
          have hq2 := old j y q' e2 hq'
          subst e1
          rw [Sub.add_same] at hq; cases hq
          exact absurd e.symm (hfree j y q' hy hyd hq2)
      · rename_i e1
        have hq1 := old i x q e1 hq
        split at hy
        · rename_i e2
          subst e2
          rw [Sub.add_same] at hq'; cases hq'
          exact absurd e (hfree i x q hx hxd hq1)
        · rename_i e2
          exact hH.inj i j x y q q' hx hy hxd hyd hq1 (old j y q' e2 hq') e

/-- A new object in a new block. -/
theorem HRel.alloc (hH : HRel G w0 B σ h w) {b : Nat} {o : O} {h' : Hp} (ha : h.alloc o = some (b, h')) (ob : Obj) {r : Ren} (hr : r.block = w.heap.size)
    (ho : ORel (σ.add h.n r) B r (w.alloc ob) o) : b = h.n ∧ HRel G w0 B (σ.add h.n r) h' (w.alloc ob) := by
  have hW : HRel G w0 B σ h (w.alloc ob) := by
    refine ⟨hH.below.alloc hH.Bsize ob, hH.keep.trans (Keeps.same (fun k hk => Below.heap_alloc _ _ _ hk)), by simp; have := hH.Bsize; omega, hH.nb, hH.dom, hH.glob, hH.obj, hH.unb, fun i x hx hxd q h1 => ?_, hH.inj⟩
    have h2 := hH.rel i x hx hxd q h1
    exact ORel.mono (Sub.le_refl σ) (Below.heap_alloc _ _ _ (h2.lt hxd)) h2
  refine hW.add ha ho (fun i x q hx hxd hq => ?_)
  have h2 := hH.rel i x hx hxd q hq
  have := h2.lt hxd
  omega

theorem heap_alloc_new (w : World) (ob : Obj) : (w.alloc ob).heap[w.heap.size]? = some ob := by
  show (w.heap.push ob)[w.heap.size]? = some ob
  simp

theorem HRel.alloc_cells (hH : HRel G w0 B σ h w) {b : Nat} {c : List V} {e : TypeId} {h' : Hp} (ha : h.alloc (.cells c e) = some (b, h')) (C : Array Value) (e' : TypeId)
    (hc : ∀ (k : Nat) (v : V), c[k]? = some v → ∃ v', C[k]? = some v' ∧ VRel σ v v') (hl : c.length ≤ C.size) :
    b = h.n ∧ HRel G w0 B (σ.add h.n ⟨w.heap.size, 0, C.size⟩) h' (w.alloc (.cells C e')) := by
  refine hH.alloc ha (.cells C e') (r := ⟨w.heap.size, 0, C.size⟩) rfl ⟨hH.Bsize, C, e', (0, 0), heap_alloc_new _ _, rfl, fun k _ => by simp, ?_⟩
  exact ⟨by simpa using hl, fun k v hk => by obtain ⟨v', h1, h2⟩ := hc k v hk; exact ⟨v', by simpa using h1, VRel.mono (Sub.le_add hH.fresh) _ _ h2⟩⟩
end

theorem heap_setCells (b : Nat) : ∀ (vs : List Value) (o : Nat) (w : World) (C : Array Value) (e : TypeId) (F : Nat × Nat), w.heap[b]? = some (.cells C e F) → o + vs.length ≤ C.size →
    ∃ C', (w.setCells b o vs).heap[b]? = some (.cells C' e F) ∧ C'.size = C.size ∧ ∀ k, C'[k]? = if o ≤ k ∧ k < o + vs.length then vs[k - o]? else C[k]?
  | [], o, w, C, e, F, h, _ => ⟨C, h, rfl, fun k => by rw [if_neg (by simp)]⟩
  | v :: r, o, w, C, e, F, h, hl => by
    simp only [List.length_cons] at hl
    have h1 : (w.setCell ⟨b, o, none⟩ v).heap[b]? = some (.cells (C.setIfInBounds o v) e F) := by simp [World.setCell, Array.getElem?_modify, h]
    obtain ⟨C', a1, a2, a3⟩ := heap_setCells b r (o + 1) _ _ e F h1 (by simp; omega)
    refine ⟨C', a1, by simpa using a2, fun k => ?_⟩
    rw [a3]
    simp only [List.length_cons]
    by_cases hk : o + 1 ≤ k ∧ k < o + 1 + r.length
    · rw [if_pos hk, if_pos (by omega), show k - o = (k - (o + 1)) + 1 by omega, List.getElem?_cons_succ]
    · rw [if_neg hk]
      by_cases e : k = o
      · subst e
        rw [if_pos (by omega), Nat.sub_self, Array.getElem?_setIfInBounds_self_of_lt (by omega)]
        rfl
      · rw [if_neg (by omega), Array.getElem?_setIfInBounds_ne (by omega)]

theorem setCells_other (b : Nat) : ∀ (vs : List Value) (o : Nat) (w : World) (j : Nat), j ≠ b → (w.setCells b o vs).heap[j]? = w.heap[j]?
  | [], _, _, _, _ => rfl
  | v :: r, o, w, j, h => by rw [World.setCells, setCells_other b r (o + 1) _ j h]; exact Below.heap_setCell _ _ _ _ h

theorem setCells_size (b : Nat) : ∀ (vs : List Value) (o : Nat) (w : World), (w.setCells b o vs).heap.size = w.heap.size
  | [], _, _ => rfl
  | v :: r, o, w => by rw [World.setCells, setCells_size b r]; simp

theorem Below.setCells {B : Nat} {b : Nat} (hb : B ≤ b) : ∀ (vs : List Value) (o : Nat) (a w : World), Below B a w → Below B a (w.setCells b o vs)
  | [], _, _, _, h => h
  | v :: r, o, a, w, h => by rw [World.setCells]; exact Below.setCells hb r (o + 1) a _ (h.setCell hb v)

theorem allCells_ok {σ : Sub} : ∀ (l : List V) (l' : List Value), allCells l = true → VRels σ l l' → ∀ v ∈ l', v.oneCell' = true
  | [], l', _, hr => by simp only [VRels] at hr; subst hr; simp
  | v :: l, l', h, hr => by
    simp only [VRels] at hr
    obtain ⟨v', m, rfl, hv, hm⟩ := hr
    simp only [allCells] at h
    cases hc : isCell v with
    | false => simp [hc] at h
    | true =>
      simp only [hc] at h
      intro x hx
      simp only [List.mem_cons] at hx
      rcases hx with rfl | hx
      · cases v <;> simp [isCell] at hc <;> simp only [VRel] at hv <;> first
          | (obtain ⟨_, _, ⟨_, _, rfl, _⟩ | ⟨_, _, _, rfl, _⟩⟩ := hv <;> rfl)
          | (obtain ⟨_, _, _, _, _, _, _, rfl, _⟩ := hv; rfl)
          | (subst hv; rfl)
          | (subst hv; rename_i t e; cases t <;> rfl)
          | (obtain ⟨_, _, rfl⟩ := hv; rfl)
          | (obtain ⟨_, rfl, _⟩ := hv; rfl)
          | (obtain ⟨_, _, rfl, _⟩ := hv; rfl)
          | (obtain ⟨_, _, _, _, rfl, _⟩ := hv; rfl)
          | (obtain ⟨_, _, _, _, _, _, rfl, _⟩ := hv; rfl)
      · exact allCells_ok l m h hm x hx

section
variable {P : Program} {G : Nat} {w0 : Base} {B : Nat} {σ : Sub} {h : Hp} {w : World} (hH : HRel G w0 B σ h w)
 include hH

/-- Cells stored into a block of the evaluator's own. -/
theorem storeAt_ok {b o : Nat} {new : List V} {h' : Hp} (hs : storeAt h b o new = some h') {r : Ren} (hr : σ b = some r) {N : List Value} (hn : VRels σ new N) {a : Nat} (ha : new = [] ∨ a = r.base + o) :
    (storeCells ⟨r.block, a, none⟩ N).run P w = .ok () (w.setCells r.block a N) ∧ HRel G w0 B σ h' (w.setCells r.block a N) := by
  unfold storeAt at hs
  split at hs
  · rename_i c e hg hac
    split at hs
    · rename_i c' ho
      cases hs
      have hor := hH.rel b _ hg rfl _ hr
      obtain ⟨hB, C, e', F, hw, hCs, hF, hcr⟩ := hor
      obtain ⟨o1, o2, o3⟩ := overlay_some _ _ _ _ ho
      have hnl := hn.length
      by_cases hnil : new = []
      · subst hnil
        have : N = [] := List.eq_nil_of_length_eq_zero hnl
        subst this
        have hcc : c' = c := by
          have : overlay o [] c = some c := by cases o <;> simp [overlay]
          rw [this] at ho; cases ho; rfl
        subst hcc
        refine ⟨rfl, ?_⟩
        exact hH.put (w' := w) hg rfl rfl hr (Below.refl _ _) (Nat.le_refl _) (fun _ _ _ => rfl) ⟨hB, C, e', F, hw, hCs, hF, hcr⟩
      · have ha := ha.resolve_left hnil
        have o2 := o2.resolve_left hnil
        have hfit : a + N.length ≤ C.size := by rw [ha, hnl]; have := hcr.1; omega
        have hcell : ∀ j, j < N.length → (w.cell? ⟨r.block, a + j, none⟩).isSome = true := by
          intro j hj
          have hlt : a + j < C.size := by omega
          simp [World.cell?, hw, hlt]
        have hfro : ∀ j, j < N.length → w.frozen? ⟨r.block, a + j, none⟩ = false := by
          intro j hj
          have := hF (a + j) (by omega)
          simp only [World.frozen?, hw]
          obtain ⟨lo, hi⟩ := F
          simp only at this ⊢
          simpa using this
        refine ⟨?_, ?_⟩
        · have := run_storeCells_cells (P := P) r.block a N 0 w (by simpa using hcell) (by simpa using hfro) (allCells_ok _ _ hac hn)
          simpa using this
        · obtain ⟨C', c1, c2, c3⟩ := heap_setCells r.block N a w C e' F hw hfit
          refine hH.put hg rfl rfl hr (Below.setCells hB N a w w (Below.refl _ _)) (by rw [setCells_size]; exact Nat.le_refl _) (fun j hj _ => setCells_other _ _ _ _ _ hj) ⟨hB, C', e', F, c1, by rw [c2, hCs], hF, ?_⟩
          refine ⟨by rw [c2, o1]; exact hcr.1, fun k v hk => ?_⟩
          rw [o3] at hk
          rw [c3, hnl, ha]
          split at hk
          · rename_i hk2
            rw [if_pos (by omega), show r.base + k - (r.base + o) = k - o by omega]
            exact ((VRels.iff _ _).1 hn).2 _ _ hk
          · rename_i hk2
            rw [if_neg (by omega)]
            exact hcr.2 _ _ hk
    · cases hs
  · cases hs
end
end Go.Bx
