/- The operations that act: appends, copies, makes. -/
import Derived.Test.YtmiebhjpdmokoaaGreatDoorBx10
set_option linter.all false
namespace Go.Bx
open Go.RowKit
variable [Valn]

theorem HRel.touch {G : Nat} {w0 : Base} {B : Nat} {σ : Sub} {h : Hp} {w : World} (hH : HRel G w0 B σ h w) {blk : Nat} (_hB : B ≤ blk)
    (hfree : ∀ i x q, h.t.get i = some x → x.isDead = false → σ i = some q → q.block ≠ blk) {w' : World} (hbel : Below B w w') (hsz : w.heap.size ≤ w'.heap.size) (hoth : ∀ j, j ≠ blk → w'.heap[j]? = w.heap[j]?) (hpl : ∃ x, w.heap[blk]? = some x ∧ loopish x = false) : HRel G w0 B σ h w' :=
  ⟨hH.below.trans hbel, hH.keep.trans (by obtain ⟨x, h1, h2⟩ := hpl; exact Keeps.one (fun j hj _ => hoth j hj) h1 h2), Nat.le_trans hH.Bsize hsz, hH.nb, hH.dom, hH.glob, hH.obj, hH.unb, fun i x hx hxd q h1 => ORel.mono (Sub.le_refl σ) (hoth _ (hfree i x q hx hxd h1)) (hH.rel i x hx hxd q h1), hH.inj⟩

theorem growBy_le (n : Nat) : ∀ (r c : Nat), Builtin.growBy n r c ≤ max c (2 * n + 192)
  | 0, c => by simp [Builtin.growBy]; omega
  | r + 1, c => by
    simp only [Builtin.growBy]
    split
    · omega
    · have := growBy_le n r (c + (c + 768) / 4)
      omega

theorem nextslicecap_le {need cap : Nat} (h : cap < need) : Builtin.nextslicecap need cap ≤ 4 * need + 8192 := by
  unfold Builtin.nextslicecap
  split
  · omega
  · split
    · omega
    · have := growBy_le need 4 cap
      omega

theorem roomOk_le {bytes need : Nat} (h : roomOk bytes need = true) : (4 * need + 8192) * bytes ≤ 281474976710656 ∧ need ≤ 1000000000000 := by
  unfold roomOk at h
  cases h1 : Nat.ble ((4 * need + 8192) * bytes) 281474976710656 with
  | false => simp [h1] at h
  | true => simp only [h1] at h; exact ⟨Nat.le_of_ble_eq_true h1, Nat.le_of_ble_eq_true h⟩

section
variable {P : Program} {E : Env} (hE : EnvOk P E) {σ : Sub} {G : Nat} {w0 : Base} {B : Nat} {h : Hp} {w : World} (hH : HRel G w0 B σ h w)

 include hE in
theorem zcellsN_ok {e : TypeId} {size : Nat} {z : List V} (hz : zcellsN E e size = some z) : z.length = size ∧ ∃ zv, (zeroValue e).run P w = .ok zv w ∧ VRels σ z zv.cells.toList ∧ zv.cells.size = size := by
  unfold zcellsN at hz
  split at hz
  · rename_i z0 hz0
    split at hz
    · rename_i hb
      cases hz
      have hb := Nat.eq_of_beq_eq_true hb
      obtain ⟨zv, h1, h2⟩ := zcells_ok (σ := σ) hE hz0
      have := h2.length
      exact ⟨hb, zv, run_zero hE h1 w, h2, by simp at this; omega⟩
    · cases hz
  · cases hz

theorem lenV_ok {x : V} {n : Nat} {x' : Value} (hq : lenV x = some n) (hx : VRel σ x x') : (Builtin.lenOf x').run P w = .ok n w := by
  unfold lenV at hq
  split at hq
  · cases hq; simp only [VRel] at hx; obtain ⟨r, _, rfl⟩ := hx; rfl
  · cases hq; simp only [VRel] at hx; obtain ⟨r, a, c, _, rfl, _⟩ := hx; rfl
  · cases hq; simp only [VRel] at hx; subst hx; rfl
  · cases hq; simp only [VRel] at hx; subst hx; rfl
  · cases hq; simp only [VRel] at hx; obtain ⟨s, rfl, hs⟩ := hx
    have := hs.length; simp at this; rw [← this]; rfl
  · cases hq

theorem VRels.bytes (σ : Sub) : ∀ l : List UInt8, VRels σ (l.map fun b => .int .u8 (Int.ofNat b.toNat)) (l.map fun b => .int .u8 (b.toNat : Int))
  | [] => by simp [VRels]
  | b :: l => by simp only [List.map_cons, VRels]; exact ⟨_, _, rfl, by simp [VRel], VRels.bytes σ l⟩

 include hH in
theorem firstV_ok {x : V} {size n : Nat} {l : List V} {x' : Value} (hq : firstV h size n x = some l) (hn : ∀ m, lenV x = some m → n ≤ m) (hx : VRel σ x x') :
    ∃ L : List Value, (Builtin.firstCells size n x').run P w = .ok L.toArray w ∧ VRels σ l L := by
  have slice_case : ∀ (b o len : Nat), ((∃ cap, x = .slice b o len cap) ∨ (∃ cap sz, x = .oslice b o len cap sz)) → lenV x = some len → cellsAt h b o (n * size) = some l →
      ∃ L : List Value, (Builtin.firstCells size n x').run P w = .ok L.toArray w ∧ VRels σ l L := by
    intro b o len hxx hl hc
    obtain ⟨r, a, cap', hr, rfl, ha⟩ := VRel.slice_cases hxx hx
    have hnl := hn len hl
    exact loadCells_slice hH hr hc (by rcases ha with ha | ha; (left; have : n = 0 := by omega
                                                                subst this; simp); exact .inr ha)
  unfold firstV at hq
  split at hq
  · rename_i b o len cap; exact slice_case b o len (.inl ⟨_, rfl⟩) rfl hq
  · rename_i b o len cap sz; exact slice_case b o len (.inr ⟨_, _, rfl⟩) rfl hq
  · cases hq; simp only [VRel] at hx; subst hx; exact ⟨[], rfl, by simp [VRels]⟩
  · rename_i s
    split at hq
    case h_2 => cases hq
    cases hq; simp only [VRel] at hx; subst hx
    refine ⟨(s.data.toList.take n).map fun b => .int .u8 (b.toNat : Int), ?_, VRels.bytes σ _⟩
    have hn' := hn s.size rfl
    obtain ⟨⟨d⟩⟩ := s
    simp only [Builtin.firstCells, Sem.run_pure]
    congr 1
    apply Array.ext'
    simp [ByteArray.data_extract]
  · rename_i m
    split at hq
    case h_2 => cases hq
    cases hq; simp only [VRel] at hx; obtain ⟨s, rfl, hs⟩ := hx
    refine ⟨(s.data.toList.take n).map fun b => .int .u8 (b.toNat : Int), ?_, by rw [List.map_take]; exact VRels.take n _ _ hs⟩
    have hn' : n ≤ s.size := by have h1 := hn m.length rfl; have h2 := hs.length; simp at h2; omega
    clear hs
    obtain ⟨⟨d⟩⟩ := s
    simp only [Builtin.firstCells, Sem.run_pure]
    congr 1
    apply Array.ext'
    simp [ByteArray.data_extract]
  · cases hq

/-- What a new row holds: what came first, and what stands behind it. -/
theorem new_cells {l : List V} {L R : List Value} (hl : VRels σ l L) : (∀ (k : Nat) (v : V), l[k]? = some v → ∃ v', (L ++ R).toArray[k]? = some v' ∧ VRel σ v v') ∧ l.length ≤ (L ++ R).toArray.size := by
  obtain ⟨a, b⟩ := (VRels.iff _ _).1 hl
  refine ⟨fun k v hk => ?_, by simp; omega⟩
  obtain ⟨v', c, d⟩ := b k v hk
  refine ⟨v', ?_, d⟩
  have hlt : k < L.length := (List.getElem?_eq_some_iff.1 c).1
  simp [List.getElem?_append_left hlt, c]

/-- The model's append where there is no room: the new row. -/
theorem append_grow {sT xT ty e : TypeId} {i : TypeInfo} (hs : P.underlying sT = some (.slice e)) {dx : TypeDesc} (hx : P.underlying xT = some dx) (hni : ∀ k, dx ≠ .int k) (hi : P.info? e = some i) {zv : Value} (hz : i.zero = some zv)
    {base : Option Addr} {sLen sCap n : Nat} {x' : Value} (hlen : (Builtin.lenOf x').run P w = .ok n w) (hneed : ¬ sLen + n ≤ sCap) (hroom : roomOk i.bytes (sLen + n) = true)
    {O N : List Value} (hd : (Builtin.firstCells i.size sLen (.slice base sLen sCap)).run P w.drew = .ok O.toArray w.drew) (hd2 : (Builtin.firstCells i.size n x').run P w.drew = .ok N.toArray w.drew) :
    ∃ cap' R, sLen + n ≤ cap' ∧ R.length = (cap' - (sLen + n)) * zv.cells.size ∧ (Builtin.append_ #[sT, xT] ty #[.slice base sLen sCap, x']).run P w = .ok (.slice (some ⟨w.heap.size, 0, none⟩) (sLen + n) cap') (w.drew.alloc (.cells (O ++ N ++ R).toArray e)) := by
  obtain ⟨r1, r2⟩ := roomOk_le hroom
  have hns := nextslicecap_le (need := sLen + n) (cap := sCap) (by omega)
  have hq : (Question.appendCap (sLen + n) sCap e).forced = false := rfl
  refine ⟨(Question.appendCap (sLen + n) sCap e).cut (w.tape w.drawn (.appendCap (sLen + n) sCap e)), (Builtin.zeroCells zv.cells ((Question.appendCap (sLen + n) sCap e).cut (w.tape w.drawn (.appendCap (sLen + n) sCap e)) - (sLen + n))).toList, ?_, ?_, ?_⟩
  · simp only [Question.cut]; omega
  · simp [Builtin.zeroCells]
  · have h1 : ¬ (((sLen + n : Nat) : Int) > IntKind.i64.max ∧ (False ∨ i.bytes = 0)) := by
      simp only [IntKind.max_i64]; omega
    have h2 : ¬ (Builtin.nextslicecap (sLen + n) sCap * i.bytes > 2 ^ 48) := by
      have : Builtin.nextslicecap (sLen + n) sCap * i.bytes ≤ (4 * (sLen + n) + 8192) * i.bytes := Nat.mul_le_mul_right _ hns
      have e48 : (2 : Nat) ^ 48 = 281474976710656 := by decide
      omega
    unfold Builtin.append_
    simp only [run_underlying hs, run_underlying hx, sizeOf, typeInfo, hi, hlen, hneed, zeroValue, Sem.run_bind, Sem.run_pure, Result.andThen_ok, run_program, List.getElem?_toArray, List.getElem?_cons_zero, List.getElem?_cons_succ, if_false, Bool.false_eq_true]
    rw [if_neg h1]
    simp only [Sem.run_bind, run_program, Result.andThen_ok, hi, Sem.run_pure]
    rw [if_neg h2]
    simp only [Sem.run_bind, run_program, Result.andThen_ok, hi, Sem.run_pure, run_choose, hq, Bool.false_eq_true, if_false, run_askRoom, Bool.not_false, if_true, hz]
    change ((Sem.run P (Builtin.firstCells i.size sLen (Value.slice base sLen sCap)) w.drew).andThen _) = _
    rw [hd]
    simp only [Result.andThen_ok]
    rw [hd2]
    simp only [Result.andThen_ok, newRow, Sem.run_bind, run_newObj, Sem.run_pure]
    generalize Builtin.zeroCells zv.cells _ = Z
    show Result.ok _ (w.drew.alloc (.cells (O.toArray ++ N.toArray ++ Z) e)) = _
    have : O.toArray ++ N.toArray ++ Z = (O ++ N ++ Z.toList).toArray := by apply Array.ext'; simp
    rw [this]
    rfl

theorem append_room {sT xT ty e : TypeId} {i : TypeInfo} (hs : P.underlying sT = some (.slice e)) {dx : TypeDesc} (hx : P.underlying xT = some dx) (hni : ∀ k, dx ≠ .int k) (hi : P.info? e = some i)
    {blk a : Nat} {sLen sCap n : Nat} {x' : Value} (hlen : (Builtin.lenOf x').run P w = .ok n w) (hneed : sLen + n ≤ sCap)
    {N : List Value} (hnew : (Builtin.firstCells i.size n x').run P w = .ok N.toArray w) {w' : World} (hst : (storeCells ⟨blk, a + sLen * i.size, none⟩ N).run P w = .ok () w') :
    (Builtin.append_ #[sT, xT] ty #[.slice (some ⟨blk, a, none⟩) sLen sCap, x']).run P w = .ok (.slice (some ⟨blk, a, none⟩) (sLen + n) sCap) w' := by
  unfold Builtin.append_
  simp only [run_underlying hs, run_underlying hx, sizeOf, typeInfo, hi, hlen, hneed, Sem.run_bind, Sem.run_pure, Result.andThen_ok, run_program, List.getElem?_toArray, List.getElem?_cons_zero, List.getElem?_cons_succ, if_false, Bool.false_eq_true, if_true, Bool.not_false, hnew]
  rw [Addr.add_lit]
  simp only [hst, Result.andThen_ok]

theorem append_none {sT xT ty e : TypeId} {i : TypeInfo} (hs : P.underlying sT = some (.slice e)) {dx : TypeDesc} (hx : P.underlying xT = some dx) (hni : ∀ k, dx ≠ .int k) (hi : P.info? e = some i)
    {x' : Value} (hlen : (Builtin.lenOf x').run P w = .ok 0 w) {N : List Value} (hnew : (Builtin.firstCells i.size 0 x').run P w = .ok N.toArray w) :
    (Builtin.append_ #[sT, xT] ty #[.slice none 0 0, x']).run P w = .ok (.slice none 0 0) w := by
  unfold Builtin.append_
  simp only [run_underlying hs, run_underlying hx, sizeOf, typeInfo, hi, hlen, Sem.run_bind, Sem.run_pure, Result.andThen_ok, run_program, List.getElem?_toArray, List.getElem?_cons_zero, List.getElem?_cons_succ, if_false, Bool.false_eq_true, Nat.add_zero, Nat.le_refl, if_true, Bool.not_false, hnew]

 include hE in
theorem grow_ok {h1 : Hp} (hH1 : HRel G w0 B σ h1 w) {old new : List V} {e : TypeId} {b' : Nat} {h' : Hp} (ha : h1.alloc (.cells (old ++ new) e) = some (b', h')) {sT xT ty : TypeId} (hs : E.und sT = some (.slice e)) {dx : TypeDesc} (hx : E.und xT = some dx) (hni : ∀ k, dx ≠ .int k)
    {size bytes : Nat} (hsz : E.size e = some size) (hby : E.bytes e = some bytes) {z : List V} (hz : zcellsN E e size = some z) {base : Option Addr} {sLen sCap n : Nat} {x' : Value} (hlen : (Builtin.lenOf x').run P w = .ok n w) (hneed : ¬ sLen + n ≤ sCap) (hroom : roomOk bytes (sLen + n) = true)
    {O N : List Value} (hO : (Builtin.firstCells size sLen (.slice base sLen sCap)).run P w.drew = .ok O.toArray w.drew) (rO : VRels σ old O) (hN : (Builtin.firstCells size n x').run P w.drew = .ok N.toArray w.drew) (rN : VRels σ new N) (lO : old.length = sLen * size) (lN : new.length = n * size) :
    ∃ v' w' τ, (Builtin.append_ #[sT, xT] ty #[.slice base sLen sCap, x']).run P w = .ok v' w' ∧ σ.le τ ∧ HRel G w0 B τ h' w' ∧ VRel τ (.oslice b' 0 (sLen + n) (sLen + n) size) v' := by
  obtain ⟨i, hi, rfl⟩ := size_ok hE hsz
  obtain ⟨i2, hi2, rfl⟩ := bytes_ok hE hby
  rw [hi] at hi2; cases hi2
  obtain ⟨hzl, zv, hzr, _, hzs⟩ := zcellsN_ok (P := P) (σ := σ) (w := w) hE hz
  have hzi : i.zero = some zv := by
    have : (zeroValue e).run P w = match i.zero with | some v => .ok v w | none => .halt (.unsupported (.resourceLimit "a value of more than 2^22 cells")) w := by
      simp only [zeroValue, typeInfo, Sem.run_bind, run_program, Result.andThen_ok, hi, Sem.run_pure]
      cases i.zero <;> rfl
    rw [this] at hzr
    cases hiz : i.zero with
    | none => rw [hiz] at hzr; cases hzr
    | some u => rw [hiz] at hzr; cases hzr; rfl
  obtain ⟨cap', R, c1, c2, c3⟩ := append_grow (P := P) (w := w) (ty := ty) (und_ok hE hs) (und_ok hE hx) hni hi hzi hlen hneed hroom hO hN
  have rON := rO.append rN
  obtain ⟨n1, n2⟩ := new_cells (R := R) rON
  obtain ⟨rfl, hH2⟩ := hH1.drew.alloc_cells ha (O ++ N ++ R).toArray e n1 n2
  refine ⟨_, _, _, c3, Sub.le_add hH1.fresh, hH2, ?_⟩
  have hOl := rO.length
  have hNl := rN.length
  simp only [VRel]
  refine ⟨_, 0, cap', Sub.add_same _ _ _, rfl, Nat.le_refl _, c1, .inr rfl, ?_, Nat.le_refl _⟩
  simp only [List.size_toArray, List.length_append, hOl, hNl, lO, lN, c2, hzs, Nat.zero_add]
  have : sLen * i.size + n * i.size + (cap' - (sLen + n)) * i.size = cap' * i.size := by
    rw [← Nat.add_mul, ← Nat.add_mul]; congr 1; omega
  omega

 include hE hH in
theorem appendE_ok {sT xT ty : TypeId} {s x v : V} {h' : Hp} {s' x' : Value} (hq : appendE E sT xT s x h = some (v, h')) (hs : VRel σ s s') (hx : VRel σ x x') :
    ∃ v' w' τ, (Builtin.append_ #[sT, xT] ty #[s', x']).run P w = .ok v' w' ∧ σ.le τ ∧ HRel G w0 B τ h' w' ∧ VRel τ v v' := by
  unfold appendE at hq
  split at hq
  case h_2 => cases hq
  rename_i e hu
  split at hq
  case h_2 => cases hq
  rename_i size bytes n hsz hby hit hln
  obtain ⟨dx, hux, hni⟩ : ∃ dx, E.und xT = some dx ∧ ∀ k, dx ≠ .int k := by
    unfold isIntType at hit
    split at hit
    · cases hit
    · rename_i d hd hud; exact ⟨d, hud, fun k e => hd k e⟩
    · cases hit
  have hlen := lenV_ok (P := P) (w := w) hln hx
  have hle : ∀ m, lenV x = some m → n ≤ m := fun m hm => by rw [hln] at hm; cases hm; exact Nat.le_refl _
  split at hq
  · cases hq
  · rename_i new hfv
    have newlen : new.length = n * size := by
      unfold firstV at hfv
      split at hfv
      · exact cellsAt_len hfv
      · exact cellsAt_len hfv
      · cases hfv; simp only [lenV, Option.some.injEq] at hln; subst hln; simp
      · split at hfv
        · cases hfv; simp only [lenV, Option.some.injEq] at hln; subst hln; simp
        · cases hfv
      · split at hfv
        · cases hfv; simp only [lenV, Option.some.injEq] at hln; subst hln; simp
        · cases hfv
      · cases hfv
    obtain ⟨N, hN, rN⟩ := firstV_ok (P := P) hH hfv hle hx
    obtain ⟨N', hN', rN'⟩ := firstV_ok (P := P) hH.drew hfv hle hx
    obtain ⟨i, hi, hisz⟩ := size_ok hE hsz
    split at hq
    · -- nil
      simp only [VRel] at hs; subst hs
      split at hq
      · rename_i hb
        have hb := Nat.eq_of_beq_eq_true hb; subst hb
        cases hq
        refine ⟨_, w, σ, append_none (und_ok hE hu) (und_ok hE hux) hni hi hlen (by rw [hisz]; exact hN), Sub.le_refl _, hH, by simp [VRel]⟩
      · rename_i hb
        have hb := Nat.ne_of_beq_eq_false hb
        split at hq
        · rename_i z hro hzc
          split at hq
          · rename_i b' h2 hal
            cases hq
            have := grow_ok (P := P) (ty := ty) hE hH (old := []) (O := []) hal hu hux hni hsz hby hzc (base := none) (sLen := 0) (sCap := 0) hlen (by omega) (by simpa using hro) (by rfl) (by simp [VRels]) hN' rN' (by simp) newlen
            simpa using this
          · cases hq
        · cases hq
    · -- a slice whose capacity is known
      rename_i b o len cap
      simp only [VRel] at hs; obtain ⟨r, hr, rfl⟩ := hs
      split at hq
      · rename_i hle2
        have hle2 := Nat.le_of_ble_eq_true hle2
        split at hq
        · rename_i h2 hst
          cases hq
          obtain ⟨s1, s2⟩ := storeAt_ok (P := P) hH hst hr rN (a := r.base + (o + len * size)) (.inr rfl)
          refine ⟨_, _, σ, append_room (und_ok hE hu) (und_ok hE hux) hni hi hlen hle2 (by rw [hisz]; exact hN) (by rw [hisz, Nat.add_assoc]; exact s1), Sub.le_refl _, s2, ?_⟩
          simp only [VRel]; exact ⟨r, hr, rfl⟩
        · cases hq
      · rename_i hle2
        have hle2 : ¬ len + n ≤ cap := fun hh => by rw [Nat.ble_eq_true_of_le hh] at hle2; cases hle2
        split at hq
        · rename_i old z hca hro hzc
          split at hq
          · rename_i b' h2 hal
            cases hq
            obtain ⟨L, hL, rL⟩ := loadCells_slice (P := P) hH.drew hr hca (.inr rfl)
            exact grow_ok (P := P) (ty := ty) hE hH hal hu hux hni hsz hby hzc hlen hle2 hro (by simp only [Builtin.firstCells]; exact hL) rL hN' rN' (cellsAt_len hca) newlen
          · cases hq
        · cases hq
    · -- a slice whose capacity is open
      rename_i b o len cap sz
      split at hq
      case h_1 => cases hq
      rename_i hsz2
      have hsz2 := Nat.eq_of_beq_eq_true hsz2; subst hsz2
      simp only [VRel] at hs; obtain ⟨r, a, cap', hr, rfl, b1, b2, b3, b4, b5⟩ := hs
      split at hq
      · rename_i hle2
        have hle2 := Nat.le_of_ble_eq_true hle2
        split at hq
        · rename_i h2 hst
          cases hq
          obtain ⟨s1, s2⟩ := storeAt_ok (P := P) hH hst hr rN (a := a + len * size) (by
            rcases b3 with b3 | b3
            · left
              have : n = 0 := by omega
              subst this; simpa using newlen
            · right; omega)
          refine ⟨_, _, σ, append_room (und_ok hE hu) (und_ok hE hux) hni hi hlen (by omega) (by rw [hisz]; exact hN) (by rw [hisz]; exact s1), Sub.le_refl _, s2, ?_⟩
          simp only [VRel]; exact ⟨r, a, cap', hr, rfl, hle2, b2, b3, b4, b5⟩
        · cases hq
      · rename_i hle2
        have hle2 : ¬ len + n ≤ cap := fun hh => by rw [Nat.ble_eq_true_of_le hh] at hle2; cases hle2
        split at hq
        · rename_i old z hca hro hac hzc
          split at hq
          · rename_i b' h2 hal
            cases hq
            have hld : len * size = 0 ∨ a = r.base + o := by
              rcases b3 with b3 | b3
              · left; have : len = 0 := by omega
                subst this; simp
              · exact .inr b3
            obtain ⟨c, ce, hg, hca⟩ : ∃ c ce, h.t.get b = some (.cells c ce) ∧ cellsAt h b o (len * size) = some old := by
              unfold ownCells at hca
              unfold cellsAt
              split at hca
              · rename_i c ce hg; exact ⟨c, ce, hg, by rw [hg]; exact hca⟩
              · cases hca
            have hK := hH.kill hg
            by_cases hroom2 : len + n ≤ cap'
            · have hor := hH.rel b _ hg rfl _ hr
              obtain ⟨hB, C, e', F, hw, hCs, hF, hcr⟩ := hor
              have hNl := rN.length
              have hfit : a + (len + n) * size ≤ r.size := Nat.le_trans (Nat.add_le_add_left (Nat.mul_le_mul_right _ hroom2) _) b4
              have hdist : (len + n) * size = len * size + n * size := Nat.add_mul _ _ _
              have hol := cellsAt_len hca
              have hcell : ∀ j, j < N.length → (w.cell? ⟨r.block, a + len * size + j, none⟩).isSome = true := by
                intro j hj
                have hlt : a + len * size + j < C.size := by omega
                simp [World.cell?, hw, hlt]
              have hfro : ∀ j, j < N.length → w.frozen? ⟨r.block, a + len * size + j, none⟩ = false := by
                intro j hj
                have := hF (a + len * size + j) (by omega)
                simp only [World.frozen?, hw]
                obtain ⟨lo, hi⟩ := F
                simp only at this ⊢
                simpa using this
              have hst : (storeCells ⟨r.block, a + len * size, none⟩ N).run P w = .ok () (w.setCells r.block (a + len * size) N) := by
                have := run_storeCells_cells (P := P) r.block (a + len * size) N 0 w (by simpa using hcell) (by simpa using hfro) (allCells_ok _ _ hac rN)
                simpa using this
              obtain ⟨C', c1, c2, c3⟩ := heap_setCells r.block N (a + len * size) w C e' F hw (by omega)
              have hfree : ∀ i x q, (h.put b .dead).t.get i = some x → x.isDead = false → σ i = some q → q.block ≠ r.block := by
                intro i x q hx hxd hq e0
                have hbn := hH.obj _ _ hg
                rw [get_put (by have := hH.nb; omega)] at hx
                split at hx
                · cases hx; cases hxd
                · rename_i hne
                  exact hne (hH.inj i b x _ q r hx hg hxd rfl hq hr e0)
              have hT := hK.touch hB hfree (Below.setCells hB N (a + len * size) w w (Below.refl _ _)) (by rw [setCells_size]; exact Nat.le_refl _) (fun j hj => setCells_other _ _ _ _ _ hj) ⟨_, hw, rfl⟩
              have hf := hK.fresh
              obtain ⟨rfl, hA⟩ := hT.add hal (r := ⟨r.block, a, r.size⟩) ⟨hB, C', e', F, c1, by rw [c2, hCs], hF, by simp only [List.length_append]; omega, fun k v hk => by
                have hle := Sub.le_add (r := ⟨r.block, a, r.size⟩) hf
                by_cases hk2 : k < old.length
                · rw [List.getElem?_append_left hk2] at hk
                  have ha : a = r.base + o := hld.resolve_left (by omega)
                  obtain ⟨_, r2, hr2, h3⟩ := cellsAt_ok hH hca hr
                  rw [hr] at hr2; cases hr2
                  obtain ⟨v', d1, d2⟩ := h3 k v hk
                  refine ⟨v', ?_, VRel.mono hle _ _ d2⟩
                  rw [c3, if_neg (by simp only; omega)]
                  simp only [World.cell?, hw] at d1
                  rw [ha]; simpa using d1
                · rw [List.getElem?_append_right (by omega)] at hk
                  obtain ⟨v', d1, d2⟩ := ((VRels.iff _ _).1 rN).2 _ _ hk
                  have hkl := (List.getElem?_eq_some_iff.1 hk).1
                  refine ⟨v', ?_, VRel.mono hle _ _ d2⟩
                  rw [c3, if_pos (by simp only; omega), ← d1]
                  congr 1
                  simp only; omega⟩ hfree
              refine ⟨_, _, _, append_room (und_ok hE hu) (und_ok hE hux) hni hi hlen hroom2 (by rw [hisz]; exact hN) (by rw [hisz]; exact hst), Sub.le_add hf, hA, ?_⟩
              simp only [VRel]
              exact ⟨_, a, cap', Sub.add_same _ _ _, rfl, Nat.le_refl _, hroom2, .inr rfl, b4, Nat.le_refl _⟩
            · obtain ⟨L, hL, rL⟩ := loadCells_slice (P := P) hH.drew hr hca hld
              exact grow_ok (P := P) (ty := ty) hE hK hal hu hux hni hsz hby hzc hlen hroom2 hro (by simp only [Builtin.firstCells]; exact hL) rL hN' rN' (cellsAt_len hca) newlen
          · cases hq
        · cases hq
    · cases hq
end
end Go.Bx
