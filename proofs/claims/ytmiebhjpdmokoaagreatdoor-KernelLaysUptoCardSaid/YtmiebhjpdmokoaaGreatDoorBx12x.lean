/- Acting operations on what is of a length that is not known. -/
import Derived.Test.YtmiebhjpdmokoaaGreatDoorBx12
set_option linter.all false
namespace Go.Bx
open Go.RowKit
variable [Valn]

theorem isBytes_range : ∀ (e : SX), isBytes e = true → ∀ n ∈ e.den.list, 0 ≤ n ∧ n < 256 := by
  have wr : ∀ n : Int, 0 ≤ wrapK .u8 n ∧ wrapK .u8 n < 256 := by
    intro n
    rw [wrapK_eq]
    simp only [IntKind.wrap, IntKind.bits, IntKind.signed]
    simp
    omega
  intro e
  induction e with
  | txt s => intro _ n hn; simp only [SX.den, D.list, List.mem_map] at hn; obtain ⟨b, _, rfl⟩ := hn; have := b.toNat_lt; simp; omega
  | lvar k i =>
    intro h n hn
    have := kindBeq_eq h; subst this
    simp only [SX.den, D.list, List.mem_map] at hn; obtain ⟨b, _, rfl⟩ := hn; exact wr b
  | ofk k a =>
    intro h n hn
    have := kindBeq_eq h; subst this
    change n ∈ a.den.list.map (wrapK .u8) at hn
    rw [List.mem_map] at hn; obtain ⟨b, _, rfl⟩ := hn; exact wr b
  | one k a =>
    intro h n hn
    have := kindBeq_eq h; subst this
    change n ∈ [wrapK .u8 a.den.int] at hn
    rw [List.mem_singleton] at hn; subst hn; exact wr _
  | rep a =>
    intro _ n hn
    change n ∈ List.replicate a.den.int.toNat 0 at hn
    have := (List.mem_replicate.1 hn).2; subst this; decide
  | cat a b iha ihb =>
    intro h n hn
    simp only [isBytes] at h
    split at h
    · rename_i ha
      change n ∈ a.den.list ++ b.den.list at hn
      rw [List.mem_append] at hn
      exact hn.elim (iha ha n) (ihb h n)
    · cases h
  | win a lo m iha _ _ =>
    intro h n hn
    change n ∈ (a.den.list.drop lo.den.int.toNat).take m.den.int.toNat at hn
    exact iha h n (List.mem_of_mem_drop (List.mem_of_mem_take hn))
  | over a lo b iha _ ihb =>
    intro h n hn
    simp only [isBytes] at h
    split at h
    · rename_i ha
      change n ∈ a.den.list.take lo.den.int.toNat ++ b.den.list ++ a.den.list.drop (lo.den.int.toNat + b.den.list.length) at hn
      rw [List.mem_append, List.mem_append] at hn
      rcases hn with (hn | hn) | hn
      · exact iha ha n (List.mem_of_mem_take hn)
      · exact ihb h n hn
      · exact iha ha n (List.mem_of_mem_drop hn)
    · cases h
  | _ => intro h; simp [isBytes] at h

theorem isBytes_ok {e : SX} (h : isBytes e = true) : (asBytes e.den.list).map (fun b => (Value.int .u8 (b.toNat : Int))) = e.den.list.map (Value.int .u8) := by
  have := isBytes_range e h
  generalize e.den.list = l at this
  induction l with
  | nil => rfl
  | cons n l ih =>
    have h1 := this n (by simp)
    simp only [asBytes, List.map_cons] at ih ⊢
    rw [ih (fun m hm => this m (by simp [hm]))]
    congr 2
    have : n.toNat % 256 = n.toNat := by omega
    simp [this]; omega

section
variable {P : Program} {E : Env} (hE : EnvOk P E) {σ : Sub} {G : Nat} {w0 : Base} {B : Nat} {h : Hp} {w : World} (hH : HRel G w0 B σ h w)
 include hE hH

theorem makeSliceX_ok {t e : TypeId} {a : SX} (hu : E.und t = some (.slice e)) (hs : E.size e = some 1) (hb : E.bytes e = some 1) (hz : E.zero e = some (.int .u8 0)) (h0 : leT E (.num 0) a = true) (h1 : leT E a (.num 1000000000) = true)
    {b : Nat} {h' : Hp} (ha : h.alloc (.arr (lookX (.rep a) E.rw)) = some (b, h')) :
    ∃ v' w' τ, (Instr.makeSlice t (.int .i64 a.den.int) (.int .i64 a.den.int)).run P w = .ok v' w' ∧ σ.le τ ∧ HRel G w0 B τ h' w' ∧ VRel τ (.xsl b 0 a) v' := by
  have h0 : (0 : Int) ≤ a.den.int := leT_ok hE h0
  have h1 : a.den.int ≤ (1000000000 : Int) := leT_ok hE h1
  obtain ⟨L, hL⟩ : ∃ L : Nat, a.den.int = Int.ofNat L := ⟨a.den.int.toNat, by simp only [Int.ofNat_eq_natCast]; omega⟩
  rw [hL] at h0 h1 ⊢
  have hL9 : L ≤ 1000000000 := by simp only [Int.ofNat_eq_natCast] at h1; omega
  obtain ⟨i, hi, hib⟩ := bytes_ok hE hb
  have wl : IntKind.i64.wrap (Int.ofNat L) = L := by simp [IntKind.wrap, IntKind.bits, IntKind.signed]; omega
  let zero : Array Value := if L * 1 = 0 then #[] else (Value.int .u8 0).cells
  let C : Array Value := (Array.range (L * 1)).map fun i => zero[i % zero.size]!
  have hC : C.toList = List.replicate L (Value.int .u8 0) := by
    by_cases hl : L = 0
    · subst hl; simp [C]
    · have hz : zero = #[.int .u8 0] := by simp [zero, hl, Value.cells]
      refine List.eq_replicate_iff.2 ⟨by simp [C], fun x hx => ?_⟩
      simp only [C, hz] at hx
      simp [Nat.mod_one] at hx
      exact hx.2.symm
  have hCs : C.size = L := by simp [C]
  obtain ⟨rfl, hA⟩ := hH.alloc ha (.cells C e) (r := ⟨w.heap.size, 0, L⟩) rfl ⟨hH.Bsize, rfl, C, e, (0, 0), heap_alloc_new _ _, hCs, fun k _ => by simp, by
    rw [look_ok hE, hC]
    show _ = (List.replicate a.den.int.toNat 0).map (Value.int .u8)
    rw [hL]; simp⟩
  refine ⟨.slice (some ⟨w.heap.size, 0, none⟩) L L, _, _, ?_, Sub.le_add hH.fresh, hA, ?_⟩
  · have hbig : ¬ ((L : Int) < 0 ∨ (i.bytes : Int) * L > 2 ^ 48) := by
      have e48 : (2 : Int) ^ 48 = 281474976710656 := by decide
      rw [hib]
      omega
    unfold Instr.makeSlice
    simp only [Sem.run_bind, run_und hE hu, Result.andThen_ok, asInt, asIntOf, Sem.run_pure, typeInfo, run_program, hi, wl]
    rw [if_neg (by simp at hbig ⊢; omega)]
    simp only [Sem.run_bind, run_askRoom, Result.andThen_ok, run_size hE hs]
    simp only [Int.toNat_natCast]
    have r1 : (newRow e C).run P w = .ok ⟨w.heap.size, 0, none⟩ (w.alloc (.cells C e)) := by simp [newRow]
    by_cases hl : L * 1 = 0
    · have hz0 : zero = #[] := if_pos hl
      rw [if_pos hl]
      simp only [C, hz0] at r1 ⊢
      simp only [Sem.run_bind, Sem.run_pure, Result.andThen_ok, r1]
    · have hz0 : zero = (Value.int .u8 0).cells := if_neg hl
      rw [if_neg hl]
      simp only [C, hz0] at r1 ⊢
      simp only [Sem.run_bind, run_zero hE hz, Sem.run_pure, Result.andThen_ok, r1]
  · simp only [VRel]
    exact ⟨_, 0, L, Sub.add_same _ _ _, hL, hL9, rfl, .inr rfl, by simp, by simp⟩

theorem makeBuf_ok {t e : TypeId} {a : SX} {k : IntKind} {by_ : Nat} (hu : E.und t = some (.slice e)) (hs : E.size e = some 1) (hb : E.bytes e = some by_) (hz : E.zero e = some (.int k 0)) (hby : by_ ≤ 1000) (h0 : leT E (.num 0) a = true) (h1 : leT E a (.num 1000000000) = true)
    {b : Nat} {h' : Hp} (ha : h.alloc (.buf true k (.txt []) (.num 0) 1) = some (b, h')) :
    ∃ v' w' τ, (Instr.makeSlice t (.int .i64 0) (.int .i64 a.den.int)).run P w = .ok v' w' ∧ σ.le τ ∧ HRel G w0 B τ h' w' ∧ VRel τ (.osl b (.num 0) 1) v' := by
  have h0 : (0 : Int) ≤ a.den.int := leT_ok hE h0
  have h1 : a.den.int ≤ (1000000000 : Int) := leT_ok hE h1
  obtain ⟨L, hL⟩ : ∃ L : Nat, a.den.int = Int.ofNat L := ⟨a.den.int.toNat, by simp only [Int.ofNat_eq_natCast]; omega⟩
  rw [hL] at h0 h1 ⊢
  have hL9 : L ≤ 1000000000 := by simp only [Int.ofNat_eq_natCast] at h1; omega
  obtain ⟨i, hi, hib⟩ := bytes_ok hE hb
  have wl : IntKind.i64.wrap (Int.ofNat L) = L := by simp [IntKind.wrap, IntKind.bits, IntKind.signed]; omega
  have wz : IntKind.i64.wrap 0 = 0 := by decide
  let zero : Array Value := if L * 1 = 0 then #[] else (Value.int k 0).cells
  let C : Array Value := (Array.range (L * 1)).map fun i => zero[i % zero.size]!
  have hCs : C.size = L := by simp [C]
  obtain ⟨rfl, hA⟩ := hH.alloc ha (.cells C e) (r := ⟨w.heap.size, 0, L⟩) rfl ⟨fun _ => hH.Bsize, C, e, (0, 0), 0, heap_alloc_new _ _, fun _ => ⟨hCs, fun k _ => by simp⟩, by simp [hCs], rfl, rfl, by simp, fun j v hj => by simp [SX.den, D.list] at hj⟩
  refine ⟨.slice (some ⟨w.heap.size, 0, none⟩) 0 L, _, _, ?_, Sub.le_add hH.fresh, hA, ?_⟩
  · have hbig : ¬ ((L : Int) < 0 ∨ (i.bytes : Int) * L > 2 ^ 48) := by
      have e48 : (2 : Int) ^ 48 = 281474976710656 := by decide
      rw [hib]
      have h3 : by_ * L ≤ 1000 * 1000000000 := Nat.mul_le_mul hby hL9
      have h4 : ((by_ * L : Nat) : Int) ≤ 1000000000000 := by omega
      rw [Int.natCast_mul] at h4
      omega
    unfold Instr.makeSlice
    simp only [Sem.run_bind, run_und hE hu, Result.andThen_ok, asInt, asIntOf, Sem.run_pure, typeInfo, run_program, hi, wl, wz]
    rw [if_neg (by simp at hbig ⊢; omega)]
    simp only [Sem.run_bind, run_askRoom, Result.andThen_ok, run_size hE hs]
    simp only [Int.toNat_natCast]
    have r1 : (newRow e C).run P w = .ok ⟨w.heap.size, 0, none⟩ (w.alloc (.cells C e)) := by simp [newRow]
    by_cases hl : L * 1 = 0
    · have hz0 : zero = #[] := if_pos hl
      rw [if_pos hl]
      simp only [C, hz0] at r1 ⊢
      simp only [Sem.run_bind, Sem.run_pure, Result.andThen_ok, r1]
      rfl
    · have hz0 : zero = (Value.int k 0).cells := if_neg hl
      rw [if_neg hl]
      simp only [C, hz0] at r1 ⊢
      simp only [Sem.run_bind, run_zero hE hz, Sem.run_pure, Result.andThen_ok, r1]
      rfl
  · simp only [VRel]
    exact ⟨_, 0, 0, L, Sub.add_same _ _ _, rfl, by omega, rfl, by omega, .inl rfl, by simp, by simp⟩

 omit hE hH in
theorem leT_nat {E : Env} (hE : EnvOk P E) {n : SX} {m : Nat} (h : leT E n (.num 1000000000) = true) (hn : n.den.int = Int.ofNat m) : m ≤ 1000000000 := by
  have := leT_ok hE h
  rw [hn] at this
  have h2 : Int.ofNat m ≤ 1000000000 := this
  simp only [Int.ofNat_eq_natCast] at h2
  omega

/-- What is appended. -/
theorem listX_ok {sz : Nat} {x : V} {k : IntKind} {m lm : SX} {x' : Value} (hq : listX E h sz x = some (k, m, lm)) (hx : VRel σ x x') (hlm : leT E lm (.num 1000000000) = true) :
    ∃ M : Nat, lm.den.int = Int.ofNat M ∧ M ≤ 1000000000 ∧ m.den.list.length = M * sz ∧ (Builtin.lenOf x').run P w = .ok M w ∧ (Builtin.firstCells sz M x').run P w = .ok (m.den.list.map (Value.int k)).toArray w := by
  have row : ∀ (b : Nat) (n : SX) (own : Bool) (c : SX) (L : Nat) (a : Addr) (cap : Nat), h.t.get b = some (.buf own k c n sz) → n.den.int = Int.ofNat L → x' = .slice (some a) L cap → (∃ r, σ b = some r ∧ (L = 0 ∨ a = ⟨r.block, r.base, none⟩)) → L ≤ 1000000000 →
      c.den.list.length = L * sz ∧ (Builtin.lenOf x').run P w = .ok L w ∧ (Builtin.firstCells sz L x').run P w = .ok (c.den.list.map (Value.int k)).toArray w := by
    rintro b n own c L a cap hg hn rfl ⟨r, hr, ha⟩ hL
    obtain ⟨_, C, e', F, N, h1, h2, h3, h4, h5, h6, h7⟩ := hH.rel b _ hg rfl r hr
    have hNL : N = L := by rw [hn] at h4; exact (Int.ofNat.inj h4).symm
    subst hNL
    refine ⟨h5, rfl, ?_⟩
    simp only [Builtin.firstCells]
    have := run_loadCells_list (P := P) w a (c.den.list.map (Value.int k)) (fun j v hj => ?_)
    · simpa [h5] using this
    · have hjl : j < N * sz := by
        have := (List.getElem?_eq_some_iff.1 hj).1
        simpa [h5] using this
      have ha : a = ⟨r.block, r.base, none⟩ := ha.resolve_left (by intro h0; rw [h0] at hjl; simp at hjl)
      rw [ha, Addr.add_lit]
      simp only [World.cell?, h1]
      have hlt : j < c.den.list.length := by omega
      rw [List.getElem?_map, List.getElem?_eq_getElem hlt] at hj
      simp only [Option.map_some, Option.some.injEq] at hj
      subst hj
      exact h7 j _ (List.getElem?_eq_getElem hlt)
  unfold listX at hq
  split at hq
  · rename_i e0
    split at hq
    · rename_i q1 q2
      cases hq
      have q1 := Nat.eq_of_beq_eq_true q1
      subst q1
      simp only [VRel, tv] at hx
      subst hx
      have hl : (lookX (.len m) E.rw).den.int = Int.ofNat m.den.list.length := by rw [look_ok hE]; rfl
      refine ⟨m.den.list.length, hl, leT_nat hE hlm hl, by simp, by simp [Builtin.lenOf, ByteArray.size, asBytes], ?_⟩
      simp only [Builtin.firstCells, Sem.run_pure, Result.ok.injEq, and_true]
      apply Array.ext'
      have h2 := isBytes_ok q2
      have h3 : (ByteArray.extract ⟨⟨asBytes m.den.list⟩⟩ 0 m.den.list.length).data.toList = asBytes m.den.list := by
        have : (asBytes m.den.list).length = m.den.list.length := by simp [asBytes]
        simp [ByteArray.data_extract, ← this]
      rw [Array.toList_map, h3]
      simpa using h2
    · cases hq
  · rename_i b n z
    split at hq
    · rename_i own k' c m' z' hg
      split at hq
      · rename_i q1 q2 q3
        cases hq
        have q1 := Nat.eq_of_beq_eq_true q1
        have q2 := Nat.eq_of_beq_eq_true q2
        have q3 := SX.beq_eq _ _ q3
        subst q1; subst q2; subst q3
        simp only [VRel] at hx
        obtain ⟨r, a, L, cap, hr, hn, hL, hx', _, ha, _⟩ := hx
        obtain ⟨e1, e2, e3⟩ := row b _ own _ L ⟨r.block, a, none⟩ cap hg hn hx' ⟨r, hr, ha.imp id (fun h => by rw [h])⟩ hL
        exact ⟨L, hn, hL, e1, e2, e3⟩
      · cases hq
    · cases hq
  · rename_i b n z
    split at hq
    · rename_i own k' c m' z' hg hpos
      split at hq
      · rename_i q1 q2 q3
        cases hq
        have q1 := Nat.eq_of_beq_eq_true q1
        have q2 := Nat.eq_of_beq_eq_true q2
        have q3 := SX.beq_eq _ _ q3
        subst q1; subst q2; subst q3
        simp only [VRel] at hx
        obtain ⟨L, hn, hx⟩ := hx
        have hpos := ltT_ok hE hpos
        rw [hn] at hpos
        have hpos : (0 : Int) < Int.ofNat L := hpos
        have hL := leT_nat hE hlm hn
        rcases hx with ⟨_, _, _, h0⟩ | ⟨r, cap, hr, hx', _⟩
        · subst h0; exact absurd hpos (by decide)
        · obtain ⟨e1, e2, e3⟩ := row b _ own _ L ⟨r.block, r.base, none⟩ cap hg hn hx' ⟨r, hr, .inr rfl⟩ hL
          exact ⟨L, hn, hL, e1, e2, e3⟩
      · cases hq
    · cases hq
  · split at hq
    · cases hq
    · rename_i mm hln
      split at hq
      · rename_i v l hfv
        split at hq
        · rename_i k' e hk
          split at hq
          · rename_i c hc
            cases hq
            have hlen := lenV_ok (P := P) (w := w) hln hx
            obtain ⟨Lc, e1, e2⟩ := firstV_ok (P := P) hH hfv (fun q hq => by rw [hln] at hq; cases hq; exact Nat.le_refl _) hx
            have e3 := cellsX_ok _ _ _ hc e2
            have hlm2 : (SX.num (Int.ofNat mm)).den.int = Int.ofNat mm := rfl
            have nl : (v :: l).length = mm * sz := by
              unfold firstV at hfv
              split at hfv
              · exact cellsAt_len hfv
              · exact cellsAt_len hfv
              · cases hfv
              · split at hfv
                · simp only [Option.some.injEq] at hfv
                  simp only [lenV, Option.some.injEq] at hln
                  rw [← hfv, ← hln]; simp
                · cases hfv
              · split at hfv
                · simp only [Option.some.injEq] at hfv
                  simp only [lenV, Option.some.injEq] at hln
                  rw [← hfv, ← hln]; simp
                · cases hfv
              · cases hfv
            refine ⟨mm, hlm2, leT_nat hE hlm hlm2, ?_, hlen, by rw [← e3]; exact e1⟩
            have := e2.length
            rw [e3] at this
            simpa [nl] using this
          · cases hq
        · cases hq
      · cases hq

theorem ints_one {k : IntKind} {l : List Int} : ∀ v ∈ l.map (Value.int k), v.oneCell' = true := by
  intro v hv
  simp only [List.mem_map] at hv
  obtain ⟨m, _, rfl⟩ := hv
  rfl

theorem growX_ok {h1 : Hp} (hH1 : HRel G w0 B σ h1 w) {k : IntKind} {old new : List Int} {c n : SX} {e : TypeId} {size by_ sLen sCap M : Nat} {b' : Nat} {h' : Hp} (ha : h1.alloc (.buf true k c n size) = some (b', h')) {sT xT ty : TypeId} (hs : E.und sT = some (.slice e)) {dx : TypeDesc} (hx : E.und xT = some dx) (hni : ∀ k, dx ≠ .int k)
    (hsz : E.size e = some size) (hby : E.bytes e = some by_) {z : List V} (hz : zcellsN E e size = some z) (hb1 : by_ ≤ 1000) (hn : n.den.int = Int.ofNat (sLen + M)) (hN9 : sLen + M ≤ 1000000000) (hc : c.den.list = old ++ new) (lo : old.length = sLen * size) (ln : new.length = M * size)
    {base : Option Addr} {x' : Value} (hlen : (Builtin.lenOf x').run P w = .ok M w) (hneed : ¬ sLen + M ≤ sCap)
    (hO : (Builtin.firstCells size sLen (.slice base sLen sCap)).run P w.drew = .ok (old.map (Value.int k)).toArray w.drew) (hN : (Builtin.firstCells size M x').run P w.drew = .ok (new.map (Value.int k)).toArray w.drew) :
    ∃ v' w' τ, (Builtin.append_ #[sT, xT] ty #[.slice base sLen sCap, x']).run P w = .ok v' w' ∧ σ.le τ ∧ HRel G w0 B τ h' w' ∧ VRel τ (.osl b' n size) v' := by
  obtain ⟨i, hi, rfl⟩ := size_ok hE hsz
  obtain ⟨i2, hi2, rfl⟩ := bytes_ok hE hby
  rw [hi] at hi2; cases hi2
  obtain ⟨hzl, zv, hzr, _, hzs⟩ := zcellsN_ok (P := P) (σ := σ) (w := w) hE hz
  have hzi : i.zero = some zv := by
    have : (zeroValue e).run P w = match i.zero with | some v => .ok v w | none => .halt (.unsupported (.resourceLimit "a value of more than 2^22 cells")) w := by
      simp only [zeroValue, typeInfo, Sem.run_bind, run_program, Result.andThen_ok, hi, Sem.run_pure]
      cases i.zero <;> rfl
    rw [this] at hzr
    cases hiz : i.zero with
    | none => rw [hiz] at hzr; cases hzr
    | some u => rw [hiz] at hzr; cases hzr; rfl
  have hroom : roomOk i.bytes (sLen + M) = true := by
    have h1 : (4 * (sLen + M) + 8192) * i.bytes ≤ (4 * 1000000000 + 8192) * 1000 := Nat.mul_le_mul (by omega) hb1
    unfold roomOk
    rw [Nat.ble_eq_true_of_le (by omega)]
    exact Nat.ble_eq_true_of_le (by omega)
  obtain ⟨cap', R, c1, c2, c3⟩ := append_grow (P := P) (w := w) (ty := ty) (und_ok hE hs) (und_ok hE hx) hni hi hzi hlen hneed hroom hO hN
  let C : Array Value := (old.map (Value.int k) ++ new.map (Value.int k) ++ R).toArray
  have hCs : C.size = cap' * i.size := by
    simp only [C, List.size_toArray, List.length_append, List.length_map, lo, ln, c2, hzs]
    have : sLen * i.size + M * i.size + (cap' - (sLen + M)) * i.size = cap' * i.size := by
      rw [← Nat.add_mul, ← Nat.add_mul]; congr 1; omega
    omega
  have hmul : (sLen + M) * i.size = sLen * i.size + M * i.size := Nat.add_mul _ _ _
  have hle : (sLen + M) * i.size ≤ cap' * i.size := Nat.mul_le_mul_right _ c1
  obtain ⟨rfl, hA⟩ := hH1.drew.alloc ha (.cells C e) (r := ⟨w.heap.size, 0, C.size⟩) rfl ⟨fun _ => hH1.Bsize, C, e, (0, 0), sLen + M, heap_alloc_new _ _, fun _ => ⟨rfl, fun k _ => by simp⟩, Nat.le_refl _, hn, by rw [hc, List.length_append, lo, ln, hmul], by simp only [hCs]; omega, fun j v hj => by
    rw [hc] at hj
    have hjl : j < (old ++ new).length := (List.getElem?_eq_some_iff.1 hj).1
    show C[0 + j]? = _
    rw [Nat.zero_add]
    have : C[j]? = ((old ++ new).map (Value.int k) ++ R)[j]? := by simp [C]
    rw [this, List.getElem?_append_left (by simpa using hjl), List.getElem?_map, hj]
    rfl⟩
  refine ⟨_, _, _, c3, Sub.le_add hH1.fresh, hA, ?_⟩
  simp only [VRel]
  exact ⟨_, 0, sLen + M, cap', Sub.add_same _ _ _, hn, hN9, rfl, c1, .inr rfl, by simp only [hCs]; omega, Nat.le_refl _⟩

theorem appendX_ok {sT xT ty : TypeId} {s x v : V} {h' : Hp} {s' x' : Value} (hq : appendX E sT xT s x h = some (v, h')) (hs : VRel σ s s') (hx : VRel σ x x') :
    ∃ v' w' τ, (Builtin.append_ #[sT, xT] ty #[s', x']).run P w = .ok v' w' ∧ σ.le τ ∧ HRel G w0 B τ h' w' ∧ VRel τ v v' := by
  unfold appendX at hq
  split at hq
  case h_2 => cases hq
  rename_i e hu
  split at hq
  case h_2 => cases hq
  rename_i sz by_ hsz hby hit
  obtain ⟨dx, hux, hni⟩ : ∃ dx, E.und xT = some dx ∧ ∀ k, dx ≠ .int k := by
    unfold isIntType at hit
    split at hit
    · cases hit
    · rename_i d hd hud; exact ⟨d, hud, fun k e => hd k e⟩
    · cases hit
  obtain ⟨i, hi, hisz⟩ := size_ok hE hsz
  have empty : emptyX x = true → (Builtin.lenOf x').run P w = .ok 0 w ∧ (Builtin.firstCells i.size 0 x').run P w = .ok #[] w := by
    intro he
    unfold emptyX at he
    split at he
    · rename_i b n z
      simp only [VRel] at hx
      obtain ⟨L, hL, hx⟩ := hx
      rw [intBeq_eq, beq_iff_eq] at he
      subst he
      have h0 : L = 0 := (Int.ofNat.inj (show Int.ofNat 0 = Int.ofNat L from hL)).symm
      subst h0
      rcases hx with ⟨p, c, rfl, _⟩ | ⟨r, c, _, rfl, _⟩
      · refine ⟨rfl, ?_⟩
        cases p with
        | none => rfl
        | some a =>
          have := run_loadCells_list (P := P) w a [] (by simp)
          simpa [Builtin.firstCells] using this
      · have := run_loadCells_list (P := P) w ⟨r.block, r.base, none⟩ [] (by simp)
        exact ⟨rfl, by simpa [Builtin.firstCells] using this⟩
    · cases he
  split at hq
  · rename_i he
    cases hq
    obtain ⟨e1, e2⟩ := empty he
    simp only [VRel] at hs; subst hs
    exact ⟨_, w, σ, append_none (N := []) (und_ok hE hu) (und_ok hE hux) hni hi e1 e2, Sub.le_refl _, hH, by simp [VRel]⟩
  · rename_i b n z he
    cases hq
    obtain ⟨e1, e2⟩ := empty he
    have hs0 := hs
    simp only [VRel] at hs
    obtain ⟨r, a, L, cap, hr, hn, hL, rfl, hl, _⟩ := hs
    have hst : (storeCells ⟨r.block, a + L * i.size, none⟩ []).run P w = .ok () w := rfl
    exact ⟨_, w, σ, append_room (N := []) (n := 0) (und_ok hE hu) (und_ok hE hux) hni hi e1 (by omega) e2 hst, Sub.le_refl _, hH, by simpa using hs0⟩
  · cases hq
  · split at hq
    case h_2 => cases hq
    rename_i k m lm z hlx hzc hb1
    have hb1 := Nat.le_of_ble_eq_true hb1
    split at hq
    · cases hq
    · rename_i hlm
      obtain ⟨M, hM, hM9, hml, hlen, hfirst⟩ := listX_ok (P := P) hE hH hlx hx hlm
      obtain ⟨_, _, _, _, _, hfirst'⟩ := listX_ok (P := P) hE hH.drew hlx hx hlm
      rename_i M' hM' _ _ _
      have hMM : M' = M := by rw [hM] at hM'; exact (Int.ofNat.inj hM').symm
      subst hMM
      split at hq
      · -- nil
        simp only [VRel] at hs; subst hs
        split at hq
        · rename_i b' h2 hpos hal
          cases hq
          have hpos := ltT_ok hE hpos
          rw [hM] at hpos
          have hpos : (0 : Int) < Int.ofNat M' := hpos
          have hp : 0 < M' := by simp only [Int.ofNat_eq_natCast] at hpos; omega
          exact growX_ok (P := P) (ty := ty) hE hH hH (old := []) (new := m.den.list) (sLen := 0) (sCap := 0) (base := none) hal hu hux hni hsz hby hzc hb1 (by rw [Nat.zero_add]; exact hM) (by omega) rfl (by simp) hml hlen (by omega) rfl hfirst'
        · cases hq
      · rename_i b n z0
        split at hq
        case h_2 => cases hq
        rename_i k0 c0 n0 z1 hg
        split at hq
        case h_2 => cases hq
        rename_i q1 q2 q3 q4 q5
        have q1 := kindBeq_eq q1
        have q2 := Nat.eq_of_beq_eq_true q2
        have q3 := Nat.eq_of_beq_eq_true q3
        have q4 := SX.beq_eq _ _ q4
        subst q1; subst q2; subst q3; subst q4
        simp only [VRel] at hs
        obtain ⟨r, a, L, cap, hr, hn, hL, rfl, hl, b3, b4, b5⟩ := hs
        have hnn : (addX E n lm).den.int = Int.ofNat (L + M') := by
          unfold addX
          split
          · have h0 : L = 0 := (Int.ofNat.inj (show Int.ofNat 0 = Int.ofNat L from hn)).symm
            rw [h0, Nat.zero_add]; exact hM
          · rw [look_ok hE]
            show wrapK .i64 (n.den.int + lm.den.int) = _
            rw [hn, hM, wrapK_eq]
            simp only [IntKind.wrap, IntKind.bits, IntKind.signed, Int.ofNat_eq_natCast]
            simp
            omega
        have hN9 := leT_nat hE q5 hnn
        have hcc := catX_ok hE c0 m
        obtain ⟨hB0, C, e', F, N, h1, h2, h3, h4, h5, h6, h7⟩ := hH.rel b _ hg rfl r hr
        have hNL : N = L := by rw [hn] at h4; exact (Int.ofNat.inj h4).symm
        subst hNL
        obtain ⟨hCs, hF⟩ := h2 rfl
        have hB := hB0 rfl
        split at hq
        · rename_i b' h2' hal
          cases hq
          have hK := hH.kill hg
          have hloadO : ∀ w', (∀ j, w'.cell? j = w.cell? j) → (Builtin.firstCells z1 N (.slice (some ⟨r.block, a, none⟩) N cap)).run P w' = .ok (c0.den.list.map (Value.int k)).toArray w' := by
            intro w' hw'
            simp only [Builtin.firstCells]
            have := run_loadCells_list (P := P) w' ⟨r.block, a, none⟩ (c0.den.list.map (Value.int k)) (fun j v hj => ?_)
            · simpa [h5] using this
            · have hjl : j < N * z1 := by
                have := (List.getElem?_eq_some_iff.1 hj).1
                simpa [h5] using this
              have ha : a = r.base := b3.resolve_left (by intro h0; rw [h0] at hjl; simp at hjl)
              rw [Addr.add_lit, hw', ha]
              simp only [World.cell?, h1]
              have hlt : j < c0.den.list.length := by omega
              rw [List.getElem?_map, List.getElem?_eq_getElem hlt] at hj
              simp only [Option.map_some, Option.some.injEq] at hj
              subst hj
              exact h7 j _ (List.getElem?_eq_getElem hlt)
          by_cases hroom2 : N + M' ≤ cap
          · let Nv : List Value := m.den.list.map (Value.int k)
            have hNl : Nv.length = M' * z1 := by simp [Nv, hml]
            have hfit : a + (N + M') * z1 ≤ r.size := Nat.le_trans (Nat.add_le_add_left (Nat.mul_le_mul_right _ hroom2) _) b4
            have hdist : (N + M') * z1 = N * z1 + M' * z1 := Nat.add_mul _ _ _
            have hcell : ∀ j, j < Nv.length → (w.cell? ⟨r.block, a + N * z1 + j, none⟩).isSome = true := by
              intro j hj
              have hlt : a + N * z1 + j < C.size := by omega
              simp [World.cell?, h1, hlt]
            have hfro : ∀ j, j < Nv.length → w.frozen? ⟨r.block, a + N * z1 + j, none⟩ = false := by
              intro j hj
              have := hF (a + N * z1 + j) (by omega)
              simp only [World.frozen?, h1]
              obtain ⟨lo, hi⟩ := F
              simp only at this ⊢
              simpa using this
            have hst : (storeCells ⟨r.block, a + N * z1, none⟩ Nv).run P w = .ok () (w.setCells r.block (a + N * z1) Nv) := by
              have := run_storeCells_cells (P := P) r.block (a + N * z1) Nv 0 w (by simpa using hcell) (by simpa using hfro) (ints_one hE hH)
              simpa using this
            obtain ⟨C', c1, c2, c3⟩ := heap_setCells r.block Nv (a + N * z1) w C e' F h1 (by omega)
            have hfree : ∀ i x q, (h.put b .dead).t.get i = some x → x.isDead = false → σ i = some q → q.block ≠ r.block := by
              intro i x q hx hxd hq e0
              have hbn := hH.obj _ _ hg
              rw [get_put (by have := hH.nb; omega)] at hx
              split at hx
              · cases hx; cases hxd
              · rename_i hne
                exact hne (hH.inj i b x _ q r hx hg hxd rfl hq hr e0)
            have hT := hK.touch hB hfree (Below.setCells hB Nv (a + N * z1) w w (Below.refl _ _)) (by rw [setCells_size]; exact Nat.le_refl _) (fun j hj => setCells_other _ _ _ _ _ hj) ⟨_, h1, rfl⟩
            have hf := hK.fresh
            obtain ⟨rfl, hA⟩ := hT.add hal (r := ⟨r.block, a, r.size⟩) ⟨fun _ => hB, C', e', F, N + M', c1, fun _ => ⟨by rw [c2, hCs], hF⟩, by rw [c2, hCs]; exact Nat.le_refl _, hnn, by rw [hcc, List.length_append, h5, hml, hdist], hfit, fun j v hj => by
              rw [hcc] at hj
              show C'[a + j]? = _
              rw [c3]
              by_cases hk2 : j < c0.den.list.length
              · rw [List.getElem?_append_left hk2] at hj
                have ha : a = r.base := b3.resolve_left (by intro h0; rw [h0] at h5; omega)
                rw [if_neg (by omega), ha]
                exact h7 j v hj
              · rw [List.getElem?_append_right (by omega)] at hj
                have hkl := (List.getElem?_eq_some_iff.1 hj).1
                rw [if_pos (by omega), show a + j - (a + N * z1) = j - c0.den.list.length by omega]
                simp only [Nv, List.getElem?_map, hj, Option.map_some]⟩ hfree
            refine ⟨_, _, _, append_room (und_ok hE hu) (und_ok hE hux) hni hi hlen hroom2 (by rw [hisz]; exact hfirst) (by rw [hisz]; exact hst), Sub.le_add hf, hA, ?_⟩
            simp only [VRel]
            exact ⟨_, a, N + M', cap, Sub.add_same _ _ _, hnn, hN9, rfl, hroom2, .inr rfl, b4, Nat.le_refl _⟩
          · exact growX_ok (P := P) (ty := ty) hE hH hK hal hu hux hni hsz hby hzc hb1 hnn hN9 hcc h5 hml hlen hroom2 (hloadO w.drew (fun _ => rfl)) hfirst'
        · cases hq
      · cases hq

theorem copyX_ok {dT sT ty e : TypeId} {b o : Nat} {n s c : SX} {d' : Value} (hu : E.und dT = some (.slice e)) (hs : E.size e = some 1) (hg : h.t.get b = some (.arr c)) (hb : isBytes s = true) (hn : SX.beq (lookX (.len s) E.rw) n = true) (hd : VRel σ (.xsl b o n) d') :
    ∃ v' w' τ, (Builtin.copy_ #[dT, sT] ty #[d', .string ⟨⟨asBytes s.den.list⟩⟩]).run P w = .ok v' w' ∧ σ.le τ ∧ HRel G w0 B τ (h.put b (.arr (lookX (.over c (.num (Int.ofNat o)) s) E.rw))) w' ∧ VRel τ (mkS (.i .i64) n) v' := by
  simp only [VRel] at hd
  obtain ⟨r, a, L, hr, hnL, hL, rfl, b3, b4, b5⟩ := hd
  have hlen : s.den.list.length = L := by
    have h1 := SX.beq_eq _ _ hn
    have h2 := look_ok hE (.len s)
    rw [h1] at h2
    have h3 : n.den.int = (s.den.list.length : Int) := by rw [h2]; rfl
    rw [hnL] at h3
    exact (Int.ofNat.inj h3).symm
  have hbl : (asBytes s.den.list).length = L := by simp [asBytes, hlen]
  let N : List Value := s.den.list.map (Value.int .u8)
  have hN : N.length = L := by simp [N, hlen]
  obtain ⟨hB, hb0, C, e', F, hw, hCs, hF, hC⟩ := hH.rel b _ hg rfl r hr
  have hmk : VRel σ (mkS (.i .i64) n) (goInt L) := by
    have := mkS_ok σ (.i .i64) n
    simp only [tv, hnL] at this
    simpa [goInt] using this
  have hlenOf : (Builtin.lenOf (.string ⟨⟨asBytes s.den.list⟩⟩)).run P w = .ok L w := by
    simp [Builtin.lenOf, ByteArray.size, hbl]
  have hfirst : (Builtin.firstCells 1 (Nat.min L L) (.string ⟨⟨asBytes s.den.list⟩⟩)).run P w = .ok N.toArray w := by
    have : Nat.min L L = L := Nat.min_self L
    rw [this]
    simp only [Builtin.firstCells, Sem.run_pure, Result.ok.injEq, and_true]
    apply Array.ext'
    have h2 := isBytes_ok hb
    have h3 : (ByteArray.extract ⟨⟨asBytes s.den.list⟩⟩ 0 L).data.toList = asBytes s.den.list := by
      simp [ByteArray.data_extract, ← hbl]
    rw [Array.toList_map, h3]
    simpa [N] using h2
  have hden : (lookX (.over c (.num (Int.ofNat o)) s) E.rw).den.list = c.den.list.take o ++ s.den.list ++ c.den.list.drop (o + s.den.list.length) := by
    rw [look_ok hE]; rfl
  have hCl : C.size = c.den.list.length := by have := congrArg List.length hC; simpa using this
  by_cases hl : L = 0
  · have hN0 : N = [] := List.eq_nil_of_length_eq_zero (by omega)
    refine ⟨goInt (Nat.min L L), w, σ, ?_, Sub.le_refl _, ?_, by rw [show Nat.min L L = L from Nat.min_self L]; exact hmk⟩
    · rw [hN0] at hfirst
      simp only [Builtin.copy_, List.getElem?_toArray, List.getElem?_cons_zero, List.getElem?_cons_succ, Sem.run_bind, run_und hE hu, Result.andThen_ok, hlenOf, run_size hE hs, hfirst, Sem.run_pure]
      rfl
    · refine hH.put (w' := w) hg rfl rfl hr (Below.refl _ _) (Nat.le_refl _) (fun _ _ _ => rfl) ⟨hB, hb0, C, e', F, hw, hCs, hF, ?_⟩
      rw [hden, hC]
      have : s.den.list = [] := List.eq_nil_of_length_eq_zero (by omega)
      rw [this]; simp
  · have ha : a = o := by rcases b3 with b3 | b3 <;> omega
    subst ha
    have hfit : a + N.length ≤ C.size := by omega
    have hcell : ∀ j, j < N.length → (w.cell? ⟨r.block, a + j, none⟩).isSome = true := by
      intro j hj
      have hlt : a + j < C.size := by omega
      simp [World.cell?, hw, hlt]
    have hfro : ∀ j, j < N.length → w.frozen? ⟨r.block, a + j, none⟩ = false := by
      intro j hj
      have := hF (a + j) (by omega)
      simp only [World.frozen?, hw]
      obtain ⟨lo, hi⟩ := F
      simp only at this ⊢
      simpa using this
    have hone : ∀ x ∈ N, x.oneCell' = true := by
      intro x hx
      simp only [N, List.mem_map] at hx
      obtain ⟨m, _, rfl⟩ := hx
      rfl
    have hst : (storeCells ⟨r.block, a, none⟩ N).run P w = .ok () (w.setCells r.block a N) := by
      have := run_storeCells_cells (P := P) r.block a N 0 w (by simpa using hcell) (by simpa using hfro) hone
      simpa using this
    obtain ⟨C', c1, c2, c3⟩ := heap_setCells r.block N a w C e' F hw hfit
    refine ⟨goInt (Nat.min L L), w.setCells r.block a N, σ, ?_, Sub.le_refl _, ?_, by rw [show Nat.min L L = L from Nat.min_self L]; exact hmk⟩
    · simp only [Builtin.copy_, List.getElem?_toArray, List.getElem?_cons_zero, List.getElem?_cons_succ, Sem.run_bind, run_und hE hu, Result.andThen_ok, hlenOf, run_size hE hs, hfirst, hst, Sem.run_pure]
    · refine hH.put hg rfl rfl hr (Below.setCells hB N a w w (Below.refl _ _)) (by rw [setCells_size]; exact Nat.le_refl _) (fun j hj _ => setCells_other _ _ _ _ _ hj) ⟨hB, hb0, C', e', F, c1, by rw [c2, hCs], hF, ?_⟩
      rw [hden]
      apply List.ext_getElem?
      intro k
      have hk : C'.toList[k]? = C'[k]? := by simp
      have hk2 : ∀ j : Nat, C[j]? = (c.den.list[j]?).map (Value.int .u8) := by
        intro j
        have : C[j]? = C.toList[j]? := by simp
        rw [this, hC, List.getElem?_map]
      rw [hk, c3, hN, hlen]
      simp only [N, List.getElem?_map, hk2]
      by_cases q1 : a ≤ k ∧ k < a + L
      · rw [if_pos q1, List.append_assoc, List.getElem?_append_right (by simp; omega), List.getElem?_append_left (by simp; omega)]
        rw [List.length_take, Nat.min_eq_left (by omega)]
      · rw [if_neg q1]
        by_cases q2 : k < a
        · rw [List.append_assoc, List.getElem?_append_left (by simp; omega), List.getElem?_take, if_pos q2]
        · rw [List.getElem?_append_right (by simp; omega), List.getElem?_drop]
          congr 2
          simp; omega

theorem rangeX_ok {t kt et : TypeId} {r c : Nat} {x' : Value} (hu : E.und t = some (.map kt et)) (hg : h.t.get r = some (.map [] c)) {b : Nat} {h' : Hp} (ha : h.alloc (.mit r) = some (b, h')) (hx : VRel σ (.map r) x') :
    ∃ v' w' τ, (Instr.range t x').run P w = .ok v' w' ∧ σ.le τ ∧ HRel G w0 B τ h' w' ∧ VRel τ (.ptr b 0) v' := by
  simp only [VRel] at hx
  obtain ⟨q, hq, rfl⟩ := hx
  obtain ⟨q', hq', hB, ES, hw, _⟩ := map_obj hH hg hq
  rw [hq] at hq'; cases hq'
  have hle : σ.le (σ.add h.n ⟨w.heap.size, 0, 0⟩) := Sub.le_add hH.fresh
  obtain ⟨rfl, hA⟩ := hH.alloc ha (.mapIter (some q.block) c #[] c) (r := ⟨w.heap.size, 0, 0⟩) rfl ⟨hH.Bsize, rfl, q, c, c, hle _ _ hq, heap_alloc_new _ _⟩
  refine ⟨.pointer (some ⟨w.heap.size, 0, none⟩), _, _, ?_, hle, hA, by simp only [VRel]; exact ⟨_, Sub.add_same _ _ _, rfl⟩⟩
  simp [Instr.range, run_und hE hu, run_getObj_map hw]

 omit hE in
theorem nextX_ok {r m c : Nat} {ty : TypeId} {x' : Value} (hg : h.t.get r = some (.mit m)) (hm : h.t.get m = some (.map [] c)) (hx : VRel σ (.ptr r 0) x') :
    ∃ v' w' τ, (Instr.next x' false ty).run P w = .ok v' w' ∧ σ.le τ ∧ HRel G w0 B τ h w' ∧ VRel τ (.tuple [.bool false]) v' := by
  simp only [VRel] at hx
  obtain ⟨q, hq, rfl⟩ := hx
  obtain ⟨hB, hb0, p, s, l, hp, hw⟩ := hH.rel r _ hg rfl q hq
  obtain ⟨p', hp', hB', ES, hw', hes⟩ := map_obj hH hm hp
  rw [hp] at hp'; cases hp'
  simp only [ERels] at hes
  have hES : ES = #[] := by apply Array.ext'; simpa using hes
  subst hES
  have hgo : (getObj q.block).run P w = .ok (.mapIter (some p.block) s #[] l) w := by simp [getObj, Sem.run, hw]
  refine ⟨.tuple #[.bool false], w, σ, ?_, Sub.le_refl _, hH, by simp only [VRel]; exact ⟨_, rfl, by simp [VRels, VRel]⟩⟩
  rw [hb0]
  have hf : ∀ p : MapEntry → Bool, Array.filter p #[] = #[] := fun p => by simp
  simp only [Instr.next, Nat.zero_add, Nat.add_zero, Sem.run_bind, hgo, Result.andThen_ok, run_getObj_map hw', hf]
  simp [run_choose, Question.forced]

theorem loudS_ok {o : Oper} {ρ : Operand → V} {ρ' : Operand → Value} (hρ : ∀ x, VRel σ (ρ x) (ρ' x)) {v : V} {h' : Hp} (hq : loudS E o.op ρ h = some (v, h')) :
    LPost G w0 B σ h' v ((execOp ρ' o).run P w) := by
  have lift : ∀ {s : Sem Value}, (∃ v' w' τ, s.run P w = .ok v' w' ∧ σ.le τ ∧ HRel G w0 B τ h' w' ∧ VRel τ v v') → LPost G w0 B σ h' v ((do pure (Next.value (← s)) : Sem Next).run P w) := by
    rintro s ⟨v', w', τ, h1, h2⟩
    exact ⟨v', w', τ, .inl (by simp [h1]), h2⟩
  obtain ⟨dst, op, type, pos, after, guard⟩ := o
  simp only at hq
  unfold loudS at hq
  split at hq
  · rename_i t l c
    split at hq
    · rename_i e a a' hu hl hc
      split at hq
      case h_2 => cases hq
      rename_i he hs hb hz
      split at hq
      case h_2 => cases hq
      rename_i q1 q2 q3
      split at hq
      · rename_i b h2 ha
        cases hq
        have e1 := hρ l; have e2 := hρ c
        rw [hl] at e1; rw [hc] at e2
        simp only [VRel, tv] at e1 e2
        rw [← SX.beq_eq _ _ q1] at e2
        refine lift ?_
        rw [e1, e2]
        exact makeSliceX_ok hE hH hu hs hb hz q2 q3 ha
      · cases hq
    · rename_i e a hu hl hc
      split at hq
      case h_2 => cases hq
      rename_i k by_ k' he hs hb hz
      split at hq
      case h_2 => cases hq
      rename_i q0 q1 q2 q3
      split at hq
      · rename_i b h2 ha
        cases hq
        have e1 := hρ l; have e2 := hρ c
        rw [hl] at e1; rw [hc] at e2
        simp only [VRel, tv] at e1 e2
        have q0 := kindBeq_eq q0
        subst q0
        refine lift ?_
        rw [e1, e2]
        exact makeBuf_ok hE hH hu hs hb hz (Nat.le_of_ble_eq_true q1) q2 q3 ha
      · cases hq
    · cases hq
  · rename_i args argTypes
    split at hq
    case h_2 => cases hq
    rename_i s x sT xT e1 e2
    obtain ⟨v', w', τ, h1, h2⟩ := appendX_ok (P := P) (ty := type) hE hH hq (hρ s) (hρ x)
    refine ⟨v', w', τ, .inl ?_, h2⟩
    have e1 := array_cons e1; have e2 := array_cons e2; subst e1; subst e2
    simp [execOp, resolve, invoke, builtin, h1]
  · rename_i t x
    split at hq
    case h_2 => cases hq
    rename_i kt et r hu hx
    split at hq
    case h_2 => cases hq
    rename_i c hg
    split at hq
    · rename_i b h2 ha
      cases hq
      have e1 := hρ x
      rw [hx] at e1
      exact lift (rangeX_ok hE hH hu hg ha e1)
    · cases hq
  · rename_i it
    split at hq
    case h_2 => cases hq
    rename_i r hi
    split at hq
    case h_2 => cases hq
    rename_i m hg
    split at hq
    · rename_i c hm
      cases hq
      have e1 := hρ it
      rw [hi] at e1
      exact lift (nextX_ok hH hg hm e1)
    · cases hq
  · rename_i args argTypes
    split at hq
    case h_2 => cases hq
    rename_i d s dT sT e1 e2
    split at hq
    case h_2 => cases hq
    rename_i e b o n sx hu hd hsx
    split at hq
    case h_2 => cases hq
    rename_i c q1 q2 q3 q4
    cases hq
    have f1 := hρ d
    rw [hd] at f1
    have f2 := xTxt_ok hsx (hρ s)
    obtain ⟨v', w', τ, h1, h2⟩ := copyX_ok (P := P) (ty := type) (sT := sT) hE hH hu q1 q2 q3 q4 f1
    refine ⟨v', w', τ, .inl ?_, h2⟩
    have e1 := array_cons e1; have e2 := array_cons e2; subst e1; subst e2
    simp [execOp, resolve, invoke, builtin, f2, h1]
  · cases hq
end
end Go.Bx
