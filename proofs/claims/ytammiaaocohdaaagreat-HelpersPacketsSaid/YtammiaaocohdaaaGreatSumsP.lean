/- What is known of the terms of both sums, proved. -/
import Derived.Test.YtammiaaocohdaaaGreatSumsA
set_option linter.all false
namespace Go.Bx
variable [Valn]

theorem toBits_nat {k : IntKind} {A : Nat} (hk : k = .u64 ∨ k = .i64) (h : A < 2 ^ 64) : toBits k (A : Int) = A := by
  have h' : A < 18446744073709551616 := h
  have e : ((A : Int).emod 18446744073709551616) = (A : Int) % 18446744073709551616 := rfl
  rcases hk with rfl | rfl <;> simp only [toBits, e] <;> omega

theorem wrapU_nat {A : Nat} (h : A < 2 ^ 64) : wrapK .u64 (A : Int) = A := by
  have h' : A < 18446744073709551616 := h
  have e : ((A : Int).emod 18446744073709551616) = (A : Int) % 18446744073709551616 := rfl
  simp only [wrapK, e]; omega

theorem wrapI_nat {A : Nat} (h : A < 2 ^ 63) : wrapK .i64 (A : Int) = A := by
  have h' : A < 9223372036854775808 := h
  rw [wrapK_eq]
  simp [IntKind.wrap, IntKind.bits, IntKind.signed]; omega

theorem wrap_nat {k : IntKind} {A : Nat} (hk : (k = .u64 ∧ A < 2 ^ 64) ∨ (k = .i64 ∧ A < 2 ^ 63)) : wrapK k (A : Int) = A := by
  rcases hk with ⟨rfl, h⟩ | ⟨rfl, h⟩
  · exact wrapU_nat h
  · exact wrapI_nat h

/-- A kind of sixty-four bits, and how far its numbers go. -/
def In64 (k : IntKind) (A : Nat) : Prop := (k = .u64 ∧ A < 2 ^ 64) ∨ (k = .i64 ∧ A < 2 ^ 63)
theorem In64.lt {k : IntKind} {A : Nat} (h : In64 k A) : (k = .u64 ∨ k = .i64) ∧ A < 2 ^ 64 := by
  rcases h with ⟨rfl, h⟩ | ⟨rfl, h⟩
  · exact ⟨.inl rfl, h⟩
  · exact ⟨.inr rfl, Nat.lt_trans h (by decide)⟩

theorem or_nat {k : IntKind} {A B : Nat} (ha : In64 k A) (hb : In64 k B) (h : In64 k (A ||| B)) : opD .or k (A : Int) (B : Int) = .I ((A ||| B : Nat) : Int) := by
  simp only [opD, intOp, toBits_nat ha.lt.1 ha.lt.2, toBits_nat hb.lt.1 hb.lt.2]
  exact congrArg D.I (wrap_nat h)
theorem and_nat {k : IntKind} {A B : Nat} (ha : In64 k A) (hb : In64 k B) (h : In64 k (A &&& B)) : opD .and k (A : Int) (B : Int) = .I ((A &&& B : Nat) : Int) := by
  simp only [opD, intOp, toBits_nat ha.lt.1 ha.lt.2, toBits_nat hb.lt.1 hb.lt.2]
  exact congrArg D.I (wrap_nat h)
theorem andNot_nat' {A B : Nat} (ha : A < 2 ^ 64) (hb : B < 2 ^ 64) (h : A &&& (18446744073709551615 - B) < 2 ^ 64) : opD .andNot .u64 (A : Int) (B : Int) = .I ((A &&& (18446744073709551615 - B) : Nat) : Int) := by
  simp only [opD, intOp, toBits_nat (.inl rfl) ha, toBits_nat (.inl rfl) hb]
  exact congrArg D.I (wrapU_nat h)
theorem shl_nat {k : IntKind} {A n : Nat} (hn : n ≤ 64) (hk : k = .u64 ∨ k = .i64) (h : In64 k (A * 2 ^ n)) : opD .shl k (A : Int) (n : Int) = .I ((A * 2 ^ n : Nat) : Int) := by
  have hb : minN n (bitsOf k) = n := by rw [minN_eq, bitsOf_eq]; rcases hk with rfl | rfl <;> simp [IntKind.bits] <;> omega
  have : opD .shl k (A : Int) (n : Int) = .I (wrapK k ((A : Int) * Int.ofNat (2 ^ n))) := by
    show opD .shl k (A : Int) (Int.ofNat n) = _
    simp only [opD, shiftOp, hb]
  rw [this]
  have e : (A : Int) * Int.ofNat (2 ^ n) = ((A * 2 ^ n : Nat) : Int) := by
    rw [Int.natCast_mul]; rfl
  rw [e]
  exact congrArg D.I (wrap_nat h)
theorem shr_nat {k : IntKind} {A n : Nat} (hn : n ≤ 64) (hk : k = .u64 ∨ k = .i64) : opD .shr k (A : Int) (n : Int) = .I ((A / 2 ^ n : Nat) : Int) := by
  have hb : minN n (bitsOf k) = n := by rw [minN_eq, bitsOf_eq]; rcases hk with rfl | rfl <;> simp [IntKind.bits] <;> omega
  have : opD .shr k (A : Int) (n : Int) = .I ((A : Int).fdiv (Int.ofNat (2 ^ n))) := by
    show opD .shr k (A : Int) (Int.ofNat n) = _
    simp only [opD, shiftOp, hb]
  rw [this]
  have e : (A : Int).fdiv (Int.ofNat (2 ^ n)) = ((A / 2 ^ n : Nat) : Int) := by
    show (A : Int).fdiv ((2 ^ n : Nat) : Int) = _
    rw [Int.fdiv_eq_ediv_of_nonneg _ (Int.natCast_nonneg _)]
    rfl
  rw [e]
theorem conv_u8 {A : Nat} : wrapK .u8 (A : Int) = ((A % 256 : Nat) : Int) := by
  have e : ((A : Int).emod 256) = (A : Int) % 256 := rfl
  simp only [wrapK, e]; omega

/-- The numbers of the registers. -/
theorem vx_nat (i : Nat) : ∃ X : Nat, X < 2 ^ 64 ∧ (vx i).den = .I (X : Int) := by
  have h := unsigned_wrap (k := .u64) rfl (Valn.int i)
  have e : (Valn.int i).emod 18446744073709551616 = Valn.int i % 18446744073709551616 := rfl
  have h2 : wrapK .u64 (Valn.int i) < 18446744073709551616 := by simp only [wrapK, e]; omega
  refine ⟨(wrapK .u64 (Valn.int i)).toNat, ?_, ?_⟩
  · have : (2 : Nat) ^ 64 = 18446744073709551616 := by decide
    omega
  · simp only [vx, SX.den]; congr 1; omega

theorem orX_den {x : SX} {X : Nat} (hX : X < 2 ^ 64) (hx : x.den = .I (X : Int)) : ∀ i, i ≤ 8 → (orX x i).den = .I ((X % 2 ^ (8 * i) : Nat) : Int)
  | 0, _ => by simp [orX, SX.den, Nat.mod_one]
  | i + 1, hi => by
    have ih := orX_den hX hx i (by omega)
    have hb : (byteX x i).den = .I ((X / 2 ^ (8 * i) % 256 : Nat) : Int) := by
      have := shr_nat (k := .u64) (A := X) (n := 8 * i) (by omega) (.inl rfl)
      have e8 : ((8 * i : Nat) : Int) = 8 * (i : Int) := by omega
      rw [e8] at this
      simp only [byteX, SX.den, hx, D.int]
      rw [this]
      exact congrArg D.I conv_u8
    have hlt : X / 2 ^ (8 * i) % 256 < 2 ^ 64 := by have : X / 2 ^ (8 * i) % 256 < 256 := Nat.mod_lt _ (by decide); omega
    have hs : X / 2 ^ (8 * i) % 256 * 2 ^ (8 * i) < 2 ^ 64 := by
      have h1 : X / 2 ^ (8 * i) % 256 ≤ 255 := by have : X / 2 ^ (8 * i) % 256 < 256 := Nat.mod_lt _ (by decide); omega
      have h2 : 2 ^ (8 * i) ≤ 2 ^ 56 := Nat.pow_le_pow_right (by decide) (by omega)
      have := Nat.mul_le_mul h1 h2
      omega
    have hm : X % 2 ^ (8 * i) < 2 ^ (8 * i) := Nat.mod_lt _ (Nat.pow_pos (by decide))
    have hor : X % 2 ^ (8 * i) ||| X / 2 ^ (8 * i) % 256 * 2 ^ (8 * i) = X % 2 ^ (8 * (i + 1)) := by
      rw [Nat.or_comm, Nat.mul_comm, ← Nat.two_pow_add_eq_or_of_lt hm, show 8 * (i + 1) = 8 * i + 8 by omega, Nat.pow_add, Nat.mod_mul, show (2 : Nat) ^ 8 = 256 by decide, Nat.add_comm]
    have hm2 : X % 2 ^ (8 * (i + 1)) < 2 ^ 64 := Nat.lt_of_le_of_lt (Nat.mod_le _ _) hX
    simp only [orX, SX.den, ih, hb, D.int]
    rw [wrapU_nat hlt]
    have h3 := shl_nat (k := .u64) (A := X / 2 ^ (8 * i) % 256) (n := 8 * i) (by omega) (.inl rfl) (.inl ⟨rfl, hs⟩)
    have e8 : ((8 * i : Nat) : Int) = 8 * (i : Int) := by omega
    rw [e8] at h3
    rw [h3]
    simp only []
    rw [or_nat (.inl ⟨rfl, Nat.lt_of_le_of_lt (Nat.mod_le _ _) hX⟩) (.inl ⟨rfl, hs⟩) (.inl ⟨rfl, by rw [hor]; exact hm2⟩), hor]

theorem factsX_ok : ∀ l r, (l, r) ∈ factsX → l.den = r.den := by
  intro l r h
  have key : ∀ i, (orX (vx i) 8).den = (vx i).den := fun i => by
    obtain ⟨X, hX, hx⟩ := vx_nat i
    rw [orX_den hX hx 8 (Nat.le_refl _), hx]
    rw [Nat.mod_eq_of_lt (by simpa using hX)]
  simp only [factsX, List.mem_cons, Prod.mk.injEq, List.not_mem_nil, or_false] at h
  rcases h with ⟨rfl, rfl⟩ | ⟨rfl, rfl⟩ <;> exact key _

/-! The second processor. -/
theorem two_or {i a b : Nat} (h : b < 2 ^ i) : 2 ^ i * a ||| b = 2 ^ i * a + b := (Nat.two_pow_add_eq_or_of_lt h a).symm

theorem chunk_nat (r k : Nat) (hk : k ≤ 3) : ∃ X : Nat, X < 2 ^ 64 ∧ (vx r).den = .I (X : Int) ∧ (chunkA r k).den = .I ((X / 2 ^ (16 * k) % 65536 : Nat) : Int) := by
  obtain ⟨X, hX, hx⟩ := vx_nat r
  refine ⟨X, hX, hx, ?_⟩
  have hs : (partA r k).den = .I ((X / 2 ^ (16 * k) : Nat) : Int) := by
    cases k with
    | zero => simp [partA, hx]
    | succ k =>
      have := shr_nat (k := .u64) (A := X) (n := 16 * (k + 1)) (by omega) (.inl rfl)
      have e : ((16 * (k + 1) : Nat) : Int) = 16 * ((k + 1 : Nat) : Int) := by omega
      rw [e] at this
      simp only [partA, SX.den, hx, D.int]
      exact this
  have hlt : X / 2 ^ (16 * k) < 2 ^ 64 := Nat.lt_of_le_of_lt (Nat.div_le_self _ _) hX
  have hm : X / 2 ^ (16 * k) &&& 65535 = X / 2 ^ (16 * k) % 65536 := Nat.and_two_pow_sub_one_eq_mod _ 16
  have hml : X / 2 ^ (16 * k) % 65536 < 65536 := Nat.mod_lt _ (by decide)
  have ha := and_nat (k := .u64) (A := X / 2 ^ (16 * k)) (B := 65535) (.inl ⟨rfl, hlt⟩) (.inl ⟨rfl, by decide⟩) (.inl ⟨rfl, by rw [hm]; omega⟩)
  rw [hm] at ha
  unfold chunkA
  simp only [SX.den, hs]
  have e2 : D.int (.I ((X / 2 ^ (16 * k) : Nat) : Int)) = ((X / 2 ^ (16 * k) : Nat) : Int) := rfl
  have e3 : D.int (.I 65535) = ((65535 : Nat) : Int) := rfl
  rw [e2, e3, ha]
  exact congrArg D.I (wrapI_nat (by omega))

/-- The word of a move of sixteen bits. -/
theorem word_nat (r k : Nat) (hr : r < 2) (hk : k ≤ 3) {c : Nat} (hc : c < 65536) (h : (chunkA r k).den = .I (c : Int)) :
    (wordA r k).den = .I ((2097152 * (highA k + k) + 32 * c + r : Nat) : Int) := by
  have hshl := shl_nat (k := .i64) (A := c) (n := 5) (by omega) (.inr rfl) (.inr ⟨rfl, by omega⟩)
  have key : ∀ H : Nat, H < 4096 → H % 4 = 0 → (H : Int) * 2097152 + r = ((2097152 * H + r : Nat) : Int) → ∀ B : SX, B.den = .I ((2097152 * H + r : Nat) : Int) →
      (SX.bin .or .i64 (.bin .or .i64 B (.bin .shl .i64 (chunkA r k) (.num 5))) (.num (k * 2097152))).den = .I ((2097152 * (H + k) + 32 * c + r : Nat) : Int) := by
    intro H hH h4 _ B hB
    have o1 : (2097152 * H + r) ||| (c * 2 ^ 5) = 2097152 * H + 32 * c + r := by
      have e1 : 2097152 * H + r = 2 ^ 21 * H ||| r := (two_or (i := 21) (by omega)).symm
      have e2 : r ||| c * 2 ^ 5 = 2 ^ 5 * c + r := by rw [Nat.or_comm, Nat.mul_comm]; exact two_or (i := 5) (by omega)
      rw [e1, Nat.or_assoc, e2]
      have e3 := two_or (i := 21) (a := H) (b := 2 ^ 5 * c + r) (by omega)
      rw [e3]; omega
    have o2 : (2097152 * H + 32 * c + r) ||| k * 2097152 = 2097152 * (H + k) + 32 * c + r := by
      have e1 : 2097152 * H + 32 * c + r = 2 ^ 21 * H ||| (32 * c + r) := by rw [two_or (i := 21) (by omega)]; omega
      have e2 : H ||| k = H + k := by
        have h5 : H = 2 ^ 2 * (H / 4) := by omega
        have := two_or (i := 2) (a := H / 4) (b := k) (by omega)
        rw [← h5] at this; exact this
      have e3 : k * 2097152 = 2 ^ 21 * k := by omega
      have e4 : 2 ^ 21 * H ||| 2 ^ 21 * k = 2 ^ 21 * (H ||| k) := by
        rw [Nat.mul_comm _ H, Nat.mul_comm _ k, Nat.mul_comm _ (H ||| k), ← Nat.shiftLeft_eq, ← Nat.shiftLeft_eq, ← Nat.shiftLeft_eq, Nat.shiftLeft_or_distrib]
      rw [e1, e3, Nat.or_assoc, Nat.or_comm (32 * c + r), ← Nat.or_assoc, e4, e2, two_or (i := 21) (by omega)]; omega
    have d1 := or_nat (k := .i64) (A := 2097152 * H + r) (B := c * 2 ^ 5) (.inr ⟨rfl, by omega⟩) (.inr ⟨rfl, by omega⟩) (.inr ⟨rfl, by rw [o1]; omega⟩)
    have d2 := or_nat (k := .i64) (A := 2097152 * H + 32 * c + r) (B := k * 2097152) (.inr ⟨rfl, by omega⟩) (.inr ⟨rfl, by omega⟩) (.inr ⟨rfl, by rw [o2]; omega⟩)
    rw [o1] at d1
    rw [o2] at d2
    have e5 : ((5 : Nat) : Int) = 5 := rfl
    have e6 : ((k * 2097152 : Nat) : Int) = (k : Int) * 2097152 := by omega
    rw [e5] at hshl
    rw [e6] at d2
    simp only [SX.den, hB, h, D.int]
    rw [hshl]
    simp only []
    rw [d1]
    exact d2
  unfold wordA
  cases k with
  | zero => exact key 1684 (by omega) (by omega) (by omega) _ (by simp only [baseA, SX.den]; congr 1)
  | succ k => exact key 1940 (by omega) (by omega) (by omega) _ (by simp only [baseA, SX.den]; congr 1)

theorem high_cases (k : Nat) (hk : k ≤ 3) : (highA k + k) / 8 = (topA k).toNat ∧ (highA k + k) % 4 = k ∧ highA k + k < 2048 ∧ 0 ≤ topA k ∧ topA k < 256 := by
  match k, hk with
  | 0, _ => decide
  | 1, _ => decide
  | 2, _ => decide
  | 3, _ => decide

theorem shr64 {w : SX} {W : Nat} (h : w.den = .I (W : Int)) (n : Nat) (hn : n ≤ 64) : (shrA w n).den = .I ((W / 2 ^ n : Nat) : Int) := by
  simp only [shrA, SX.den, h, D.int]
  exact shr_nat hn (.inr rfl)

theorem and64 {w : SX} {W : Nat} (hW : W < 2 ^ 63) (h : w.den = .I (W : Int)) (n : Nat) (hn : n ≤ 32) : (andA w ((2 ^ n - 1 : Nat) : Int)).den = .I ((W % 2 ^ n : Nat) : Int) := by
  have e : W &&& (2 ^ n - 1) = W % 2 ^ n := Nat.and_two_pow_sub_one_eq_mod _ _
  have h2 : 2 ^ n - 1 < 2 ^ 63 := by
    have : 2 ^ n ≤ 2 ^ 32 := Nat.pow_le_pow_right (by decide) hn
    omega
  simp only [andA, SX.den, h, D.int]
  rw [and_nat (.inr ⟨rfl, hW⟩) (.inr ⟨rfl, h2⟩) (.inr ⟨rfl, by rw [e]; exact Nat.lt_of_le_of_lt (Nat.mod_le _ _) hW⟩), e]

theorem byteA_nat {w : SX} {W : Nat} (h : w.den = .I (W : Int)) (i : Nat) (hi : i ≤ 7) : (byteA w i).den = .I ((W / 2 ^ (8 * i) % 256 : Nat) : Int) := by
  have hs : (match i with | 0 => w | _ => SX.bin .shr .i64 w (.num (8 * i)) : SX).den = .I ((W / 2 ^ (8 * i) : Nat) : Int) := by
    cases i with
    | zero => simp [h]
    | succ i => exact shr64 h (8 * (i + 1)) (by omega)
  have hlt : W / 2 ^ (8 * i) % 256 < 256 := Nat.mod_lt _ (by decide)
  have key : ∀ y : SX, y.den = .I ((W / 2 ^ (8 * i) : Nat) : Int) → (SX.conv .i64 (.conv .u8 y)).den = .I ((W / 2 ^ (8 * i) % 256 : Nat) : Int) := by
    intro y hy
    simp only [SX.den, hy, D.int]
    rw [conv_u8]
    exact congrArg D.I (wrapI_nat (by omega))
  unfold byteA
  cases i with
  | zero => exact key _ (by simp [h])
  | succ i => exact key _ (shr64 h (8 * (i + 1)) (by omega))

theorem readA_nat {w : SX} {W k : Nat} (hW : W < 2 ^ 32) (h : w.den = .I (W : Int)) (ht : topA k = ((W / 16777216 : Nat) : Int)) : (readA w k).den = .I (W : Int) := by
  have b0 := byteA_nat h 0 (by omega)
  have b1 := byteA_nat h 1 (by omega)
  have b2 := byteA_nat h 2 (by omega)
  simp only [Nat.mul_zero, Nat.pow_zero, Nat.div_one, Nat.mul_one, show 8 * 2 = 16 by rfl] at b0 b1 b2
  have m0 : W % 256 < 256 := Nat.mod_lt _ (by decide)
  have m1 : W / 2 ^ 8 % 256 < 256 := Nat.mod_lt _ (by decide)
  have m2 : W / 2 ^ 16 % 256 < 256 := Nat.mod_lt _ (by decide)
  have s1 := shl_nat (k := .i64) (A := W / 2 ^ 8 % 256) (n := 8) (by omega) (.inr rfl) (.inr ⟨rfl, by omega⟩)
  have s2 := shl_nat (k := .i64) (A := W / 2 ^ 16 % 256) (n := 16) (by omega) (.inr rfl) (.inr ⟨rfl, by omega⟩)
  have o1 : W % 256 ||| W / 2 ^ 8 % 256 * 2 ^ 8 = W % 65536 := by
    rw [Nat.or_comm, Nat.mul_comm, two_or (i := 8) (by omega)]; omega
  have o2 : W % 65536 ||| W / 2 ^ 16 % 256 * 2 ^ 16 = W % 16777216 := by
    rw [Nat.or_comm, Nat.mul_comm, two_or (i := 16) (by omega)]; omega
  have o3 : W % 16777216 ||| W / 16777216 * 16777216 = W := by
    have e : W / 16777216 * 16777216 = 2 ^ 24 * (W / 16777216) := by omega
    rw [e, Nat.or_comm, two_or (i := 24) (by omega)]; omega
  have d1 := or_nat (k := .i64) (A := W % 256) (B := W / 2 ^ 8 % 256 * 2 ^ 8) (.inr ⟨rfl, by omega⟩) (.inr ⟨rfl, by omega⟩) (.inr ⟨rfl, by rw [o1]; omega⟩)
  have d2 := or_nat (k := .i64) (A := W % 65536) (B := W / 2 ^ 16 % 256 * 2 ^ 16) (.inr ⟨rfl, by omega⟩) (.inr ⟨rfl, by omega⟩) (.inr ⟨rfl, by rw [o2]; omega⟩)
  have d3 := or_nat (k := .i64) (A := W % 16777216) (B := W / 16777216 * 16777216) (.inr ⟨rfl, by omega⟩) (.inr ⟨rfl, by omega⟩) (.inr ⟨rfl, by rw [o3]; omega⟩)
  rw [o1] at d1
  rw [o2] at d2
  rw [o3] at d3
  have e8 : ((8 : Nat) : Int) = 8 := rfl
  have e16 : ((16 : Nat) : Int) = 16 := rfl
  rw [e8] at s1
  rw [e16] at s2
  have et : topA k * 16777216 = ((W / 16777216 * 16777216 : Nat) : Int) := by rw [ht]; omega
  simp only [readA, SX.den, b0, b1, b2, et, D.int]
  rw [s1]
  simp only []
  rw [d1, s2]
  simp only []
  rw [d2]
  simp only []
  exact d3

theorem factsC_ok (r k : Nat) (hr : r < 2) (hk : k ≤ 3) : ∀ l r', (l, r') ∈ factsC r k → l.den = r'.den := by
  intro l r' h
  obtain ⟨X, hX, hx, hc⟩ := chunk_nat r k hk
  generalize hcc : X / 2 ^ (16 * k) % 65536 = c at hc
  have hcl : c < 65536 := by rw [← hcc]; exact Nat.mod_lt _ (by decide)
  have hw := word_nat r k hr hk hcl hc
  obtain ⟨h1, h2, h3, h4, h5⟩ := high_cases k hk
  generalize hH : highA k + k = H at hw h1 h2 h3
  generalize hWW : 2097152 * H + 32 * c + r = W at hw
  have hW : W < 2 ^ 32 := by omega
  simp only [factsC, List.mem_cons, Prod.mk.injEq, List.not_mem_nil, or_false] at h
  rcases h with ⟨rfl, rfl⟩ | ⟨rfl, rfl⟩ | ⟨rfl, rfl⟩ | ⟨rfl, rfl⟩ | ⟨rfl, rfl⟩ | ⟨rfl, rfl⟩ | ⟨rfl, rfl⟩ | ⟨rfl, rfl⟩ | ⟨rfl, rfl⟩
  · simp only [SX.den, hc, D.int, opD, intOp, intLt_eq]; congr 1
  · simp only [SX.den, hc, D.int, opD, intOp, intLt_eq]; congr 1; simp; omega
  · simp only [SX.den, hw, D.int, opD, intOp, intLt_eq]; congr 1
  · rw [readA_nat hW hw (by omega), hw]
  · have := shr64 hw 32 (by omega)
    rw [show ((32 : Nat) : Int) = 32 from rfl] at this
    rw [this]; simp only [SX.den]; congr 1; omega
  · have := and64 (by omega) hw 5 (by omega)
    rw [show ((2 ^ 5 - 1 : Nat) : Int) = 31 from rfl] at this
    rw [this]; simp only [SX.den]; congr 1; omega
  · have := shr64 hw 24 (by omega)
    rw [show ((24 : Nat) : Int) = 24 from rfl] at this
    rw [this]; simp only [SX.den]; congr 1; omega
  · have h21 := shr64 hw 21 (by omega)
    rw [show ((21 : Nat) : Int) = 21 from rfl] at h21
    have := and64 (by omega) h21 2 (by omega)
    rw [show ((2 ^ 2 - 1 : Nat) : Int) = 3 from rfl] at this
    rw [this]; simp only [SX.den]; congr 1; omega
  · have h5 := shr64 hw 5 (by omega)
    rw [show ((5 : Nat) : Int) = 5 from rfl] at h5
    have := and64 (by omega) h5 16 (by omega)
    rw [show ((2 ^ 16 - 1 : Nat) : Int) = 65535 from rfl] at this
    rw [this, hc]; congr 2; omega

theorem low_and {m j Q : Nat} (h : m < 2 ^ j) : m &&& (2 ^ j * Q + (2 ^ j - 1)) = m := by
  have h1 : (m &&& (2 ^ j * Q + (2 ^ j - 1))) < 2 ^ j := Nat.lt_of_le_of_lt Nat.and_le_left h
  have hp : 0 < 2 ^ j := Nat.pow_pos (by decide)
  have h2 : (2 ^ j * Q + (2 ^ j - 1)) % 2 ^ j = 2 ^ j - 1 := by rw [Nat.mul_add_mod, Nat.mod_eq_of_lt (by omega)]
  rw [← Nat.mod_eq_of_lt h1, Nat.and_mod_two_pow, h2, Nat.and_two_pow_sub_one_eq_mod, Nat.mod_mod, Nat.mod_eq_of_lt h]

theorem mask_form (k : Nat) (hk : k ≤ 2) : ∃ Q, 18446744073709551615 - 65535 * 2 ^ (16 * (k + 1)) = 2 ^ (16 * (k + 1)) * Q + (2 ^ (16 * (k + 1)) - 1) := by
  have : k = 0 ∨ k = 1 ∨ k = 2 := by omega
  rcases this with rfl | rfl | rfl
  · exact ⟨281474976645120, by decide +kernel⟩
  · exact ⟨4294901760, by decide +kernel⟩
  · exact ⟨0, by decide +kernel⟩

theorem movA_nat (r : Nat) {X : Nat} (hX : X < 2 ^ 64) (hx : (vx r).den = .I (X : Int)) : ∀ k, k ≤ 3 → (movA r k).den = .I ((X % 2 ^ (16 * (k + 1)) : Nat) : Int)
  | 0, _ => by
    obtain ⟨X', _, hx', hc⟩ := chunk_nat r 0 (by omega)
    rw [hx] at hx'
    have : X' = X := by simp at hx'; omega
    subst this
    have hlt : X' / 2 ^ (16 * 0) % 65536 < 65536 := Nat.mod_lt _ (by decide)
    simp only [movA, SX.den, hc, D.int]
    rw [wrapU_nat (by omega)]
    have := shl_nat (k := .u64) (A := X' / 2 ^ (16 * 0) % 65536) (n := 0) (by omega) (.inl rfl) (.inl ⟨rfl, by omega⟩)
    rw [show ((0 : Nat) : Int) = 0 from rfl] at this
    rw [this]
    simp
  | k + 1, hk => by
    have ih := movA_nat r hX hx k (by omega)
    obtain ⟨X', _, hx', hc⟩ := chunk_nat r (k + 1) hk
    rw [hx] at hx'
    have : X' = X := by simp at hx'; omega
    subst this
    have hlt : X' / 2 ^ (16 * (k + 1)) % 65536 < 65536 := Nat.mod_lt _ (by decide)
    have hs : X' / 2 ^ (16 * (k + 1)) % 65536 * 2 ^ (16 * (k + 1)) < 2 ^ 64 := by
      have h1 : X' / 2 ^ (16 * (k + 1)) % 65536 ≤ 65535 := by omega
      have h2 : 2 ^ (16 * (k + 1)) ≤ 2 ^ 48 := Nat.pow_le_pow_right (by decide) (by omega)
      have := Nat.mul_le_mul h1 h2
      omega
    have hm : X' % 2 ^ (16 * (k + 1)) < 2 ^ (16 * (k + 1)) := Nat.mod_lt _ (Nat.pow_pos (by decide))
    have hmX : X' % 2 ^ (16 * (k + 1)) < 2 ^ 64 := Nat.lt_of_le_of_lt (Nat.mod_le _ _) hX
    have hor : X' % 2 ^ (16 * (k + 1)) ||| X' / 2 ^ (16 * (k + 1)) % 65536 * 2 ^ (16 * (k + 1)) = X' % 2 ^ (16 * (k + 2)) := by
      rw [Nat.or_comm, Nat.mul_comm, ← Nat.two_pow_add_eq_or_of_lt hm, show 16 * (k + 2) = 16 * (k + 1) + 16 by omega, Nat.pow_add, Nat.mod_mul, show (2 : Nat) ^ 16 = 65536 by decide, Nat.add_comm]
    -- the mask
    have hmask : 65535 * 2 ^ (16 * (k + 1)) < 2 ^ 64 := by
      have h2 : 2 ^ (16 * (k + 1)) ≤ 2 ^ 48 := Nat.pow_le_pow_right (by decide) (by omega)
      have := Nat.mul_le_mul (Nat.le_refl 65535) h2
      omega
    have hand : X' % 2 ^ (16 * (k + 1)) &&& (18446744073709551615 - 65535 * 2 ^ (16 * (k + 1))) = X' % 2 ^ (16 * (k + 1)) := by
      obtain ⟨Q, hQ⟩ : ∃ Q, 18446744073709551615 - 65535 * 2 ^ (16 * (k + 1)) = 2 ^ (16 * (k + 1)) * Q + (2 ^ (16 * (k + 1)) - 1) := by
        exact mask_form k (by omega)
      rw [hQ]; exact low_and hm
    have d0 := andNot_nat' (A := X' % 2 ^ (16 * (k + 1))) (B := 65535 * 2 ^ (16 * (k + 1))) hmX hmask (by rw [hand]; exact hmX)
    rw [hand] at d0
    have em : ((65535 * 2 ^ (16 * (k + 1)) : Nat) : Int) = 65535 * 2 ^ (16 * (k + 1)) := by simp
    rw [em] at d0
    have d1 := shl_nat (k := .u64) (A := X' / 2 ^ (16 * (k + 1)) % 65536) (n := 16 * (k + 1)) (by omega) (.inl rfl) (.inl ⟨rfl, hs⟩)
    have es : ((16 * (k + 1) : Nat) : Int) = 16 * ((k : Int) + 1) := by omega
    rw [es] at d1
    have d2 := or_nat (k := .u64) (A := X' % 2 ^ (16 * (k + 1))) (B := X' / 2 ^ (16 * (k + 1)) % 65536 * 2 ^ (16 * (k + 1))) (.inl ⟨rfl, hmX⟩) (.inl ⟨rfl, hs⟩) (.inl ⟨rfl, by rw [hor]; exact Nat.lt_of_le_of_lt (Nat.mod_le _ _) hX⟩)
    rw [hor] at d2
    simp only [movA, SX.den, ih, hc, D.int]
    rw [wrapU_nat (by omega), d0, d1]
    simp only []
    exact d2

theorem factsM_ok : ∀ l r', (l, r') ∈ factsM → l.den = r'.den := by
  intro l r' h
  have mv : ∀ r, (movA r 3).den = (vx r).den := fun r => by
    obtain ⟨X, hX, hx⟩ := vx_nat r
    rw [movA_nat r hX hx 3 (by omega), hx, Nat.mod_eq_of_lt (by simpa using hX)]
  simp only [factsM, List.mem_cons, Prod.mk.injEq, List.not_mem_nil, or_false] at h
  rcases h with ⟨rfl, rfl⟩ | ⟨rfl, rfl⟩ | ⟨rfl, rfl⟩ | ⟨rfl, rfl⟩ | ⟨rfl, rfl⟩
  · exact mv 0
  · exact mv 1
  · obtain ⟨X, hX, hx⟩ := vx_nat 1
    have e : X &&& 63 = X % 64 := Nat.and_two_pow_sub_one_eq_mod X 6
    have ha := and_nat (k := .u64) (A := X) (B := 63) (.inl ⟨rfl, hX⟩) (.inl ⟨rfl, by decide⟩) (.inl ⟨rfl, by rw [e]; omega⟩)
    rw [e, show ((63 : Nat) : Int) = 63 from rfl] at ha
    simp only [SX.den, hx, D.int]
    rw [ha]
    have : intBeq 64 0 = false := rfl
    simp only [opD, intOp, this]
    congr 1
  · obtain ⟨X, hX, hx⟩ := vx_nat 0
    have := shl_nat (k := .u64) (A := X) (n := 0) (by omega) (.inl rfl) (.inl ⟨rfl, by omega⟩)
    rw [show ((0 : Nat) : Int) = 0 from rfl] at this
    simp only [SX.den, hx, D.int]
    rw [this]; simp
  · have key : ∀ y : Int, opD .shr .i64 y 0 = .I y := fun y => by
      show opD .shr .i64 y (Int.ofNat 0) = _
      have hz : Nat.ble 0 (bitsOf .i64) = true := rfl
      simp [opD, shiftOp, minN, hz]
    exact key _

theorem factsA_ok : ∀ l r', (l, r') ∈ factsA → l.den = r'.den := by
  intro l r' h
  simp only [factsA, List.mem_append, List.mem_flatMap, List.mem_cons, List.not_mem_nil, or_false] at h
  rcases h with ⟨r, hr, k, hk, h⟩ | h
  · exact factsC_ok r k (by omega) (by omega) l r' h
  · exact factsM_ok l r' h

/-- A term of sixty-four bits and nothing. -/
theorem plus0_ok {e : SX} (h : inKind .u64 e = true) (hI : ∃ n, e.den = .I n) : ∀ l r', (l, r') ∈ [plus0 e] → l.den = r'.den := by
  intro l r' hm
  simp only [plus0, List.mem_cons, Prod.mk.injEq, List.not_mem_nil, or_false] at hm
  obtain ⟨rfl, rfl⟩ := hm
  obtain ⟨n, hn⟩ := hI
  have h2 := inKind_ok h
  rw [hn] at h2
  simp only [D.int] at h2
  simp only [SX.den, hn, D.int, opD, intOp, Int.add_zero, h2]
end Go.Bx
