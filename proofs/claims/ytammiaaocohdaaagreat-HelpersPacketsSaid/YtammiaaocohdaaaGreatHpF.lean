/- HelpersPackets: the facts of a round hold. -/
import Derived.Test.YtammiaaocohdaaaGreatHpT
set_option linter.all false
namespace Go.Bx.HP
open Go.Bx

abbrev rho (L : Nat) (x : Int) (ls : Nat → List Int) (k : Nat) : Valn where
  int := fun i => if i = 0 then (k : Int) else max 0 (min x 2147483647)
  bool := fun _ => false
  list := fun _ => []
  fn := fun f d => if f = 0 then .L (ls d.int.toNat) else if f = 1 then .L (List.replicate L 0) else .I x

def AllDen [Valn] : List (SX × SX) → Prop
  | [] => True
  | (a, b) :: l => a.den = b.den ∧ AllDen l

theorem AllDen.mem [Valn] : ∀ {l : List (SX × SX)}, AllDen l → ∀ a b, (a, b) ∈ l → a.den = b.den
  | [], _, a, b, h => by simp at h
  | (x, y) :: l, ⟨h1, h2⟩, a, b, h => by
    rcases List.mem_cons.1 h with e | h
    · cases e; exact h1
    · exact h2.mem a b h

abbrev anyV : Valn := ⟨fun _ => 0, fun _ => false, fun _ => [], fun _ d => d⟩
theorem wrapK_eq' (k : IntKind) (n : Int) : wrapK k n = k.wrap n := @wrapK_eq anyV k n
theorem intLt_eq' (a b : Int) : intLt a b = decide (a < b) := @intLt_eq anyV a b
theorem intLe_eq' (a b : Int) : intLe a b = decide (a ≤ b) := @intLe_eq anyV a b

theorem wrap_i64 {n : Int} (h0 : -9223372036854775808 ≤ n) (h1 : n < 9223372036854775808) : wrapK .i64 n = n := by
  rw [wrapK_eq']
  simp only [IntKind.wrap, IntKind.bits, IntKind.signed]
  simp
  omega

section
variable (L : Nat) (x : Int) (ls : Nat → List Int) (k : Nat) (hk : k ≤ 1000000)
 include hk
abbrev R := rho L x ls k

theorem hvi : @SX.den (rho L x ls k) vi = .I k := by
  show D.I (wrapK .i64 (k : Int)) = _
  rw [wrap_i64 (by omega) (by omega)]
 omit hk in
theorem hvn : @SX.den (rho L x ls k) vn = .I L := by
  show D.I ((List.replicate L (0 : Int)).length : Int) = _
  simp
 omit hk in
theorem hvx : @SX.den (rho L x ls k) vx = .I x := rfl
 omit hk in
theorem hvm : @SX.den (rho L x ls k) vm = .I (max 0 (min x 2147483647)) := by
  show D.I (wrapK .i64 (max 0 (min x 2147483647))) = _
  rw [wrap_i64 (by omega) (by omega)]
theorem hS : @SX.den (rho L x ls k) eS = .L ((ls k).map (wrapK .u8)) := by
  show D.L ((ls ((@SX.den (rho L x ls k) vi).int.toNat)).map (wrapK .u8)) = _
  rw [hvi L x ls k hk]; rfl
theorem hL : @SX.den (rho L x ls k) eL = .I (ls k).length := by
  show D.I ((@SX.den (rho L x ls k) eS).list.length : Int) = _
  rw [hS L x ls k hk]
  simp [D.list]
theorem hroom (h : (ls k).length ≤ 2048) : @SX.den (rho L x ls k) room = .I (64 + (ls k).length) := by
  show opD .add .i64 64 (@SX.den (rho L x ls k) eL).int = _
  rw [hL L x ls k hk]
  show D.I (wrapK .i64 (64 + ((ls k).length : Int))) = _
  rw [wrap_i64 (by omega) (by omega)]

 omit hk in
theorem cmpD {ρ : Valn} {op : BinOp} {kd : IntKind} {a b : SX} {x y : Int} (ha : @SX.den ρ a = .I x) (hb : @SX.den ρ b = .I y) : @SX.den ρ (.bin op kd a b) = opD op kd x y := by
  show opD op kd (@SX.den ρ a).int (@SX.den ρ b).int = _
  rw [ha, hb]; rfl

 omit hk in
theorem lssT {ρ : Valn} {kd : IntKind} {a b : SX} {x y : Int} (ha : @SX.den ρ a = .I x) (hb : @SX.den ρ b = .I y) {r : Bool} (h : decide (x < y) = r) : @SX.den ρ (.bin .lss kd a b) = @SX.den ρ (.bit r) := by
  rw [cmpD ha hb]
  simp only [opD, intOp, intLt_eq', SX.den]
  rw [← h]
 omit hk in
theorem gtrT {ρ : Valn} {kd : IntKind} {a b : SX} {x y : Int} (ha : @SX.den ρ a = .I x) (hb : @SX.den ρ b = .I y) {r : Bool} (h : decide (y < x) = r) : @SX.den ρ (.bin .gtr kd a b) = @SX.den ρ (.bit r) := by
  rw [cmpD ha hb]
  simp only [opD, intOp, intLt_eq', SX.den]
  rw [← h]
 omit hk in
theorem leqT {ρ : Valn} {kd : IntKind} {a b : SX} {x y : Int} (ha : @SX.den ρ a = .I x) (hb : @SX.den ρ b = .I y) {r : Bool} (h : decide (x ≤ y) = r) : @SX.den ρ (.bin .leq kd a b) = @SX.den ρ (.bit r) := by
  rw [cmpD ha hb]
  simp only [opD, intOp, intLe_eq', SX.den]
  rw [← h]
theorem facts_X1 (h : L ≤ k) : @AllDen (rho L x ls k) factsX1 :=
  ⟨lssT (hvi L x ls k hk) (hvn L x ls k) (by simp; omega), trivial⟩

theorem facts_X2 (h : k < L) (h2 : 50 ≤ k) : @AllDen (rho L x ls k) factsX2 :=
  ⟨lssT (hvi L x ls k hk) (hvn L x ls k) (by simp; omega), lssT (hvi L x ls k hk) (y := 50) rfl (by simp; omega), trivial⟩

theorem hmx : @SX.den (rho L x ls k) (.mx true (.num 0) (.mx false vx (.num 2147483647))) = @SX.den (rho L x ls k) vm := by
  rw [hvm L x ls k]
  rfl

theorem hi32 : @SX.den (rho L x ls k) (.conv .i64 (.conv .i32 vm)) = @SX.den (rho L x ls k) vm := by
  show D.I (wrapK .i64 (wrapK .i32 (@SX.den (rho L x ls k) vm).int)) = _
  rw [hvm L x ls k]
  show D.I (wrapK .i64 (wrapK .i32 (max 0 (min x 2147483647)))) = _
  have h1 : wrapK .i32 (max 0 (min x 2147483647)) = max 0 (min x 2147483647) := by
    rw [wrapK_eq']
    simp only [IntKind.wrap, IntKind.bits, IntKind.signed]
    simp
    omega
  rw [h1, wrap_i64 (by omega) (by omega)]

theorem facts_L (h : k < L) (h2 : k < 50) (h3 : 2048 < (ls k).length) : @AllDen (rho L x ls k) factsL :=
  ⟨lssT (hvi L x ls k hk) (hvn L x ls k) (by simp; omega), lssT (hvi L x ls k hk) (y := 50) rfl (by simp; omega), leqT (x := 0) rfl (hvi L x ls k hk) (by simp), hmx L x ls k hk,
    gtrT (hL L x ls k hk) (y := 2048) rfl (by simp; omega), lssT (hvm L x ls k) (y := 0) rfl (by simp; omega), hi32 L x ls k hk, trivial⟩

 omit hk in
theorem w64 {n : Int} (h0 : 0 ≤ n) (h1 : n < 18446744073709551616) : wrapK .u64 n = n := by
  rw [wrapK_eq']
  simp only [IntKind.wrap, IntKind.bits, IntKind.signed]
  simp
  omega

theorem hcL (h : (ls k).length ≤ 2048) : @SX.den (rho L x ls k) (.conv .u64 eL) = .I (ls k).length := by
  show D.I (wrapK .u64 (@SX.den (rho L x ls k) eL).int) = _
  rw [hL L x ls k hk]
  show D.I (wrapK .u64 ((ls k).length : Int)) = _
  rw [w64 (by omega) (by omega)]

 omit hk in
theorem hcm : @SX.den (rho L x ls k) (.conv .u64 vm) = .I (max 0 (min x 2147483647)) := by
  show D.I (wrapK .u64 (@SX.den (rho L x ls k) vm).int) = _
  rw [hvm L x ls k]
  show D.I (wrapK .u64 (max 0 (min x 2147483647))) = _
  rw [w64 (by omega) (by omega)]

 omit hk in
theorem hbase (j : Nat) : @SX.den (rho L x ls k) (base j) = .I (Int.ofNat ((3 * j + 2) * 4294967296 + 64)) := rfl

theorem hadr (h : (ls k).length ≤ 2048) (j : Nat) (hj : j ≤ 50) : @SX.den (rho L x ls k) (adr j) = .I (Int.ofNat ((3 * j + 2) * 4294967296 + 64 + (ls k).length)) := by
  show opD .add .u64 (Int.ofNat ((3 * j + 2) * 4294967296 + 64)) (@SX.den (rho L x ls k) (.conv .u64 eL)).int = _
  rw [hcL L x ls k hk h]
  show D.I (wrapK .u64 (Int.ofNat ((3 * j + 2) * 4294967296 + 64) + ((ls k).length : Int))) = _
  rw [w64 (by simp only [Int.ofNat_eq_natCast]; omega) (by simp only [Int.ofNat_eq_natCast]; omega)]
  simp only [Int.ofNat_eq_natCast]
  congr 1

theorem factWin (h : (ls k).length ≤ 2048) : @SX.den (rho L x ls k) (.win (.over (.rep room) (.num 64) eS) (.num 64) eL) = @SX.den (rho L x ls k) eS := by
  show D.L ((((List.replicate (@SX.den (rho L x ls k) room).int.toNat (0 : Int)).take 64 ++ (@SX.den (rho L x ls k) eS).list ++ (List.replicate (@SX.den (rho L x ls k) room).int.toNat (0 : Int)).drop (64 + (@SX.den (rho L x ls k) eS).list.length)).drop 64).take (@SX.den (rho L x ls k) eL).int.toNat) = _
  rw [hroom L x ls k hk h, hS L x ls k hk, hL L x ls k hk]
  simp only [D.int, D.list]
  have h1 : ((List.replicate ((64 : Int) + ((ls k).length : Int)).toNat (0 : Int)).take 64).length = 64 := by simp; omega
  rw [List.append_assoc, List.drop_append_of_le_length (by omega), List.drop_eq_nil_of_le (by omega), List.nil_append]
  rw [show (((ls k).length : Int)).toNat = ((ls k).map (wrapK .u8)).length by simp, List.take_left]

theorem facts_N (h : k < L) (h2 : k < 50) (h3 : (ls k).length ≤ 2048) (j : Nat) (hj : j ≤ 50) : @AllDen (rho L x ls k) (factsN j) := by
  have a1 := hvi L x ls k hk
  have a2 := hvn L x ls k
  have a3 := hvm L x ls k
  have a4 := hL L x ls k hk
  have a5 := hroom L x ls k hk h3
  have a6 := hcL L x ls k hk h3
  have a7 := hcm L x ls k
  have a8 := hadr L x ls k hk h3 j hj
  refine ⟨lssT a1 a2 (by simp; omega), lssT a1 (y := 50) rfl (by simp; omega), leqT (x := 0) rfl a1 (by simp), hmx L x ls k hk,
    gtrT a4 (y := 2048) rfl (by simp; omega), lssT a3 (y := 0) rfl (by simp; omega), hi32 L x ls k hk,
    lssT a5 (y := 1) rfl (by simp; omega), gtrT a5 (y := 1048576) rfl (by simp; omega), leqT (x := 0) rfl a5 (by simp; omega), leqT a5 (y := 1000000000) rfl (by simp; omega), gtrT a4 (y := 1048576) rfl (by simp; omega),
    ?_, leqT (x := 64) rfl a5 (by rw [decide_eq_true_eq]; omega), ?_, ?_, ?_, leqT a6 (y := 1048576) rfl (by simp; omega), ?_, lssT a4 (y := 0) rfl (by simp), ?_, ?_, factWin L x ls k hk h3, trivial⟩
  · rw [cmpD a5 a4]
    show D.I (wrapK .i64 ((64 + ((ls k).length : Int)) - ((ls k).length : Int))) = D.I 64
    rw [wrap_i64 (by omega) (by omega)]; congr 1; omega
  · rw [cmpD a5 (y := 64) rfl, a4]
    show D.I (wrapK .i64 ((64 + ((ls k).length : Int)) - 64)) = _
    rw [wrap_i64 (by omega) (by omega)]; congr 1; omega
  · rw [@rdT_den (rho L x ls k) (adr j) ((3 * j + 2) * 4294967296 + 64 + (ls k).length) (by rw [a8]; rfl) 8 (by omega), a8]
    rw [Nat.mod_eq_of_lt]
    show _ < 18446744073709551616
    omega
  · rw [cmpD a8 (hbase L x ls k j), a6]
    show D.I (wrapK .u64 (Int.ofNat ((3 * j + 2) * 4294967296 + 64 + (ls k).length) - Int.ofNat ((3 * j + 2) * 4294967296 + 64))) = _
    rw [w64 (by simp only [Int.ofNat_eq_natCast]; omega) (by simp only [Int.ofNat_eq_natCast]; omega)]
    simp only [Int.ofNat_eq_natCast]; congr 1; omega
  · show D.I (wrapK .i64 (@SX.den (rho L x ls k) (.conv .u64 eL)).int) = _
    rw [a6, a4]
    show D.I (wrapK .i64 ((ls k).length : Int)) = _
    rw [wrap_i64 (by omega) (by omega)]
  · rw [@rdT_den (rho L x ls k) (.conv .u64 vm) (max 0 (min x 2147483647)).toNat (by rw [a7]; show max 0 (min x 2147483647) = _; simp only [Int.ofNat_eq_natCast]; omega) 4 (by omega), a7]
    rw [Nat.mod_eq_of_lt (by show _ < 4294967296; omega)]
    congr 1
    simp only [Int.ofNat_eq_natCast]; omega
  · show D.I (wrapK .i64 (@SX.den (rho L x ls k) (.conv .u64 vm)).int) = _
    rw [a7, a3]
    show D.I (wrapK .i64 (max 0 (min x 2147483647))) = _
    rw [wrap_i64 (by omega) (by omega)]
end
end Go.Bx.HP
