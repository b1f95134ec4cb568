/- Facts about terms: small tools. -/
import Derived.Test.YtmiebhjpdmokoaaGreatDoorBx27
set_option linter.all false
namespace Go.Bx
open Go.RowKit

def AllDen [Valn] : List (SX × SX) → Prop
  | [] => True
  | (a, b) :: l => a.den = b.den ∧ AllDen l

theorem AllDen.mem [Valn] : ∀ {l : List (SX × SX)}, AllDen l → ∀ a b, (a, b) ∈ l → a.den = b.den
  | [], _, a, b, h => by simp at h
  | (x, y) :: l, ⟨h1, h2⟩, a, b, h => by
    rcases List.mem_cons.1 h with e | h
    · cases e; exact h1
    · exact h2.mem a b h

theorem AllDen.append [Valn] : ∀ {l m : List (SX × SX)}, AllDen l → AllDen m → AllDen (l ++ m)
  | [], _, _, h => h
  | (_, _) :: _, _, ⟨h1, h2⟩, h => ⟨h1, h2.append h⟩

abbrev anyVal : Valn := ⟨fun _ => 0, fun _ => false, fun _ => [], fun _ d => d⟩
theorem wrapK_is (k : IntKind) (n : Int) : wrapK k n = k.wrap n := @wrapK_eq anyVal k n
theorem intLt_is (a b : Int) : intLt a b = decide (a < b) := @intLt_eq anyVal a b
theorem intLe_is (a b : Int) : intLe a b = decide (a ≤ b) := @intLe_eq anyVal a b
theorem intBeq_is (a b : Int) : intBeq a b = (a == b) := @intBeq_eq anyVal a b

theorem wrapI64 {n : Int} (h0 : -9223372036854775808 ≤ n) (h1 : n < 9223372036854775808) : wrapK .i64 n = n := by
  rw [wrapK_is]
  simp only [IntKind.wrap, IntKind.bits, IntKind.signed]
  simp
  omega
theorem wrapU64 {n : Int} (h0 : 0 ≤ n) (h1 : n < 18446744073709551616) : wrapK .u64 n = n := by
  rw [wrapK_is]
  simp only [IntKind.wrap, IntKind.bits, IntKind.signed]
  simp
  omega
theorem wrapU8 (n : Int) : wrapK .u8 n = n % 256 := by
  rw [wrapK_is]
  simp [IntKind.wrap, IntKind.bits, IntKind.signed]
theorem wrapU64' (n : Int) : wrapK .u64 n = n % 18446744073709551616 := by
  rw [wrapK_is]
  simp [IntKind.wrap, IntKind.bits, IntKind.signed]

section
variable {ρ : Valn}
theorem binDen {op : BinOp} {kd : IntKind} {a b : SX} {x y : Int} (ha : @SX.den ρ a = .I x) (hb : @SX.den ρ b = .I y) : @SX.den ρ (.bin op kd a b) = opD op kd x y := by
  show opD op kd (@SX.den ρ a).int (@SX.den ρ b).int = _
  rw [ha, hb]; rfl
theorem lssDen {kd : IntKind} {a b : SX} {x y : Int} (ha : @SX.den ρ a = .I x) (hb : @SX.den ρ b = .I y) {r : Bool} (h : decide (x < y) = r) : @SX.den ρ (.bin .lss kd a b) = @SX.den ρ (.bit r) := by
  rw [binDen ha hb]
  simp only [opD, intOp, intLt_is, SX.den]
  rw [← h]
theorem gtrDen {kd : IntKind} {a b : SX} {x y : Int} (ha : @SX.den ρ a = .I x) (hb : @SX.den ρ b = .I y) {r : Bool} (h : decide (y < x) = r) : @SX.den ρ (.bin .gtr kd a b) = @SX.den ρ (.bit r) := by
  rw [binDen ha hb]
  simp only [opD, intOp, intLt_is, SX.den]
  rw [← h]
theorem leqDen {kd : IntKind} {a b : SX} {x y : Int} (ha : @SX.den ρ a = .I x) (hb : @SX.den ρ b = .I y) {r : Bool} (h : decide (x ≤ y) = r) : @SX.den ρ (.bin .leq kd a b) = @SX.den ρ (.bit r) := by
  rw [binDen ha hb]
  simp only [opD, intOp, intLe_is, SX.den]
  rw [← h]
theorem geqDen {kd : IntKind} {a b : SX} {x y : Int} (ha : @SX.den ρ a = .I x) (hb : @SX.den ρ b = .I y) {r : Bool} (h : decide (y ≤ x) = r) : @SX.den ρ (.bin .geq kd a b) = @SX.den ρ (.bit r) := by
  rw [binDen ha hb]
  simp only [opD, intOp, intLe_is, SX.den]
  rw [← h]
theorem eqlDen {kd : IntKind} {a b : SX} {x y : Int} (ha : @SX.den ρ a = .I x) (hb : @SX.den ρ b = .I y) {r : Bool} (h : decide (x = y) = r) : @SX.den ρ (.bin .eql kd a b) = @SX.den ρ (.bit r) := by
  rw [binDen ha hb]
  simp only [opD, intOp, intBeq_is, SX.den]
  rw [← h]
  congr 1
theorem addDen {a b : SX} {x y : Int} (ha : @SX.den ρ a = .I x) (hb : @SX.den ρ b = .I y) (h0 : -9223372036854775808 ≤ x + y) (h1 : x + y < 9223372036854775808) : @SX.den ρ (.bin .add .i64 a b) = .I (x + y) := by
  rw [binDen ha hb]
  show D.I (wrapK .i64 (x + y)) = _
  rw [wrapI64 h0 h1]
theorem mulDen {a b : SX} {x y : Int} (ha : @SX.den ρ a = .I x) (hb : @SX.den ρ b = .I y) (h0 : -9223372036854775808 ≤ x * y) (h1 : x * y < 9223372036854775808) : @SX.den ρ (.bin .mul .i64 a b) = .I (x * y) := by
  rw [binDen ha hb]
  show D.I (wrapK .i64 (x * y)) = _
  rw [wrapI64 h0 h1]
end

theorem movesNone (ρ : Valn) : Moves ρ ρ [] := ⟨fun i e he => by simp [lookS] at he, fun _ _ => rfl, rfl, rfl, rfl⟩
end Go.Bx
