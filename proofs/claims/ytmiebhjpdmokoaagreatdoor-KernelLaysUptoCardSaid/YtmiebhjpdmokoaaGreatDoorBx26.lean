/- Numbers written as bytes and read back. -/
import Derived.Test.YtmiebhjpdmokoaaGreatDoorBx25
set_option linter.all false
namespace Go.Bx
open Go.RowKit

def byteT (a : SX) (k : Nat) : SX := .conv .u8 (.bin .shr .u64 a (.num (Int.ofNat (8 * k))))
def rdT (a : SX) : Nat → SX
  | 0 => .num 0
  | k + 1 => .bin .or .u64 (rdT a k) (.bin .shl .u64 (.conv .u64 (byteT a k)) (.num (Int.ofNat (8 * k))))

theorem lor_part (A k : Nat) : (A % 2 ^ (8 * k)) ||| ((A / 2 ^ (8 * k) % 256) * 2 ^ (8 * k)) = A % 2 ^ (8 * (k + 1)) := by
  rw [Nat.or_comm, Nat.mul_comm (A / 2 ^ (8 * k) % 256), ← Nat.two_pow_add_eq_or_of_lt (Nat.mod_lt _ (Nat.two_pow_pos _))]
  rw [show 8 * (k + 1) = 8 * k + 8 by omega, Nat.pow_add, Nat.mod_mul]
  rw [Nat.add_comm]

section
variable [Valn]

theorem wrap64_nat {n : Nat} (h : n < 2 ^ 64) : wrapK .u64 (Int.ofNat n) = Int.ofNat n := by
  rw [wrapK_eq]
  simp only [IntKind.wrap, IntKind.bits, IntKind.signed, Int.ofNat_eq_natCast]
  have : (2 : Nat) ^ 64 = 18446744073709551616 := by decide
  simp
  omega

theorem bits64_nat {n : Nat} (h : n < 2 ^ 64) : toBits .u64 (Int.ofNat n) = n := by
  have h64 : (2 : Nat) ^ 64 = 18446744073709551616 := by decide
  show ((Int.ofNat n) % 18446744073709551616).toNat = n
  simp only [Int.ofNat_eq_natCast]
  omega

theorem byteT_den {a : SX} {A : Nat} (ha : a.den.int = Int.ofNat A) {k : Nat} (hk : k < 8) : (byteT a k).den = .I (Int.ofNat (A / 2 ^ (8 * k) % 256)) := by
  have hm : minN (8 * k) (bitsOf .u64) = 8 * k := by
    rw [minN_eq]; show Nat.min (8 * k) 64 = 8 * k
    exact Nat.min_eq_left (by omega)
  show D.I (wrapK .u8 (opD .shr .u64 a.den.int (Int.ofNat (8 * k))).int) = _
  rw [ha]
  simp only [opD, shiftOp, hm, D.int]
  rw [wrapK_eq]
  have hf : (Int.ofNat A).fdiv (Int.ofNat (2 ^ (8 * k))) = Int.ofNat (A / 2 ^ (8 * k)) := by
    exact (Int.fdiv_eq_ediv_of_nonneg (Int.ofNat A) (Int.natCast_nonneg (2 ^ (8 * k)))).trans rfl
  rw [hf]
  simp only [IntKind.wrap, IntKind.bits, IntKind.signed, Int.ofNat_eq_natCast]
  simp

theorem rdT_den {a : SX} {A : Nat} (ha : a.den.int = Int.ofNat A) : ∀ n, n ≤ 8 → (rdT a n).den = .I (Int.ofNat (A % 2 ^ (8 * n)))
  | 0, _ => by simp [rdT, SX.den, Nat.mod_one]
  | k + 1, h => by
    have ih := rdT_den ha k (by omega)
    have hb := byteT_den ha (k := k) (by omega)
    have h64 : (2 : Nat) ^ 64 = 18446744073709551616 := by decide
    have h256 : A / 2 ^ (8 * k) % 256 < 256 := Nat.mod_lt _ (by decide)
    have hp : 2 ^ (8 * (k + 1)) ≤ 2 ^ 64 := Nat.pow_le_pow_right (by decide) (by omega)
    have hpk : 2 ^ (8 * k) * 256 = 2 ^ (8 * (k + 1)) := by rw [show 8 * (k + 1) = 8 * k + 8 by omega, Nat.pow_add]
    have hlow : A % 2 ^ (8 * k) < 2 ^ 64 := by
      have h1 := Nat.mod_lt A (Nat.two_pow_pos (8 * k))
      have h2 := Nat.two_pow_pos (8 * k)
      omega
    have hhi : A / 2 ^ (8 * k) % 256 * 2 ^ (8 * k) < 2 ^ 64 := by
      have h2 := Nat.two_pow_pos (8 * k)
      have h3 : A / 2 ^ (8 * k) % 256 * 2 ^ (8 * k) < 256 * 2 ^ (8 * k) := Nat.mul_lt_mul_of_pos_right h256 h2
      omega
    have hm : minN (8 * k) (bitsOf .u64) = 8 * k := by
      rw [minN_eq]; show Nat.min (8 * k) 64 = 8 * k
      exact Nat.min_eq_left (by omega)
    have hsh : (SX.bin .shl .u64 (.conv .u64 (byteT a k)) (.num (Int.ofNat (8 * k)))).den = .I (Int.ofNat (A / 2 ^ (8 * k) % 256 * 2 ^ (8 * k))) := by
      show opD .shl .u64 (wrapK .u64 (byteT a k).den.int) (Int.ofNat (8 * k)) = _
      rw [hb]
      simp only [D.int]
      rw [wrap64_nat (by omega)]
      simp only [opD, shiftOp, hm]
      rw [show Int.ofNat (A / 2 ^ (8 * k) % 256) * Int.ofNat (2 ^ (8 * k)) = Int.ofNat (A / 2 ^ (8 * k) % 256 * 2 ^ (8 * k)) from rfl, wrap64_nat hhi]
    show opD .or .u64 (rdT a k).den.int (SX.bin .shl .u64 (.conv .u64 (byteT a k)) (.num (Int.ofNat (8 * k)))).den.int = _
    rw [ih, hsh]
    simp only [D.int, opD, intOp]
    rw [bits64_nat hlow, bits64_nat hhi]
    have := lor_part A k
    rw [show Nat.lor (A % 2 ^ (8 * k)) (A / 2 ^ (8 * k) % 256 * 2 ^ (8 * k)) = A % 2 ^ (8 * (k + 1)) from this]
    rw [wrap64_nat (by have := Nat.mod_lt A (Nat.two_pow_pos (8 * (k + 1))); omega)]
end
end Go.Bx
