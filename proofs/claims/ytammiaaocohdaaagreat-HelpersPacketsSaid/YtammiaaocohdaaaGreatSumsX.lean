/- The sums of two registers on the first processor: what is known of the terms. Definitions. -/
import Derived.Test.YtammiaaocohdaaaGreatBx22
set_option linter.all false
namespace Go.Bx

def vx (i : Nat) : SX := .var .u64 i

/-- Byte i of a number, and the number of its bytes. -/
def byteX (x : SX) (i : Nat) : SX := .conv .u8 (.bin .shr .u64 x (.num (8 * i)))
def orX (x : SX) : Nat → SX
  | 0 => .num 0
  | i + 1 => .bin .or .u64 (orX x i) (.bin .shl .u64 (.conv .u64 (byteX x i)) (.num (8 * i)))

def zeroX (b : Bool) : List (SX × SX) := [(.bin .eql .u64 (vx 1) (.num 0), .bit b), (.bin .leq .u64 (vx 1) (.num 0), .bit b), (.bin .geq .u64 (.num 0) (vx 1), .bit b)]
def factsX : List (SX × SX) := [(orX (vx 0) 8, vx 0), (orX (vx 1) 8, vx 1)]
end Go.Bx
