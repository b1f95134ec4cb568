/- The sums of two registers on the second processor: what is known of the terms. Definitions. -/
import Derived.Test.YtammiaaocohdaaaGreatSumsX
set_option linter.all false
namespace Go.Bx
def partA (r k : Nat) : SX := match k with | 0 => vx r | _ => .bin .shr .u64 (vx r) (.num (16 * k))
def chunkA (r k : Nat) : SX := .conv .i64 (.bin .and .u64 (partA r k) (.num 65535))
def highA (k : Nat) : Nat := match k with | 0 => 1684 | _ => 1940
def baseA (r k : Nat) : Int := (match k with | 0 => 3531603968 | _ => 4068474880) + r
def wordA (r k : Nat) : SX := .bin .or .i64 (.bin .or .i64 (.num (baseA r k)) (.bin .shl .i64 (chunkA r k) (.num 5))) (.num (k * 2097152))
def byteA (w : SX) (i : Nat) : SX := .conv .i64 (.conv .u8 (match i with | 0 => w | _ => .bin .shr .i64 w (.num (8 * i))))
def topA (k : Nat) : Int := match k with | 0 => 210 | _ => 242
def readA (w : SX) (k : Nat) : SX := .bin .or .i64 (.bin .or .i64 (.bin .or .i64 (byteA w 0) (.bin .shl .i64 (byteA w 1) (.num 8))) (.bin .shl .i64 (byteA w 2) (.num 16))) (.num (topA k * 16777216))
def shrA (w : SX) (n : Int) : SX := .bin .shr .i64 w (.num n)
def andA (w : SX) (n : Int) : SX := .bin .and .i64 w (.num n)
def factsC (r k : Nat) : List (SX × SX) :=
  let c := chunkA r k
  let w := wordA r k
  [(.bin .lss .i64 c (.num 0), .bit false), (.bin .gtr .i64 c (.num 65535), .bit false), (.bin .lss .i64 w (.num 0), .bit false),
   (readA w k, w), (shrA w 32, .num 0), (andA w 31, .num r), (shrA w 24, .num (topA k)), (andA (shrA w 21) 3, .num k), (andA (shrA w 5) 65535, c)]
def movA (r : Nat) : Nat → SX
  | 0 => .bin .shl .u64 (.conv .u64 (chunkA r 0)) (.num 0)
  | k + 1 => .bin .or .u64 (.bin .andNot .u64 (movA r k) (.num (65535 * 2 ^ (16 * (k + 1))))) (.bin .shl .u64 (.conv .u64 (chunkA r (k + 1))) (.num (16 * (k + 1))))
def factsM : List (SX × SX) := [(movA 0 3, vx 0), (movA 1 3, vx 1), (.bin .rem .u64 (vx 1) (.num 64), .bin .and .u64 (vx 1) (.num 63)), (.bin .shl .u64 (vx 0) (.num 0), vx 0), (.bin .shr .i64 (.conv .i64 (vx 0)) (.num 0), .conv .i64 (vx 0))]
def factsA : List (SX × SX) := ([0, 1].flatMap fun r => [0, 1, 2, 3].flatMap fun k => factsC r k) ++ factsM
def by64 : SX := .bin .and .u64 (vx 1) (.num 63)
def sx (i : Nat) : SX := .conv .i64 (vx i)
def quoS : SX := .conv .u64 (.bin .quo .i64 (sx 0) (sx 1))
def negS : SX := .conv .u64 (.bin .sub .i64 (.num 0) (sx 0))
/-- What the operations make. -/
def sumA : Nat → SX
  | 3 => .bin .add .u64 (vx 0) (vx 1)
  | 4 => .bin .sub .u64 (vx 0) (vx 1)
  | 5 => .bin .and .u64 (vx 0) (vx 1)
  | 6 => .bin .or .u64 (vx 0) (vx 1)
  | 7 => .bin .xor .u64 (vx 0) (vx 1)
  | 8 => .bin .mul .u64 (vx 0) (vx 1)
  | 10 => .bin .quo .u64 (vx 0) (vx 1)
  | 11 => quoS
  | 12 => .bin .shl .u64 (vx 0) by64
  | 13 => .bin .shr .u64 (vx 0) by64
  | 14 => .conv .u64 (.bin .shr .i64 (sx 0) by64)
  | _ => negS
def plus0 (e : SX) : SX × SX := (.bin .add .u64 e (.num 0), e)
def isZero (b : Bool) : List (SX × SX) := [(.bin .eql .u64 (vx 1) (.num 0), .bit b)]
def minus1 (b : Bool) : List (SX × SX) := [(.bin .eql .i64 (sx 1) (.num (-1)), .bit b), (.bin .eql .i64 (sx 1) (.num 0), .bit false)]
end Go.Bx
