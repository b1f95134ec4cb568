/- HelpersPackets: the templates of its loop and the facts of a round. -/
import Derived.Test.YtammiaaocohdaaaGreatBx26
set_option linter.all false
namespace Go.Bx.HP
open Go.Bx

def vi : SX := .var .i64 0
def vn : SX := .len (.ap 1 (.num 0))
def vx : SX := .ap 2 (.num 0)
def vm : SX := .var .i64 3
def eS : SX := .ofk .u8 (.ap 0 vi)
def eL : SX := .len eS
def room : SX := .bin .add .i64 (.num 64) eL

/-- The state at the head of a round: j packets have been there. -/
def heapAt (j : Nat) : List (Nat × O) :=
  [(0, .xro .s 0), (1, .map [] (3 * j)), (2, .cells [.map 1, .int .i64 (Int.ofNat (3 * j)), .int .i64 0] 0),
   (3, .cells [.ptr 2 0, .nils, .int .u64 0, .nils, .int .i64 0, .bool false, .top, .top, .top, .int .i64 0, .nils] 0)]
def tmAt (i : V) : List V := [.xarg 0 vn, .sym (.i .i64) vx, .top, .top, .bool false, .ptr 2 0, .ptr 3 0, i] ++ List.replicate 120 .top
def tplAt (j : Nat) : Tpl := ⟨tmAt (.sym (.i .i64) vi), heapAt j, 4⟩
/-- .. behind the loop. -/
def heapX : List (Nat × O) :=
  [(3, .cells [.top, .nils, .int .u64 0, .nils, .int .i64 0, .bool false, .top, .top, .top, .int .i64 0, .nils] 0)]
def tplX : Tpl := ⟨[.top, .top, .top, .top, .bool false, .top, .ptr 3 0] ++ List.replicate 121 .top, heapX, 4⟩
def ids : List (Nat × Nat) := [(0, 0), (1, 1), (2, 2), (3, 3)]
def next : List (Nat × SX) := [(0, .bin .add .i64 vi (.num 1))]

def inside : List (SX × SX) := [(.bin .lss .i64 vi vn, .bit true), (.bin .lss .i64 vi (.num 50), .bit true), (.bin .leq .i64 (.num 0) vi, .bit true), (.mx true (.num 0) (.mx false vx (.num 2147483647)), vm)]
def factsL : List (SX × SX) := inside ++ [(.bin .gtr .i64 eL (.num 2048), .bit true), (.bin .lss .i64 vm (.num 0), .bit false), (.conv .i64 (.conv .i32 vm), vm)]
def factsX1 : List (SX × SX) := [(.bin .lss .i64 vi vn, .bit false)]
def factsX2 : List (SX × SX) := [(.bin .lss .i64 vi vn, .bit true), (.bin .lss .i64 vi (.num 50), .bit false)]

def base (j : Nat) : SX := .num (Int.ofNat ((3 * j + 2) * 4294967296 + 64))
def adr (j : Nat) : SX := .bin .add .u64 (base j) (.conv .u64 eL)
def factsN (j : Nat) : List (SX × SX) := inside ++ [
  (.bin .gtr .i64 eL (.num 2048), .bit false),
  (.bin .lss .i64 vm (.num 0), .bit false),
  (.conv .i64 (.conv .i32 vm), vm),
  (.bin .lss .i64 room (.num 1), .bit false),
  (.bin .gtr .i64 room (.num 1048576), .bit false),
  (.bin .leq .i64 (.num 0) room, .bit true),
  (.bin .leq .i64 room (.num 1000000000), .bit true),
  (.bin .gtr .i64 eL (.num 1048576), .bit false),
  (.bin .sub .i64 room eL, .num 64),
  (.bin .leq .i64 (.num 64) room, .bit true),
  (.bin .sub .i64 room (.num 64), eL),
  (rdT (adr j) 8, adr j),
  (.bin .sub .u64 (adr j) (base j), .conv .u64 eL),
  (.bin .leq .u64 (.conv .u64 eL) (.num 1048576), .bit true),
  (.conv .i64 (.conv .u64 eL), eL),
  (.bin .lss .i64 eL (.num 0), .bit false),
  (rdT (.conv .u64 vm) 4, .conv .u64 vm),
  (.conv .i64 (.conv .u64 vm), vm),
  (.win (.over (.rep room) (.num 64) eS) (.num 64) eL, eS)]

def cL : Code → Code | .seq a _ => a | .block _ b => b | .loop b => b | c => c
def cR : Code → Code | .seq _ b => b | c => c

/-- The code ahead of the loop, the loop's body, and what is behind. -/
def ahead (c : Code) : Code := .seq (cL c) (.seq (cL (cR c)) (.seq (cL (cR (cR c))) (.seq (cL (cR (cR (cR c)))) (cL (cL (cR (cR (cR (cR c)))))))))
def loopOf (c : Code) : Code := cL (cR (cL (cR (cR (cR (cR c))))))
def body (c : Code) : Code := cL (loopOf c)
def behind (c : Code) : Code := cR (cR (cR (cR (cR c))))
end Go.Bx.HP
