/- Two functions that lay numbers as bytes: the templates of their loops. -/
import Derived.Test.YtmiebhjpdmokoaaGreatDoorBx28
set_option linter.all false
namespace Go.Bx.Lay
open Go.Bx

def vn : SX := .len (.lvar .i64 0)
def vt : SX := .ofk .u8 (.ap 6 (.num 0))
def vc : SX := .ap 7 (.num 0)
def vi : SX := .var .i64 0
def vi1 : SX := .bin .add .i64 vi (.num 1)
def pre (i : SX) : SX := .ofk .u8 (.ap 5 i)
def cnt (i : SX) : SX := .bin .mul .i64 (.num 4) i
def big : SX := .num 1000000000
def short : SX := .num 4611686018427387903
def T (b : Bool) : SX := .bit b
def le (a b : SX) : SX := .bin .leq .i64 a b
def lt (a b : SX) : SX := .bin .lss .i64 a b

def mkTm (n : Nat) (l : List (Nat × V)) : List V := (List.range n).map fun t => match l.find? (fun p => p.1 == t) with | some p => p.2 | none => .top
def ids (g : Nat) (n : Nat) : List (Nat × Nat) := (List.range (g + n)).map fun i => (i, i)
def arg0 (g : Nat) : O := .buf false .i64 (.lvar .i64 0) vn 1
def attr0 (t : TypeId) : O := .cells [.int .i64 0, .str ⟨⟨[]⟩⟩] t
def args (g : Nat) : List V := [.sym (.i .i64) vc, .xarg g vn 1, .sym .s vt]

/-- The program's. -/
def tplL (g t : Nat) : Tpl := ⟨mkTm 44 [(0, .sym (.i .i64) vc), (2, .sym .s vt), (6, .ptr (g + 1) 0), (7, .osl (g + 2) (cnt vi) 1), (17, .xarg g vn 1), (18, .sym (.i .i64) vn), (19, .sym (.i .i64) vi)],
  [(g, arg0 g), (g + 1, attr0 t), (g + 2, .buf true .u8 (pre vi) (cnt vi) 1)], g + 3⟩
/-- The document's. -/
def tplM (g t : Nat) : Tpl := ⟨mkTm 28 [(0, .sym (.i .i64) vc), (1, .xarg g vn 1), (2, .sym .s vt), (6, .ptr (g + 1) 0), (7, .sym .s (pre vi)), (8, .sym (.i .i64) vi)], [(g, arg0 g), (g + 1, attr0 t)], g + 2⟩
def zero : List (Nat × SX) := [(0, .num 0)]
def next : List (Nat × SX) := [(0, vi1)]
/-- The places anew: the list that grew has a new one. -/
def idsL (g : Nat) : List (Nat × Nat) := (List.range (g + 2)).map (fun i => (i, i)) ++ [(g + 2, g + 4)]

def sumL : SX := .bin .add .i64 (cnt vn) (.len vt)
def el : SX := .item (.lvar .i64 0) vi
def byL (j : Int) : SX := .one .u8 (.conv .u8 (match j with | 0 => el | j => .bin .shr .i64 el (.num j)))
def byM (j : Int) : SX := .one .u8 (.conv .u8 (.bin .shr .u64 (.conv .u64 el) (.num j)))
def four (f : Int → SX) : SX := .cat (f 0) (.cat (f 8) (.cat (f 16) (f 24)))

def factsA : List (SX × SX) := [(le (.num 0) sumL, T true), (le sumL big, T true), (cnt (.num 0), .num 0), (pre (.num 0), .txt [])]
def factsL : List (SX × SX) := [(lt vi vn, T true), (le (.num 0) vi, T true), (.bin .add .i64 (cnt vi) (.num 4), cnt vi1), (le (cnt vi1) big, T true), (.cat (pre vi) (four byL), pre vi1)]
def factsX : List (SX × SX) := [(lt vi vn, T false)]
def factsR : List (SX × SX) := [(le (.len vt) big, T true), (le (.bin .add .i64 (cnt vi) (.len vt)) big, T true), (le (.len vt) short, T true), (le (.len (pre vi)) short, T true)]
def factsM : List (SX × SX) := [(lt vi vn, T true), (le (.num 0) vi, T true), (le (.len (pre vi)) short, T true), (.cat (pre vi) (four byM), pre vi1)]
/-- What they answer. -/
def want (v : V) : Bool := vEq v (.agg [.sym (.i .i64) vc, .sym .s (.cat (pre vi) vt)])
end Go.Bx.Lay
