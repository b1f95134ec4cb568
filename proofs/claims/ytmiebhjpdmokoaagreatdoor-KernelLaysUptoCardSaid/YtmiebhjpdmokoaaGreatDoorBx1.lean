/- The evaluator: a deterministic reading of the model's code on a heap of its own. Definitions only. -/
import Derived.Orders
import Derived.Below
set_option linter.all false
namespace Go.Bx

/-- A binary tree keyed by numbers. -/
inductive T (α : Type) where
  | nil
  | node (l : T α) (v : Option α) (r : T α)

def T.get {α : Type} : T α → Nat → Option α
  | .nil, _ => none
  | .node l v r, n =>
    match n with
    | 0 => v
    | m + 1 =>
      match Nat.beq (m % 2) 0 with
      | true => l.get (m / 2)
      | false => r.get (m / 2)

def T.left {α : Type} : T α → T α | .nil => .nil | .node l _ _ => l
def T.right {α : Type} : T α → T α | .nil => .nil | .node _ _ r => r
def T.val {α : Type} : T α → Option α | .nil => none | .node _ v _ => v

def T.set {α : Type} : Nat → T α → Nat → α → T α
  | 0, t, _, _ => t
  | f + 1, t, n, a =>
    match n with
    | 0 => .node t.left (some a) t.right
    | m + 1 =>
      match Nat.beq (m % 2) 0 with
      | true => .node (T.set f t.left (m / 2) a) t.val t.right
      | false => .node t.left t.val (T.set f t.right (m / 2) a)

def T.ofListFrom {α : Type} : List α → Nat → T α → T α
  | [], _, t => t
  | a :: l, n, t => T.ofListFrom l (n + 1) (t.set 40 n a)

def T.ofList {α : Type} (l : List α) : T α := T.ofListFrom l 0 .nil

/-- Terms for values that are not known: numbers, truths, texts. -/
inductive SX where
  | num (n : Int)
  | bit (b : Bool)
  | txt (s : List UInt8)
  | var (k : IntKind) (i : Nat)
  | bvar (i : Nat)
  | lvar (k : IntKind) (i : Nat)
  | bin (op : BinOp) (k : IntKind) (a b : SX)
  | conv (k : IntKind) (a : SX)
  | cpl (k : IntKind) (a : SX)
  | not (a : SX)
  | ap (f : Nat) (a : SX)
  | pr (a b : SX)
  | cat (a b : SX)
  | len (a : SX)
  | win (a lo n : SX)
  | over (a lo b : SX)
  | rep (n : SX)
  | item (a i : SX)
  | one (k : IntKind) (a : SX)
  | ofk (k : IntKind) (a : SX)
  | mx (big : Bool) (a b : SX)
  | teq (a b : SX)
  deriving Inhabited

/-- The kind of a term. -/
inductive SK where
  | i (k : IntKind)
  | b
  | s
  deriving Inhabited

/-- Abstract values: 'top' is any value. Blocks are numbers of the evaluator's own heap. -/
inductive V where
  | top
  | bool (b : Bool)
  | int (k : IntKind) (n : Int)
  | intNot (k : IntKind) (ex : List Int)
  | str (s : ByteArray)
  | nilp
  | ptr (b o : Nat)
  | nils
  | slice (b o len cap : Nat)
  | oslice (b o len cap sz : Nat)
  | nilm
  | map (r : Nat)
  | func (fn : Fn) (first captured : List V)
  | nilFunc
  | iface (t : TypeId) (v : V)
  | nilIface
  | agg (cs : List V)
  | tuple (vs : List V)
  | sym (t : SK) (e : SX)
  | bstr (l : List V)
  | xsl (b o : Nat) (n : SX)
  | xarg (b : Nat) (n : SX) (sz : Nat)
  | xptr (b : Nat) (i : SX)
  | osl (b : Nat) (n : SX) (sz : Nat)
  deriving Inhabited

inductive O where
  | cells (c : List V) (elem : TypeId)
  | ro (c : List V)
  | map (es : List (V × V × Nat)) (clock : Nat)
  | iter (s : ByteArray) (pos : Nat)
  | coll
  | arr (c : SX)
  | xro (t : SK) (f : Nat)
  | mit (m : Nat)
  | buf (own : Bool) (k : IntKind) (c n : SX) (sz : Nat)
  | dead

structure Hp where
  t : T O
  n : Nat

structure Env where
  P : Program
  G : Nat
  types : T TypeInfo
  funcs : T Func
  rw : List (SX × SX)
  nd : Bool

def Env.of (P : Program) : Env := { P, G := P.globals.size, types := T.ofList P.types.toList, funcs := T.ofList P.funcs.toList, rw := [], nd := false }

def Env.with (E : Env) (rw : List (SX × SX)) : Env := { E with rw }

/-- Within a round of a range over a function: nothing is put off. -/
def Env.inRound (E : Env) : Env := { E with nd := true }

 mutual
def ofVal : Value → V
  | .bool b => .bool b
  | .int k n => .int k n
  | .string s => .str s
  | .pointer none => .nilp
  | .slice none 0 0 => .nils
  | .map none => .nilm
  | .func fn ⟨f⟩ ⟨c⟩ => .func fn (ofVals f) (ofVals c)
  | .nilFunc => .nilFunc
  | .iface t v => .iface t (ofVal v)
  | .nilIface => .nilIface
  | .agg ⟨cs⟩ => .agg (ofVals cs)
  | .tuple ⟨vs⟩ => .tuple (ofVals vs)
  | _ => .top
def ofVals : List Value → List V
  | [] => []
  | v :: l => ofVal v :: ofVals l
end

def undefV : V := .tuple []

def getT (tm : T V) (t : Nat) : V := match tm.get t with | some v => v | none => undefV

def opnd (G : Nat) (tm : T V) : Operand → V
  | .tmp t => getT tm t
  | .const v => ofVal v
  | .func f => .func (.func f) [] []
  | .global g => match Nat.blt g G with | true => .ptr g 0 | false => .top

def Env.info (E : Env) (t : TypeId) : Option TypeInfo := E.types.get t

def Env.und (E : Env) (t : TypeId) : Option TypeDesc :=
  match E.info t with
  | none => none
  | some i =>
    match i.desc with
    | .named _ u => match E.info u with | none => none | some j => some j.desc
    | d => some d

def Env.size (E : Env) (t : TypeId) : Option Nat := match E.info t with | some i => some i.size | none => none
def Env.bytes (E : Env) (t : TypeId) : Option Nat := match E.info t with | some i => some i.bytes | none => none
def Env.zero (E : Env) (t : TypeId) : Option Value := match E.info t with | some i => i.zero | none => none
def Env.isAgg (E : Env) (t : TypeId) : Option Bool :=
  match E.und t with
  | some (.struct _) | some (.array _ _) => some true
  | some _ => some false
  | none => none

def vcells : V → Option (List V)
  | .agg cs => some cs
  | .top => none
  | .tuple _ => none
  | v => some [v]

def zcells (E : Env) (t : TypeId) : Option (List V) :=
  match E.zero t with
  | some (.agg ⟨cs⟩) => some (ofVals cs)
  | some v => some [ofVal v]
  | none => none

def takeN (n : Nat) (l : List V) : Option (List V) :=
  match n, l with
  | 0, _ => some []
  | _ + 1, [] => none
  | n + 1, v :: l => match takeN n l with | some r => some (v :: r) | none => none

def dropN : Nat → List V → List V
  | 0, l => l
  | _ + 1, [] => []
  | n + 1, _ :: l => dropN n l

/-- 'new' laid over 'old' from place o on; none: it does not fit. -/
def overlay : Nat → List V → List V → Option (List V)
  | _, [], old => some old
  | 0, _ :: _, [] => none
  | 0, v :: new, _ :: old => match overlay 0 new old with | some r => some (v :: r) | none => none
  | _ + 1, _ :: _, [] => none
  | o + 1, v :: new, x :: old => match overlay o (v :: new) old with | some r => some (x :: r) | none => none

def cellsAt (h : Hp) (b o n : Nat) : Option (List V) :=
  match h.t.get b with
  | some (.cells c _) => takeN n (dropN o c)
  | some (.ro c) => takeN n (dropN o c)
  | _ => none

def Hp.put (h : Hp) (b : Nat) (o : O) : Hp := { h with t := h.t.set 40 b o }

def Hp.alloc (h : Hp) (o : O) : Option (Nat × Hp) :=
  match Nat.blt h.n 1000000000 with
  | true => some (h.n, { t := h.t.set 40 h.n o, n := h.n + 1 })
  | false => none

def isCell : V → Bool
  | .top | .agg _ | .tuple _ => false
  | _ => true

def allCells : List V → Bool
  | [] => true
  | v :: l => match isCell v with | true => allCells l | false => false

def storeAt (h : Hp) (b o : Nat) (new : List V) : Option Hp :=
  match h.t.get b, allCells new with
  | some (.cells c e), true =>
    match overlay o new c with
    | some c' => some (h.put b (.cells c' e))
    | none => none
  | _, _ => none

def loadAt (E : Env) (h : Hp) (t : TypeId) (b o : Nat) : Option V :=
  match E.isAgg t, E.size t with
  | some true, some n => match cellsAt h b o n with | some l => some (.agg l) | none => none
  | some false, some _ => match cellsAt h b o 1 with | some [v] => some v | _ => none
  | _, _ => none

def part (E : Env) (t : TypeId) (cs : List V) (off : Nat) : Option V :=
  match E.isAgg t, E.size t with
  | some true, some n => match takeN n (dropN off cs) with | some l => some (.agg l) | none => none
  | some false, some _ => match takeN 1 (dropN off cs) with | some [v] => some v | _ => none
  | _, _ => none

def kindBeq (a b : IntKind) : Bool :=
  match a, b with
  | .i8, .i8 | .i16, .i16 | .i32, .i32 | .i64, .i64 | .u8, .u8 | .u16, .u16 | .u32, .u32 | .u64, .u64 => true
  | _, _ => false

def intBeq : Int → Int → Bool
  | .ofNat a, .ofNat b => Nat.beq a b
  | .negSucc a, .negSucc b => Nat.beq a b
  | _, _ => false

def intLe : Int → Int → Bool
  | .ofNat a, .ofNat b => Nat.ble a b
  | .negSucc a, .negSucc b => Nat.ble b a
  | .negSucc _, .ofNat _ => true
  | .ofNat _, .negSucc _ => false

def intLt (a b : Int) : Bool := !(intLe b a)

def wrapK (k : IntKind) (n : Int) : Int :=
  let u (m : Int) : Int := n.emod m
  let s (m h : Int) : Int := match intLt (n.emod m) h with | true => n.emod m | false => Int.sub (n.emod m) m
  match k with
  | .u8 => u 256
  | .u16 => u 65536
  | .u32 => u 4294967296
  | .u64 => u 18446744073709551616
  | .i8 => s 256 128
  | .i16 => s 65536 32768
  | .i32 => s 4294967296 2147483648
  | .i64 => s 18446744073709551616 9223372036854775808

def bytesBeq : List UInt8 → List UInt8 → Bool
  | [], [] => true
  | a :: l, b :: m => match Nat.beq a.toNat b.toNat with | true => bytesBeq l m | false => false
  | _, _ => false

def strBeq (a b : ByteArray) : Bool := bytesBeq a.data.toList b.data.toList

def toBits (k : IntKind) (n : Int) : Nat :=
  (match k with
  | .u8 | .i8 => n.emod 256
  | .u16 | .i16 => n.emod 65536
  | .u32 | .i32 => n.emod 4294967296
  | .u64 | .i64 => n.emod 18446744073709551616).toNat

def fullBits (k : IntKind) : Nat :=
  match k with
  | .u8 | .i8 => 255
  | .u16 | .i16 => 65535
  | .u32 | .i32 => 4294967295
  | .u64 | .i64 => 18446744073709551615

def intOp (op : BinOp) (k : IntKind) (x y : Int) : Option V :=
  match op with
  | .add => some (.int k (wrapK k (x + y)))
  | .sub => some (.int k (wrapK k (x - y)))
  | .mul => some (.int k (wrapK k (x * y)))
  | .quo => match intBeq y 0 with | true => none | false => some (.int k (wrapK k (x.tdiv y)))
  | .rem => match intBeq y 0 with | true => none | false => some (.int k (x.tmod y))
  | .and => some (.int k (wrapK k (Int.ofNat (Nat.land (toBits k x) (toBits k y)))))
  | .or => some (.int k (wrapK k (Int.ofNat (Nat.lor (toBits k x) (toBits k y)))))
  | .xor => some (.int k (wrapK k (Int.ofNat (Nat.xor (toBits k x) (toBits k y)))))
  | .andNot => some (.int k (wrapK k (Int.ofNat (Nat.land (toBits k x) (Nat.sub (fullBits k) (toBits k y))))))
  | .eql => some (.bool (intBeq x y))
  | .neq => some (.bool (!(intBeq x y)))
  | .lss => some (.bool (intLt x y))
  | .leq => some (.bool (intLe x y))
  | .gtr => some (.bool (intLt y x))
  | .geq => some (.bool (intLe y x))
  | _ => none

def bitsOf (k : IntKind) : Nat :=
  match k with | .i8 | .u8 => 8 | .i16 | .u16 => 16 | .i32 | .u32 => 32 | .i64 | .u64 => 64

def minN (a b : Nat) : Nat := match Nat.ble a b with | true => a | false => b

def shiftOp (op : BinOp) (k : IntKind) (x y : Int) : Option V :=
  match y with
  | .negSucc _ => none
  | .ofNat m =>
    let n := minN m (bitsOf k)
    match op with
    | .shl => some (.int k (wrapK k (x * Int.ofNat (2 ^ n))))
    | .shr => some (.int k (x.fdiv (Int.ofNat (2 ^ n))))
    | _ => none

def opBeq : BinOp → BinOp → Bool
  | .add, .add | .sub, .sub | .mul, .mul | .quo, .quo | .rem, .rem | .and, .and | .or, .or | .xor, .xor | .andNot, .andNot | .shl, .shl | .shr, .shr
  | .eql, .eql | .neq, .neq | .lss, .lss | .leq, .leq | .gtr, .gtr | .geq, .geq => true
  | _, _ => false

def SX.beq : SX → SX → Bool
  | .num a, .num b => intBeq a b
  | .bit a, .bit b => match a with | true => b | false => !b
  | .txt a, .txt b => bytesBeq a b
  | .var k a, .var k' b => match Nat.beq a b with | true => kindBeq k k' | false => false
  | .bvar a, .bvar b => Nat.beq a b
  | .lvar k a, .lvar k' b => match Nat.beq a b with | true => kindBeq k k' | false => false
  | .bin op k a b, .bin op' k' a' b' => match opBeq op op' with | true => (match kindBeq k k' with | true => (match SX.beq a a' with | true => SX.beq b b' | false => false) | false => false) | false => false
  | .conv k a, .conv k' a' => match kindBeq k k' with | true => SX.beq a a' | false => false
  | .cpl k a, .cpl k' a' => match kindBeq k k' with | true => SX.beq a a' | false => false
  | .not a, .not a' => SX.beq a a'
  | .ap f a, .ap f' a' => match Nat.beq f f' with | true => SX.beq a a' | false => false
  | .pr a b, .pr a' b' => match SX.beq a a' with | true => SX.beq b b' | false => false
  | .cat a b, .cat a' b' => match SX.beq a a' with | true => SX.beq b b' | false => false
  | .len a, .len a' => SX.beq a a'
  | .win a b c, .win a' b' c' => match SX.beq a a' with | true => (match SX.beq b b' with | true => SX.beq c c' | false => false) | false => false
  | .over a b c, .over a' b' c' => match SX.beq a a' with | true => (match SX.beq b b' with | true => SX.beq c c' | false => false) | false => false
  | .rep a, .rep a' => SX.beq a a'
  | .item a b, .item a' b' => match SX.beq a a' with | true => SX.beq b b' | false => false
  | .one k a, .one k' a' => match kindBeq k k' with | true => SX.beq a a' | false => false
  | .ofk k a, .ofk k' a' => match kindBeq k k' with | true => SX.beq a a' | false => false
  | .mx g a b, .mx g' a' b' => match (match g with | true => g' | false => !g') with | true => (match SX.beq a a' with | true => SX.beq b b' | false => false) | false => false
  | .teq a b, .teq a' b' => match SX.beq a a' with | true => SX.beq b b' | false => false
  | _, _ => false

def lookX (e : SX) : List (SX × SX) → SX
  | [] => e
  | (l, r) :: rs => match SX.beq l e with | true => r | false => lookX e rs

/-- A value of a term, as far as it is known. -/
def mkS (t : SK) (e : SX) : V :=
  match t, e with
  | .i k, .num n => .int k n
  | .b, .bit b => .bool b
  | .s, .txt l => .str ⟨⟨l⟩⟩
  | t, e => .sym t e

def Env.mk' (E : Env) (t : SK) (e : SX) : V := mkS t (lookX e E.rw)

/-- The term of a number. -/
def xInt : V → Option (IntKind × SX)
  | .int k n => some (k, .num n)
  | .sym (.i k) e => some (k, e)
  | _ => none

def unsigned : IntKind → Bool
  | .u8 | .u16 | .u32 | .u64 => true
  | _ => false

/-- Is a term's number in its kind, surely? -/
def inKind (k : IntKind) : SX → Bool
  | .num n => intBeq (wrapK k n) n
  | .var k' _ => kindBeq k' k
  | .conv k' _ => kindBeq k' k
  | .cpl k' _ => kindBeq k' k
  | .bin op k' _ _ =>
    match op with
    | .add | .sub | .mul | .quo | .and | .or | .xor | .andNot | .shl => kindBeq k' k
    | _ => false
  | _ => false

def notNeg (k : IntKind) (e : SX) : Bool := match unsigned k with | true => inKind k e | false => (match e with | .num (.ofNat _) => true | _ => false)

def notZero (E : Env) (k : IntKind) (e : SX) : Bool :=
  match e with
  | .num n => !(intBeq n 0)
  | e => match lookX (.bin .eql k e (.num 0)) E.rw with | .bit false => true | _ => false

def tells : BinOp → Bool
  | .eql | .neq | .lss | .leq | .gtr | .geq => true
  | _ => false

/-- What a term of two terms is. -/
def bin2 (E : Env) (op : BinOp) (k : IntKind) (a b : SX) : Option V :=
  match op with
  | .add | .sub | .mul | .and | .or | .xor | .andNot => some (E.mk' (.i k) (.bin op k a b))
  | .quo | .rem => match notZero E k b with | true => some (E.mk' (.i k) (.bin op k a b)) | false => none
  | .eql | .leq | .geq => match SX.beq a b with | true => some (.bool true) | false => some (E.mk' .b (.bin op k a b))
  | .neq | .lss | .gtr => match SX.beq a b with | true => some (.bool false) | false => some (E.mk' .b (.bin op k a b))
  | _ => none

def binS (E : Env) (op : BinOp) (x y : V) : Option V :=
  match xInt x, xInt y with
  | some (k, a), some (k', b) =>
    match op with
    | .shl | .shr => match notNeg k' b with | true => some (E.mk' (.i k) (.bin op k a b)) | false => none
    | _ => match kindBeq k k' with | true => bin2 E op k a b | false => none
  | _, _ => none

/-- The term of an int. -/
def xI64 : V → Option SX
  | .int .i64 n => some (.num n)
  | .sym (.i .i64) e => some e
  | _ => none

/-- The term of a text. -/
def xTxt : V → Option SX
  | .str s => some (.txt s.data.toList)
  | .sym .s e => some e
  | _ => none

def isTxt : V → Bool
  | .sym .s _ => true
  | _ => false

/-- Is it surely at most that? -/
def leT (E : Env) (a b : SX) : Bool :=
  match SX.beq a b with
  | true => true
  | false =>
    match a, b with
    | .num x, .num y => intLe x y
    | a, b => match lookX (.bin .leq .i64 a b) E.rw with | .bit true => true | _ => false

/-- Is it surely less than that? -/
def ltT (E : Env) (a b : SX) : Bool :=
  match a, b with
  | .num x, .num y => intLt x y
  | a, b => match lookX (.bin .lss .i64 a b) E.rw with | .bit true => true | _ => false

/-- Are the numbers of a list surely bytes? -/
def isBytes : SX → Bool
  | .txt _ => true
  | .lvar k _ => kindBeq k .u8
  | .ofk k _ => kindBeq k .u8
  | .one k _ => kindBeq k .u8
  | .rep _ => true
  | .cat a b => match isBytes a with | true => isBytes b | false => false
  | .win a _ _ => isBytes a
  | .over a _ b => match isBytes a with | true => isBytes b | false => false
  | _ => false

/-- Equality of texts that are not known. -/
def eqX (E : Env) (x y : V) : Option (SX × Bool) :=
  match isTxt x || isTxt y with
  | false => none
  | true =>
    match xTxt x, xTxt y with
    | some a, some b => some (.teq a b, SX.beq a b)
    | _, _ => none

/-- A text as bytes. -/
def xBytes : V → Option (List V)
  | .str s => some (s.data.toList.map fun b => .int .u8 (Int.ofNat b.toNat))
  | .bstr l => some l
  | _ => none

def eqBytes (E : Env) : List V → List V → Option Bool
  | [], [] => some true
  | a :: l, b :: m =>
    match binS E .eql a b with
    | some (.bool true) => eqBytes E l m
    | some (.bool false) => some false
    | _ => none
  | _, _ => some false

def eqS (E : Env) (x y : V) : Option Bool :=
  match xBytes x, xBytes y with
  | some l, some m => match Nat.beq l.length m.length with | true => eqBytes E l m | false => some false
  | _, _ => none

def unS (E : Env) (op : UnOp) (x : V) : Option V :=
  match op, x with
  | .neg, .sym (.i k) e => some (E.mk' (.i k) (.bin .sub k (.num 0) e))
  | .xor, .sym (.i k) e => some (E.mk' (.i k) (.cpl k e))
  | .not, .sym .b e => some (E.mk' .b (.not e))
  | _, _ => none

/-- Cells of bytes as a text's. -/
def byteCells : List V → Bool
  | [] => true
  | .int .u8 n :: l => match intBeq (wrapK .u8 n) n with | true => byteCells l | false => false
  | .sym (.i .u8) e :: l => match inKind .u8 e with | true => byteCells l | false => false
  | _ :: _ => false

/-- Equality; none: not decided here. -/
def eqV (E : Env) : Nat → TypeId → V → V → Option Bool
  | 0, _, _, _ => none
  | d + 1, t, x, y =>
    match E.und t, x, y with
    | some .bool, .bool a, .bool b => some (match a with | true => b | false => !b)
    | some (.int _), .int k a, .int k' b => match kindBeq k k' with | true => some (intBeq a b) | false => none
    | some (.int _), .sym t e, y => match binS E .eql (.sym t e) y with | some (.bool b) => some b | _ => none
    | some (.int _), .int k n, .sym t e => match binS E .eql (.int k n) (.sym t e) with | some (.bool b) => some b | _ => none
    | some .string, .str a, .str b => some (strBeq a b)
    | some .string, .bstr l, y => eqS E (.bstr l) y
    | some .string, .str s, .bstr l => eqS E (.str s) (.bstr l)
    | some .string, .sym .s a, .sym .s b => match SX.beq a b with | true => some true | false => (match lookX (.teq a b) E.rw with | .bit r => some r | _ => none)
    | some (.pointer _), .nilp, .nilp => some true
    | some (.pointer _), .nilp, .ptr _ _ => some false
    | some (.pointer _), .ptr _ _, .nilp => some false
    | some (.interface _), .nilIface, .nilIface => some true
    | some (.interface _), .nilIface, .iface _ _ => some false
    | some (.interface _), .iface _ _, .nilIface => some false
    | some (.slice _), .nils, .nils => some true
    | some (.slice _), .nils, .slice .. => some false
    | some (.slice _), .slice .., .nils => some false
    | some (.slice _), .nils, .oslice .. => some false
    | some (.slice _), .oslice .., .nils => some false
    | some (.map _ _), .nilm, .nilm => some true
    | some (.map _ _), .nilm, .map _ => some false
    | some (.map _ _), .map _, .nilm => some false
    | some (.func _ _ _), .nilFunc, .nilFunc => some true
    | some (.func _ _ _), .nilFunc, .func .. => some false
    | some (.func _ _ _), .func .., .nilFunc => some false
    | some (.struct fs), .agg xs, .agg ys =>
      match E.P.stoodInHeld t with
      | true => none
      | false => eqFields (fun t x y => eqV E d t x y) fs.toList xs ys
    | _, _, _ => none
 where
  eqFields (eq : TypeId → V → V → Option Bool) : List Field → List V → List V → Option Bool
    | [], _, _ => some true
    | f :: fs, xs, ys =>
      match f.name == "_" with
      | true => eqFields eq fs xs ys
      | false =>
        match part E f.type xs f.offset, part E f.type ys f.offset with
        | some a, some b =>
          match eq f.type a b with
          | some true => eqFields eq fs xs ys
          | some false => some false
          | none => none
        | _, _ => none

def guardOk (E : Env) (t : TypeId) (x y : Operand) (a b : V) : Bool :=
  match a, b with
  | .nilIface, .nilIface => (match x with | .const _ => true | _ => false) || (match y with | .const _ => true | _ => false)
  | .agg _, .agg _ => !(E.P.eqGuardType E.P.depth t)
  | .top, _ => false
  | _, .top => false
  | .sym _ _, _ => false
  | _, .sym _ _ => false
  | .bstr _, _ => false
  | _, .bstr _ => false
  | .xsl _ _ _, _ => false
  | _, .xsl _ _ _ => false
  | .xarg _ _ _, _ => false
  | _, .xarg _ _ _ => false
  | .osl _ _ _, _ => false
  | _, .osl _ _ _ => false
  | .xptr _ _, _ => false
  | _, .xptr _ _ => false
  | _, _ => true

def eqDepth : Nat := 10000

def memInt (n : Int) : List Int → Bool
  | [] => false
  | x :: l => match intBeq n x with | true => true | false => memInt n l

/-- Two numbers of one kind of which it is known that they differ. -/
def surelyNe : V → V → Bool
  | .intNot k ex, .int k' n => match kindBeq k k' with | true => memInt n ex | false => false
  | _, _ => false

def binV (E : Env) (op : BinOp) (t : TypeId) (x y : Operand) (a b : V) : Option V :=
  match op, a, b with
  | .shl, .int k a, .int _ b | .shr, .int k a, .int _ b => shiftOp op k a b
  | _, .int k a, .int k' b => match kindBeq k k' with | true => intOp op k a b | false => none
  | .add, .str a, .str b => match Nat.ble (a.size + b.size) 9223372036854775807 with | true => some (.str (a ++ b)) | false => none
  | .eql, .str a, .str b => some (.bool (strBeq a b))
  | .neq, .str a, .str b => some (.bool (!(strBeq a b)))
  | .eql, .intNot k ex, b => match surelyNe (.intNot k ex) b with | true => some (.bool false) | false => none
  | .neq, .intNot k ex, b => match surelyNe (.intNot k ex) b with | true => some (.bool true) | false => none
  | .eql, a, b =>
    match guardOk E t x y a b with
    | true => match eqV E eqDepth t a b with | some r => some (.bool r) | none => none
    | false => none
  | .neq, a, b =>
    match guardOk E t x y a b with
    | true => match eqV E eqDepth t a b with | some r => some (.bool (!r)) | none => none
    | false => none
  | _, _, _ => none

def bytesOfCells : List V → Option (List UInt8)
  | [] => some []
  | .int .u8 n :: l => match bytesOfCells l with | some r => some (UInt8.ofNat n.toNat :: r) | none => none
  | _ :: _ => none

def convQ (E : Env) (src dst : TypeId) (x : V) (h : Hp) : Option V :=
  match E.und src, E.und dst, x with
  | some _, some (.int k), .int _ n => some (.int k (wrapK k n))
  | some .string, some .string, .str s => some (.str s)
  | some (.slice e), some .string, .nils => match E.und e with | some (.int .u8) => some (.str .empty) | _ => none
  | some (.slice e), some .string, .slice b o len _ | some (.slice e), some .string, .oslice b o len _ _ =>
    match E.und e, cellsAt h b o len with
    | some (.int .u8), some cs => match bytesOfCells cs with | some l => some (.str ⟨⟨l⟩⟩) | none => none
    | _, _ => none
  | _, _, _ => none

def natOf : V → Option Nat
  | .int _ (.ofNat n) => some n
  | _ => none

def optNat (ρ : Operand → V) : Option Operand → Option (Option Nat)
  | none => some none
  | some x => match natOf (ρ x) with | some n => some (some n) | none => none

/-- Bounds of a slice expression: low, high, max. -/
def bounds3 (len cap : Nat) (lo hi mx : Option Nat) : Option (Nat × Nat × Nat) :=
  let m := match mx with | some m => m | none => cap
  let h := match hi with | some h => h | none => len
  let l := match lo with | some l => l | none => 0
  match Nat.ble m cap, Nat.ble h m, Nat.ble l h with
  | true, true, true => match mx, hi with | some _, none => none | _, _ => some (l, h, m)
  | _, _, _ => none

def sliceQ (E : Env) (t : TypeId) (x : V) (lo hi mx : Option Nat) : Option V :=
  match E.und t, x with
  | some (.array n e), .ptr b o =>
    match bounds3 n n lo hi none, E.size e, mx with
    | some (l, h, m), some s, none => some (.slice b (match Nat.beq m l with | true => o | false => o + l * s) (h - l) (m - l))
    | _, _, _ => none
  | some .string, .str s =>
    match bounds3 s.size s.size lo hi none, mx with
    | some (l, h, _), none => some (.str ⟨⟨(s.data.toList.drop l).take (h - l)⟩⟩)
    | _, _ => none
  | some (.slice e), .nils =>
    match bounds3 0 0 lo hi mx, E.size e with
    | some _, some _ => some .nils
    | _, _ => none
  | some (.slice e), .slice b o len cap =>
    match bounds3 len cap lo hi mx, E.size e with
    | some (l, h, m), some s => some (.slice b (match Nat.beq m l with | true => o | false => o + l * s) (h - l) (m - l))
    | _, _ => none
  | some (.slice e), .oslice b o len cap sz =>
    match bounds3 len cap lo hi mx, E.size e with
    | some (l, h, m), some s =>
      match Nat.beq s sz, mx, cap with
      | true, some _, 0 => some (.oslice b o 0 0 sz)
      | true, some _, _ + 1 => some (.slice b (match Nat.beq m l with | true => o | false => o + l * s) (h - l) (m - l))
      | true, none, _ => some (.oslice b (o + l * s) (h - l) (m - l) sz)
      | false, _, _ => none
    | _, _ => none
  | _, _ => none

def lenQ (E : Env) (t : TypeId) (x : V) (h : Hp) : Option V :=
  match E.und t, x with
  | some .string, .str s => some (.int .i64 (Int.ofNat s.size))
  | some (.array n _), _ => some (.int .i64 (Int.ofNat n))
  | some (.slice _), .slice _ _ n _ | some (.slice _), .oslice _ _ n _ _ => some (.int .i64 (Int.ofNat n))
  | some (.slice _), .nils => some (.int .i64 0)
  | some (.map _ _), .nilm => some (.int .i64 0)
  | some (.map _ _), .map r => match h.t.get r with | some (.map es _) => some (.int .i64 (Int.ofNat es.length)) | _ => none
  | _, _ => none

def capQ (E : Env) (t : TypeId) (x : V) : Option V :=
  match E.und t, x with
  | some (.array n _), _ => some (.int .i64 (Int.ofNat n))
  | some (.slice _), .slice _ _ _ n => some (.int .i64 (Int.ofNat n))
  | some (.slice _), .nils => some (.int .i64 0)
  | _, _ => none

/-- Equality with a key that is known. -/
def eqK (E : Env) (kt : TypeId) (k k' : V) : Option Bool :=
  match k' with
  | .sym _ _ | .bstr _ => none
  | _ => eqV E eqDepth kt k k'

/-- Keys of maps: of whole numbers and strings; structs of them by equality. -/
def findK (E : Env) (kt : TypeId) (k : V) : List (V × V × Nat) → Nat → Option (Option (Nat × V))
  | [], _ => some none
  | (k', v, _) :: es, i =>
    match eqK E kt k k' with
    | some true => some (some (i, v))
    | some false => findK E kt k es (i + 1)
    | none => none

def keyOk (E : Env) (kt : TypeId) (k : V) : Bool :=
  match E.und kt, k with
  | some (.int _), .int _ _ => true
  | some .string, .str _ => true
  | _, _ => false

def lookFin (E : Env) (kt et : TypeId) (k : V) (ok : Bool) (es : List (V × V × Nat)) : Option V :=
  match findK E kt k es 0 with
  | some (some (_, v)) => some (match ok with | true => .tuple [v, .bool true] | false => v)
  | some none =>
    match E.zero et with
    | some z => some (match ok with | true => .tuple [ofVal z, .bool false] | false => ofVal z)
    | none => none
  | none => none

def lookupQ (E : Env) (t : TypeId) (m k : V) (ok : Bool) (h : Hp) : Option V :=
  match E.und t with
  | some (.map kt et) =>
    match keyOk E kt k with
    | false => none
    | true =>
      match m with
      | .nilm => lookFin E kt et k ok []
      | .map r => match h.t.get r with | some (.map es _) => lookFin E kt et k ok es | _ => none
      | _ => none
  | _ => none

def nthV : List V → Nat → Option V
  | [], _ => none
  | v :: _, 0 => some v
  | _ :: l, n + 1 => nthV l n

def fillV (place : Nat → Option (Nat × Nat)) (cells : List V) : List (Nat × V) → Option (List V)
  | [] => some cells
  | (i, v) :: rest =>
    match place i, vcells v with
    | some (off, size), some cs =>
      match Nat.beq cs.length size, Nat.ble (off + cs.length) cells.length with
      | true, true => match overlay off cs cells with | some c => fillV place c rest | none => none
      | _, _ => none
    | _, _ => none

def fieldPlaces (E : Env) : List Field → Option (List (Nat × Nat))
  | [] => some []
  | f :: fs => match E.size f.type, fieldPlaces E fs with | some s, some r => some ((f.offset, s) :: r) | _, _ => none

def nthP : List (Nat × Nat) → Nat → Option (Nat × Nat)
  | [], _ => none
  | v :: _, 0 => some v
  | _ :: l, n + 1 => nthP l n

def buildQ (E : Env) (t : TypeId) (parts : List (Nat × V)) : Option V :=
  match zcells E t, E.und t with
  | some z, some (.struct fs) =>
    match fieldPlaces E fs.toList with
    | some ps => match fillV (nthP ps) z parts with | some c => some (.agg c) | none => none
    | none => none
  | some z, some (.array _ e) =>
    match E.size e with
    | some s => match fillV (fun i => some (i * s, s)) z parts with | some c => some (.agg c) | none => none
    | none => none
  | _, _ => none

def maxV (big : Bool) : V → V → Option V
  | .int k x, .int k' y =>
    match kindBeq k k' with
    | true => some (.int k (match big with | true => (match intLt x y with | true => y | false => x) | false => (match intLt y x with | true => y | false => x)))
    | false => none
  | _, _ => none

def maxFold (big : Bool) : V → List V → Option V
  | x, [] => some x
  | x, y :: l => match maxV big x y with | some z => maxFold big z l | none => none

def indexAddrQ (E : Env) (t : TypeId) (x i : V) : Option V :=
  match E.und t, natOf i, x with
  | some (.array n e), some i, .ptr b o =>
    match Nat.blt i n, E.size e with
    | true, some s => some (.ptr b (o + i * s))
    | _, _ => none
  | some (.slice e), some i, .slice b o len _ =>
    match Nat.blt i len, E.size e with
    | true, some s => some (.ptr b (o + i * s))
    | _, _ => none
  | some (.slice e), some i, .oslice b o len _ _ =>
    match Nat.blt i len, E.size e with
    | true, some s => some (.ptr b (o + i * s))
    | _, _ => none
  | _, _, _ => none

def indexQ (E : Env) (t : TypeId) (x i : V) : Option V :=
  match E.und t, natOf i, x with
  | some (.array n e), some i, .agg cs =>
    match Nat.blt i n, E.size e with
    | true, some s => part E e cs (i * s)
    | _, _ => none
  | some .string, some i, .str s =>
    match s.data.toList[i]? with
    | some b => some (.int .u8 (Int.ofNat b.toNat))
    | none => none
  | _, _, _ => none

def fieldAddrQ (E : Env) (t : TypeId) (x : V) (f : Nat) : Option V :=
  match E.und t, x with
  | some (.struct fs), .ptr b o =>
    match fs.toList[f]? with
    | some f => match E.size f.type with | some (_ + 1) => some (.ptr b (o + f.offset)) | _ => none
    | none => none
  | _, _ => none

def fieldQ (E : Env) (t : TypeId) (x : V) (f : Nat) : Option V :=
  match E.und t, x with
  | some (.struct fs), .agg cs => match fs.toList[f]? with | some f => part E f.type cs f.offset | none => none
  | _, _ => none

def unV (op : UnOp) (x : V) : Option V :=
  match op, x with
  | .neg, .int k n => some (.int k (wrapK k (0 - n)))
  | .xor, .int k n => some (.int k (wrapK k (Int.ofNat (Nat.sub (fullBits k) (toBits k n)))))
  | .not, .bool b => some (.bool (!b))
  | _, _ => none

def typeAssertQ (E : Env) (x : V) (asserted : TypeId) (ok : Bool) : Option V :=
  match E.und asserted, x with
  | some (.interface _), _ => none
  | some _, .nilIface =>
    match ok, E.zero asserted with
    | true, some z => some (.tuple [ofVal z, .bool false])
    | _, _ => none
  | some _, .iface t v =>
    match Nat.beq t asserted with
    | true => some (match ok with | true => .tuple [v, .bool true] | false => v)
    | false =>
      match ok, E.zero asserted with
      | true, some z => some (.tuple [ofVal z, .bool false])
      | _, _ => none
  | _, _ => none

def mapOpnds (ρ : Operand → V) : List (Nat × Operand) → List (Nat × V)
  | [] => []
  | (i, x) :: l => (i, ρ x) :: mapOpnds ρ l

/-- Operations that only look: the value. -/
def quiet0 (E : Env) (o : Op) (ρ : Operand → V) (h : Hp) : Option V :=
  match o with
  | .move x | .assign x => some (ρ x)
  | .pick c a b => match ρ c with | .bool true => some (ρ a) | .bool false => some (ρ b) | _ => none
  | .build t parts => buildQ E t (mapOpnds ρ parts.toList)
  | .load t a => match ρ a with | .ptr b o => loadAt E h t b o | _ => none
  | .nilCheck x =>
    match ρ x with
    | .ptr b o => some (.ptr b o)
    | .func (.func f) a c => some (.func (.func f) a c)
    | .iface t v => some (.iface t v)
    | .slice b o l c => some (.slice b o l c)
    | .oslice b o l c z => some (.oslice b o l c z)
    | .map r => some (.map r)
    | _ => none
  | .binOp op t x y _ => binV E op t x y (ρ x) (ρ y)
  | .unOp op _ x => unV op (ρ x)
  | .convert src dst x => convQ E src dst (ρ x) h
  | .sliceToArrayPointer arr x =>
    match E.und arr, ρ x with
    | some (.array n _), .slice b o len _ => match Nat.ble n len with | true => some (.ptr b o) | false => none
    | _, _ => none
  | .makeInterface t x => match E.und t, ρ x with | some (.interface _), _ => none | some _, v => some (.iface t v) | none, _ => none
  | .makeFunc fn first captured => some (.func fn (first.toList.map ρ) (captured.toList.map ρ))
  | .slice t x lo hi mx =>
    match optNat ρ lo, optNat ρ hi, optNat ρ mx with
    | some lo, some hi, some mx => sliceQ E t (ρ x) lo hi mx
    | _, _, _ => none
  | .fieldAddr t x f => fieldAddrQ E t (ρ x) f
  | .field t x f => fieldQ E t (ρ x) f
  | .indexAddr t x i => indexAddrQ E t (ρ x) (ρ i)
  | .index t x i => indexQ E t (ρ x) (ρ i)
  | .lookup t m k ok => lookupQ E t (ρ m) (ρ k) ok h
  | .typeAssert x _ asserted ok => typeAssertQ E (ρ x) asserted ok
  | .extract x i => match ρ x with | .tuple vs => nthV vs i | _ => none
  | .call { callee := .builtin .len, args, argTypes } =>
    match args.toList, argTypes.toList with | [x], [t] => lenQ E t (ρ x) h | _, _ => none
  | .call { callee := .builtin .cap, args, argTypes } =>
    match args.toList, argTypes.toList with | [x], [t] => capQ E t (ρ x) | _, _ => none
  | .call { callee := .builtin .max, args, .. } => match args.toList with | x :: l => maxFold true (ρ x) (l.map ρ) | _ => none
  | .call { callee := .builtin .min, args, .. } => match args.toList with | x :: l => maxFold false (ρ x) (l.map ρ) | _ => none
  | _ => none

/-- Cells of one kind as a term of a list. -/
def cellsX (k : IntKind) : List V → Option SX
  | [] => some (.txt [])
  | .int k' n :: l =>
    match kindBeq k k', intBeq (wrapK k n) n, cellsX k l with
    | true, true, some r => some (match r with | .txt [] => .one k (.num n) | r => .cat (.one k (.num n)) r)
    | _, _, _ => none
  | .sym (.i k') e :: l =>
    match kindBeq k k', inKind k e, cellsX k l with
    | true, true, some r => some (match r with | .txt [] => .one k e | r => .cat (.one k e) r)
    | _, _, _ => none
  | _ :: _ => none

/-- A text as a term. -/
def xTxtB : V → Option SX
  | .bstr l => cellsX .u8 l
  | v => xTxt v

def catX (E : Env) (a b : SX) : SX :=
  match a, b with
  | .txt [], b => b
  | a, .txt [] => a
  | a, b => lookX (.cat a b) E.rw

def onesLen : SX → Option Nat
  | .one _ _ => some 1
  | .txt l => some l.length
  | .cat (.one _ _) r => match onesLen r with | some n => some (n + 1) | none => none
  | _ => none

def shortT (E : Env) (a : SX) : Bool :=
  match onesLen a with
  | some n => Nat.ble n 4611686018427387903
  | none => leT E (lookX (.len a) E.rw) (.num 4611686018427387903)

def addS (E : Env) (x y : V) : Option V :=
  match xBytes x, xBytes y with
  | some l, some m => match Nat.ble (l.length + m.length) 9223372036854775807 with | true => some (.bstr (l ++ m)) | false => none
  | _, _ =>
    match xTxtB x, xTxtB y with
    | some a, some b => match shortT E a, shortT E b with | true, true => some (mkS .s (catX E a b)) | _, _ => none
    | _, _ => none

def binS2 (E : Env) (op : BinOp) (x y : V) : Option V :=
  match binS E op x y with
  | some v => some v
  | none =>
    match op with
    | .add => addS E x y
    | .eql => match eqS E x y with | some b => some (.bool b) | none => (match surelyNe y x with | true => some (.bool false) | false => (match eqX E x y with | some (_, true) => some (.bool true) | some (e, false) => some (E.mk' .b e) | none => none))
    | .neq => match eqS E x y with | some b => some (.bool (!b)) | none => (match surelyNe y x with | true => some (.bool true) | false => (match eqX E x y with | some (_, true) => some (.bool false) | some (e, false) => some (E.mk' .b (.not e)) | none => none))
    | _ => none

def convS (E : Env) (src dst : TypeId) (x : V) (h : Hp) : Option V :=
  match E.und src, E.und dst, x with
  | some _, some (.int k), .sym (.i _) e => some (match inKind k e with | true => E.mk' (.i k) e | false => E.mk' (.i k) (.conv k e))
  | some .string, some .string, .bstr l => some (.bstr l)
  | some .string, some .string, .sym .s e => some (.sym .s e)
  | some (.slice e), some .string, .xsl b o n =>
    match E.und e, h.t.get b with
    | some (.int .u8), some (.arr c) => some (E.mk' .s (.win c (.num (Int.ofNat o)) n))
    | _, _ => none
  | some (.slice e), some .string, .osl b n 1 =>
    match E.und e, h.t.get b with
    | some (.int .u8), some (.buf _ .u8 c m 1) => match SX.beq n m with | true => some (E.mk' .s c) | false => none
    | _, _ => none
  | some (.slice e), some .string, .slice b o len _ | some (.slice e), some .string, .oslice b o len _ _ =>
    match E.und e, cellsAt h b o len with
    | some (.int .u8), some cs => match byteCells cs with | true => some (.bstr cs) | false => none
    | _, _ => none
  | _, _, _ => none

def sliceS (E : Env) (t : TypeId) (x : V) (lo hi mx : Option Nat) : Option V :=
  match E.und t, x with
  | some .string, .bstr s =>
    match bounds3 s.length s.length lo hi none, mx with
    | some (l, h, _), none => some (.bstr ((s.drop l).take (h - l)))
    | _, _ => none
  | _, _ => none

def lenS (E : Env) (t : TypeId) (x : V) : Option V :=
  match E.und t, x with
  | some .string, .bstr s => some (.int .i64 (Int.ofNat s.length))
  | some .string, .sym .s e => some (E.mk' (.i .i64) (.len e))
  | some (.slice _), .xsl _ _ n => some (mkS (.i .i64) n)
  | some (.slice _), .xarg _ n _ => some (mkS (.i .i64) n)
  | some (.slice _), .osl _ n _ => some (mkS (.i .i64) n)
  | _, _ => none

def indexS (E : Env) (t : TypeId) (x i : V) : Option V :=
  match E.und t, natOf i, x with
  | some .string, some i, .bstr s => s[i]?
  | _, _, _ => none

/-- A part of bytes of a length that is not known. -/
def sliceX (E : Env) (t : TypeId) (x : V) (lo hi mx : Option SX) : Option V :=
  match E.und t, x with
  | some (.slice e), .xsl b o n =>
    match E.size e, (match lo with | none => some 0 | some (.num (.ofNat l)) => some l | some _ => none) with
    | some 1, some l =>
      match hi, mx with
      | none, some _ => none
      | hi, mx =>
        match SX.beq (mx.getD n) (hi.getD n), leT E (.num (Int.ofNat l)) (hi.getD n), leT E (hi.getD n) n with
        | true, true, true => some (.xsl b (o + l) (match l with | 0 => hi.getD n | _ => lookX (.bin .sub .i64 (hi.getD n) (.num (Int.ofNat l))) E.rw))
        | _, _, _ => none
    | _, _ => none
  | _, _ => none

def optX (ρ : Operand → V) : Option Operand → Option (Option SX)
  | none => some none
  | some x => match xI64 (ρ x) with | some e => some (some e) | none => none

/-- What a place of a list from outside holds. -/
def xe (t : SK) (f : Nat) (i : SX) : SX :=
  match t with
  | .i k => .conv k (.ap f i)
  | .b => .ap f i
  | .s => .ofk .u8 (.ap f i)

/-- Is the place of a cell surely one of the first n rows of sz cells; its number in the row? -/
def rowOk (E : Env) (n : SX) (sz : Nat) (i : SX) : Option Nat :=
  match sz with
  | 0 => none
  | 1 => match ltT E i n with | true => some 0 | false => none
  | sz =>
    match i with
    | .bin .mul .i64 a (.num s) => match intBeq s (Int.ofNat sz), leT E (.num 0) a, ltT E a n, leT E n (.num 1000000000), Nat.ble sz 1000 with | true, true, true, true, true => some 0 | _, _, _, _, _ => none
    | .bin .add .i64 (.bin .mul .i64 a (.num s)) (.num (.ofNat j)) => match intBeq s (Int.ofNat sz), leT E (.num 0) a, ltT E a n, leT E n (.num 1000000000), Nat.ble sz 1000, Nat.blt j sz with | true, true, true, true, true, true => some j | _, _, _, _, _, _ => none
    | _ => none

def offX (i : SX) : Nat → SX
  | 0 => i
  | j + 1 => .bin .add .i64 i (.num (Int.ofNat (j + 1)))

def itemsX (E : Env) (k : IntKind) (c i : SX) : Nat → Nat → List V
  | 0, _ => []
  | m + 1, j => E.mk' (.i k) (.item c (offX i j)) :: itemsX E k c i m (j + 1)

def loadX (E : Env) (h : Hp) (t : TypeId) (x : V) : Option V :=
  match x with
  | .xptr b i =>
    match h.t.get b, E.isAgg t, E.size t with
    | some (.xro sk f), some false, some _ => some (E.mk' sk (xe sk f i))
    | some (.buf _ k c n sz), some false, some _ => match rowOk E n sz i with | some _ => some (E.mk' (.i k) (.item c i)) | none => none
    | some (.buf _ k c n sz), some true, some m => match rowOk E n sz i, Nat.beq m sz, Nat.blt 1 sz with | some 0, true, true => some (.agg (itemsX E k c i m 0)) | _, _, _ => none
    | _, _, _ => none
  | _ => none

/-- Is a term's value a number, by its form? -/
def isI : SX → Bool
  | .num _ | .var _ _ | .conv _ _ | .len _ | .mx _ _ _ => true
  | .bin op _ _ _ => match op with | .add | .sub => true | _ => false
  | _ => false

/-- A list from outside, or of the call's own: its object, its length, its rows' cells. -/
def rowV : V → Option (Nat × SX × Nat)
  | .xarg b n sz => some (b, n, sz)
  | .osl b n sz => some (b, n, sz)
  | _ => none

def scaleX (E : Env) (n : SX) (s : Nat) (i : SX) : Option SX :=
  match s with
  | 0 => none
  | 1 => some i
  | s => match leT E n (.num 1000000000), Nat.ble s 1000 with | true, true => some (.bin .mul .i64 i (.num (Int.ofNat s))) | _, _ => none

def indexAddrX (E : Env) (t : TypeId) (x i : V) : Option V :=
  match E.und t, rowV x, xI64 i with
  | some (.slice e), some (b, n, sz), some i =>
    match E.size e, leT E (.num 0) i, ltT E i n, isI i with
    | some s, true, true, true =>
      match Nat.beq s sz, scaleX E n s i with
      | true, some j => some (.xptr b j)
      | _, _ => none
    | _, _, _, _ => none
  | _, _, _ => none

def maxS (E : Env) (big : Bool) (x y : V) : Option V :=
  match xInt x, xInt y with
  | some (k, a), some (k', b) => match kindBeq k k' with | true => some (E.mk' (.i k) (.mx big a b)) | false => none
  | _, _ => none

def maxFoldS (E : Env) (big : Bool) : V → List V → Option V
  | x, [] => some x
  | x, y :: l => match maxS E big x y with | some z => maxFoldS E big z l | none => none

/-- Likewise, of values that are not known. -/
def quietS (E : Env) (o : Op) (ρ : Operand → V) (h : Hp) : Option V :=
  match o with
  | .binOp op _ x y _ => binS2 E op (ρ x) (ρ y)
  | .unOp op _ x => unS E op (ρ x)
  | .convert src dst x => convS E src dst (ρ x) h
  | .slice t x lo hi mx =>
    match optNat ρ lo, optNat ρ hi, optNat ρ mx with
    | some lo, some hi, some mx => sliceS E t (ρ x) lo hi mx
    | _, _, _ =>
      match optX ρ lo, optX ρ hi, optX ρ mx with
      | some lo, some hi, some mx => sliceX E t (ρ x) lo hi mx
      | _, _, _ => none
  | .load t a => loadX E h t (ρ a)
  | .indexAddr t x i => indexAddrX E t (ρ x) (ρ i)
  | .index t x i => indexS E t (ρ x) (ρ i)
  | .call { callee := .builtin .max, args, .. } => match args.toList with | x :: l => maxFoldS E true (ρ x) (l.map ρ) | _ => none
  | .call { callee := .builtin .min, args, .. } => match args.toList with | x :: l => maxFoldS E false (ρ x) (l.map ρ) | _ => none
  | .call { callee := .builtin .len, args, argTypes } =>
    match args.toList, argTypes.toList with | [x], [t] => lenS E t (ρ x) | _, _ => none
  | _ => none

def quiet (E : Env) (o : Op) (ρ : Operand → V) (h : Hp) : Option V :=
  match quiet0 E o ρ h with
  | some v => some v
  | none => quietS E o ρ h

/-- Is an operation one that only looks (by its form)? -/
def isQuiet (E : Env) : Op → Bool
  | .move _ | .assign _ | .pick .. | .build .. | .load .. | .nilCheck _ | .binOp .. | .unOp .. | .sliceToArrayPointer .. | .makeInterface .. | .makeFunc .. | .slice ..
  | .fieldAddr .. | .field .. | .indexAddr .. | .index .. | .lookup .. | .typeAssert .. | .extract .. => true
  | .convert _ dst _ => match E.und dst with | some (.slice _) => false | _ => true
  | .call { callee := .builtin .len, .. } | .call { callee := .builtin .cap, .. } | .call { callee := .builtin .max, .. } | .call { callee := .builtin .min, .. } => true
  | _ => false

/-- Does a quiet operation look at memory? -/
def looks (E : Env) : Op → Bool
  | .load .. | .lookup .. => true
  | .convert src _ _ => match E.und src with | some (.slice _) => true | _ => false
  | .call { callee := .builtin .len, argTypes, .. } => match argTypes.toList with | [t] => (match E.und t with | some (.map _ _) => true | _ => false) | _ => true
  | _ => false

def replV : Nat → List V → List V
  | 0, _ => []
  | n + 1, z => z ++ replV n z

def firstV (h : Hp) (size n : Nat) : V → Option (List V)
  | .slice b o _ _ | .oslice b o _ _ _ => cellsAt h b o (n * size)
  | .nils => some []
  | .str s => match size with | 1 => some ((s.data.toList.take n).map fun b => .int .u8 (Int.ofNat b.toNat)) | _ => none
  | .bstr l => match size with | 1 => some (l.take n) | _ => none
  | _ => none

def lenV : V → Option Nat
  | .slice _ _ n _ | .oslice _ _ n _ _ => some n
  | .nils => some 0
  | .str s => some s.size
  | .bstr l => some l.length
  | _ => none

def isIntType (E : Env) (t : TypeId) : Option Bool := match E.und t with | some (.int _) => some true | some _ => some false | none => none

def roomOk (bytes need : Nat) : Bool := match Nat.ble ((4 * need + 8192) * bytes) 281474976710656 with | true => Nat.ble need 1000000000000 | false => false

/-- The zero cells of an element, so they are as many as it has. -/
def zcellsN (E : Env) (e : TypeId) (size : Nat) : Option (List V) :=
  match zcells E e with
  | some z => match Nat.beq z.length size with | true => some z | false => none
  | none => none

/-- Cells of a block of the evaluator's own. -/
def ownCells (h : Hp) (b o n : Nat) : Option (List V) :=
  match h.t.get b with
  | some (.cells c _) => takeN n (dropN o c)
  | _ => none

def appendE (E : Env) (sT xT : TypeId) (s x : V) (h : Hp) : Option (V × Hp) :=
  match E.und sT with
  | some (.slice e) =>
    match E.size e, E.bytes e, isIntType E xT, lenV x with
    | some size, some bytes, some false, some n =>
      match firstV h size n x with
      | none => none
      | some new =>
        match s with
        | .nils =>
          match Nat.beq n 0 with
          | true => some (.nils, h)
          | false =>
            match roomOk bytes n, zcellsN E e size with
            | true, some _ => match h.alloc (.cells new e) with | some (b, h') => some (.oslice b 0 n n size, h') | none => none
            | _, _ => none
        | .slice b o len cap =>
          match Nat.ble (len + n) cap with
          | true => match storeAt h b (o + len * size) new with | some h' => some (.slice b o (len + n) cap, h') | none => none
          | false =>
            match cellsAt h b o (len * size), roomOk bytes (len + n), zcellsN E e size with
            | some old, true, some _ => match h.alloc (.cells (old ++ new) e) with | some (b', h') => some (.oslice b' 0 (len + n) (len + n) size, h') | none => none
            | _, _, _ => none
        | .oslice b o len cap sz =>
          match Nat.beq size sz with
          | false => none
          | true =>
          match Nat.ble (len + n) cap with
          | true => match storeAt h b (o + len * size) new with | some h' => some (.oslice b o (len + n) cap sz, h') | none => none
          | false =>
            match ownCells h b o (len * size), roomOk bytes (len + n), allCells new, zcellsN E e size with
            | some old, true, true, some _ =>
                match (h.put b .dead).alloc (.cells (old ++ new) e) with | some (b', h') => some (.oslice b' 0 (len + n) (len + n) size, h') | none => none
            | _, _, _, _ => none
        | _ => none
    | _, _, _, _ => none
  | _ => none

def copyE (E : Env) (dT : TypeId) (d s : V) (h : Hp) : Option (V × Hp) :=
  match E.und dT with
  | some (.slice e) =>
    match E.size e, lenV d, lenV s with
    | some size, some dl, some sl =>
      let n := minN sl dl
      match firstV h size n s, d with
      | some cs, .slice b o _ _ | some cs, .oslice b o _ _ _ => match storeAt h b o cs with | some h' => some (.int .i64 (Int.ofNat n), h') | none => none
      | some _, .nils => some (.int .i64 (Int.ofNat n), h)
      | _, _ => none
    | _, _, _ => none
  | _ => none

def setNth {α : Type} : List α → Nat → α → List α
  | [], _, _ => []
  | _ :: l, 0, a => a :: l
  | x :: l, n + 1, a => x :: setNth l n a

def delNth {α : Type} : List α → Nat → List α
  | [], _ => []
  | _ :: l, 0 => l
  | x :: l, n + 1 => x :: delNth l n

def nthE : List (V × V × Nat) → Nat → Option (V × V × Nat)
  | [], _ => none
  | v :: _, 0 => some v
  | _ :: l, n + 1 => nthE l n

def mapUpdateE (E : Env) (t : TypeId) (m k v : V) (h : Hp) : Option Hp :=
  match E.und t, m with
  | some (.map kt _), .map r =>
    match h.t.get r, keyOk E kt k with
    | some (.map es clock), true =>
      match findK E kt k es 0 with
      | some (some (i, _)) =>
        match nthE es i with
        | some (_, _, born) => some (h.put r (.map (setNth es i (k, v, born)) clock))
        | none => none
      | some none => some (h.put r (.map (es ++ [(k, v, clock)]) (clock + 1)))
      | none => none
    | _, _ => none
  | _, _ => none

def deleteE (E : Env) (t : TypeId) (m k : V) (h : Hp) : Option Hp :=
  match E.und t, m with
  | some (.map kt _), .map r =>
    match h.t.get r, keyOk E kt k with
    | some (.map es clock), true =>
      match findK E kt k es 0 with
      | some (some (i, _)) => some (h.put r (.map (delNth es i) clock))
      | some none => some h
      | none => none
    | _, _ => none
  | _, _ => none

def mapEntryE (E : Env) (t : TypeId) (m k : V) (h : Hp) : Option (V × Hp) :=
  match E.und t, m with
  | some (.map kt et), .map r =>
    match h.t.get r, keyOk E kt k with
    | some (.map es clock), true =>
      match findK E kt k es 0 with
      | some (some (i, v)) =>
        match nthE es i with
        | some (_, _, born) => some (.tuple [v, .int .i64 (Int.ofNat born)], h.put r (.map (setNth es i (k, v, born)) clock))
        | none => none
      | some none =>
        match E.zero et with
        | some z => some (.tuple [ofVal z, .int .i64 (Int.ofNat clock)], h.put r (.map (es ++ [(k, ofVal z, clock)]) (clock + 1)))
        | none => none
      | none => none
    | _, _ => none
  | _, _ => none

def bornAt : List (V × V × Nat) → Nat → Nat → Option (Nat × V)
  | [], _, _ => none
  | (k, _, b) :: es, born, i => match Nat.beq b born with | true => some (i, k) | false => bornAt es born (i + 1)

def entryStoreE (m stamp v : V) (h : Hp) : Option Hp :=
  match m, natOf stamp with
  | .map r, some born =>
    match h.t.get r with
    | some (.map es clock) =>
      match bornAt es born 0 with
      | some (i, k) => some (h.put r (.map (setNth es i (k, v, born)) clock))
      | none => none
    | _ => none
  | _, _ => none

/-- Operations that act, but for calls of functions. -/
def loud (E : Env) (o : Op) (ρ : Operand → V) (h : Hp) : Option (V × Hp) :=
  match o with
  | .alloc t =>
    match zcells E t with
    | some z => match h.alloc (.cells z t) with | some (b, h') => some (.ptr b 0, h') | none => none
    | none => none
  | .box t x =>
    match vcells (ρ x) with
    | some cs => match h.alloc (.cells cs t) with | some (b, h') => some (.ptr b 0, h') | none => none
    | none => none
  | .buildSlice t len parts =>
    match E.und t with
    | some (.slice e) =>
      match E.size e with
      | some size =>
        match zcellsN E e size with
        | some z =>
          match Nat.ble (len * size) 16777216, fillV (fun i => some (i * size, size)) (replV len z) (mapOpnds ρ parts.toList) with
          | true, some cs => match h.alloc (.cells cs e) with | some (b, h') => some (.slice b 0 len len, h') | none => none
          | _, _ => none
        | none => none
      | none => none
    | _ => none
  | .store t a x =>
    match ρ a, vcells (ρ x), E.size t with
    | .ptr b o, some cs, some n =>
      match Nat.beq cs.length n with
      | true => match storeAt h b o cs with | some h' => some (undefV, h') | none => none
      | false => none
    | _, _, _ => none
  | .makeMap _ none => match h.alloc (.map [] 0) with | some (b, h') => some (.map b, h') | none => none
  | .makeMap t (some x) =>
    match E.und t, ρ x with
    | some (.map _ _), .int _ _ => match h.alloc (.map [] 0) with | some (b, h') => some (.map b, h') | none => none
    | _, _ => none
  | .makeSlice t l c =>
    match E.und t, natOf (ρ l), natOf (ρ c) with
    | some (.slice e), some l, some c =>
      match E.size e, E.bytes e with
      | some size, some bytes =>
        match zcellsN E e size with
        | some z =>
          match Nat.ble l c, Nat.ble (bytes * c) 140737488355328, Nat.ble c 1000000000 with
          | true, true, true => match h.alloc (.cells (replV c z) e) with | some (b, h') => some (.slice b 0 l c, h') | none => none
          | _, _, _ => none
        | none => none
      | _, _ => none
    | _, _, _ => none
  | .convert src dst x =>
    match E.und src, E.und dst, ρ x with
    | some _, some (.slice e), .str s =>
      match E.und e with
      | some (.int .u8) =>
        match h.alloc (.cells (s.data.toList.map fun b => .int .u8 (Int.ofNat b.toNat)) e) with
        | some (b, h') => some (.oslice b 0 s.size s.size 1, h')
        | none => none
      | _ => none
    | some _, some (.slice e), .bstr l =>
      match E.und e with
      | some (.int .u8) =>
        match h.alloc (.cells l e) with
        | some (b, h') => some (.oslice b 0 l.length l.length 1, h')
        | none => none
      | _ => none
    | _, _, _ => none
  | .mapUpdate t m k v | .insert t m k v => match mapUpdateE E t (ρ m) (ρ k) (ρ v) h with | some h' => some (undefV, h') | none => none
  | .mapEntry t m k => mapEntryE E t (ρ m) (ρ k) h
  | .entryStore _ m s x => match entryStoreE (ρ m) (ρ s) (ρ x) h with | some h' => some (undefV, h') | none => none
  | .range t x =>
    match E.und t, ρ x with
    | some .string, .str s => match h.alloc (.iter s 0) with | some (b, h') => some (.ptr b 0, h') | none => none
    | _, _ => none
  | .next it true =>
    match ρ it with
    | .ptr r 0 =>
      match h.t.get r with
      | some (.iter s pos) =>
        match Nat.blt pos s.size with
        | true => let d := Utf8.decode s pos; some (.tuple [.bool true, .int .i64 (Int.ofNat pos), .int .i32 d.1], h.put r (.iter s (pos + d.2)))
        | false => some (.tuple [.bool false], h)
      | _ => none
    | _ => none
  | .call { callee := .builtin .append, args, argTypes } =>
    match args.toList, argTypes.toList with | [s, x], [sT, xT] => appendE E sT xT (ρ s) (ρ x) h | _, _ => none
  | .call { callee := .builtin .copy, args, argTypes } =>
    match args.toList, argTypes.toList with | [d, s], [dT, _] => copyE E dT (ρ d) (ρ s) h | _, _ => none
  | .call { callee := .builtin .delete, args, argTypes } =>
    match args.toList, argTypes.toList with | [m, k], [t, _] => (match deleteE E t (ρ m) (ρ k) h with | some h' => some (.tuple [], h') | none => none) | _, _ => none
  | .call { callee := .builtin .clear, args, argTypes } =>
    match args.toList, argTypes.toList with
    | [x], [t] =>
      match E.und t, ρ x with
      | some (.map _ _), .map r => match h.t.get r with | some (.map _ c) => some (.tuple [], h.put r (.map [] c)) | _ => none
      | _, _ => none
    | _, _ => none
  | _ => none

/-- What is appended: its kind, its cells as a term, how many elements. -/
def listX (E : Env) (h : Hp) (sz : Nat) (x : V) : Option (IntKind × SX × SX) :=
  match x with
  | .sym .s e => match Nat.beq sz 1, isBytes e with | true, true => some (.u8, e, lookX (.len e) E.rw) | _, _ => none
  | .osl b n z =>
    match h.t.get b with
    | some (.buf _ k c m z') => match Nat.beq z sz, Nat.beq z' sz, SX.beq n m with | true, true, true => some (k, c, n) | _, _, _ => none
    | _ => none
  | .xarg b n z =>
    match h.t.get b, ltT E (.num 0) n with
    | some (.buf _ k c m z'), true => match Nat.beq z sz, Nat.beq z' sz, SX.beq n m with | true, true, true => some (k, c, n) | _, _, _ => none
    | _, _ => none
  | x =>
    match lenV x with
    | none => none
    | some m =>
      match firstV h sz m x with
      | some (v :: l) =>
        match xInt v with
        | some (k, _) => match cellsX k (v :: l) with | some c => some (k, c, .num (Int.ofNat m)) | none => none
        | none => none
      | _ => none

def emptyX : V → Bool
  | .xarg _ (.num n) _ => intBeq n 0
  | _ => false

def addX (E : Env) (a b : SX) : SX :=
  match a with
  | .num 0 => b
  | a => lookX (.bin .add .i64 a b) E.rw

/-- An append to a list that the call itself made, of a length that is not known. -/
def appendX (E : Env) (sT xT : TypeId) (s x : V) (h : Hp) : Option (V × Hp) :=
  match E.und sT with
  | some (.slice e) =>
    match E.size e, E.bytes e, isIntType E xT with
    | some sz, some by_, some false =>
      match emptyX x, s with
      | true, .nils => some (.nils, h)
      | true, .osl b n z => some (.osl b n z, h)
      | true, _ => none
      | false, s =>
      match listX E h sz x, zcellsN E e sz, Nat.ble by_ 1000 with
      | some (k, m, lm), some _, true =>
        match leT E lm (.num 1000000000) with
        | false => none
        | true =>
          match s with
          | .nils =>
            match ltT E (.num 0) lm, h.alloc (.buf true k m lm sz) with
            | true, some (b', h') => some (.osl b' lm sz, h')
            | _, _ => none
          | .osl b n z =>
            match h.t.get b with
            | some (.buf true k0 c0 n0 z0) =>
              match kindBeq k k0, Nat.beq z sz, Nat.beq z0 sz, SX.beq n n0, leT E (addX E n lm) (.num 1000000000) with
              | true, true, true, true, true =>
                match (h.put b .dead).alloc (.buf true k (catX E c0 m) (addX E n lm) sz) with
                | some (b', h') => some (.osl b' (addX E n lm) sz, h')
                | none => none
              | _, _, _, _, _ => none
            | _ => none
          | _ => none
      | _, _, _ => none
    | _, _, _ => none
  | _ => none

/-- Likewise, of values that are not known. -/
def loudS (E : Env) (o : Op) (ρ : Operand → V) (h : Hp) : Option (V × Hp) :=
  match o with
  | .makeSlice t l c =>
    match E.und t, ρ l, ρ c with
    | some (.slice e), .sym (.i .i64) a, .sym (.i .i64) a' =>
      match E.und e, E.size e, E.bytes e, E.zero e with
      | some (.int .u8), some 1, some 1, some (.int .u8 0) =>
        match SX.beq a a', leT E (.num 0) a, leT E a (.num 1000000000) with
        | true, true, true => match h.alloc (.arr (lookX (.rep a) E.rw)) with | some (b, h') => some (.xsl b 0 a, h') | none => none
        | _, _, _ => none
      | _, _, _, _ => none
    | some (.slice e), .int .i64 0, .sym (.i .i64) a =>
      match E.und e, E.size e, E.bytes e, E.zero e with
      | some (.int k), some 1, some by_, some (.int k' 0) =>
        match kindBeq k k', Nat.ble by_ 1000, leT E (.num 0) a, leT E a (.num 1000000000) with
        | true, true, true, true => match h.alloc (.buf true k (.txt []) (.num 0) 1) with | some (b, h') => some (.osl b (.num 0) 1, h') | none => none
        | _, _, _, _ => none
      | _, _, _, _ => none
    | _, _, _ => none
  | .call { callee := .builtin .append, args, argTypes } =>
    match args.toList, argTypes.toList with | [s, x], [sT, xT] => appendX E sT xT (ρ s) (ρ x) h | _, _ => none
  | .range t x =>
    match E.und t, ρ x with
    | some (.map _ _), .map r =>
      match h.t.get r with
      | some (.map [] _) => match h.alloc (.mit r) with | some (b, h') => some (.ptr b 0, h') | none => none
      | _ => none
    | _, _ => none
  | .next it false =>
    match ρ it with
    | .ptr r 0 =>
      match h.t.get r with
      | some (.mit m) => match h.t.get m with | some (.map [] _) => some (.tuple [.bool false], h) | _ => none
      | _ => none
    | _ => none
  | .call { callee := .builtin .copy, args, argTypes } =>
    match args.toList, argTypes.toList with
    | [d, s], [dT, _] =>
      match E.und dT, ρ d, xTxt (ρ s) with
      | some (.slice e), .xsl b o n, some s =>
        match E.size e, h.t.get b, isBytes s, SX.beq (lookX (.len s) E.rw) n with
        | some 1, some (.arr c), true, true => some (mkS (.i .i64) n, h.put b (.arr (lookX (.over c (.num (Int.ofNat o)) s) E.rw)))
        | _, _, _, _ => none
      | _, _, _ => none
    | _, _ => none
  | _ => none

/-- The method behind an interface value. -/
def methodOf (E : Env) (t : TypeId) (v : V) (name : String) : Option (FuncId × V) :=
  match E.info t with
  | none => none
  | some i =>
    match findM i.methods.toList with
    | none => none
    | some m =>
      match m.path.toList, m.func, E.und t with
      | [], some (f, true), some (.pointer _) => some (f, v)
      | [], some (_, false), some (.pointer _) => none
      | [], some (f, false), some _ => some (f, v)
      | _, _, _ => none
 where
  findM : List Method → Option Method
    | [] => none
    | m :: l => match m.name == name with | true => some m | false => findM l

/-- A call of a Go function: which one, with which arguments. -/
def target (E : Env) (o : Op) (ρ : Operand → V) : Option (FuncId × List V) :=
  match o with
  | .call { callee := .value f, args, .. } =>
    match ρ f with
    | .func (.func k) first captured => some (k, first ++ args.toList.map ρ ++ captured)
    | _ => none
  | .call { callee := .invoke r name, args, .. } =>
    match ρ r with
    | .iface t v => match methodOf E t v name with | some (f, v) => some (f, v :: args.toList.map ρ) | none => none
    | _ => none
  | _ => none

abbrev CallF := FuncId → List V → Hp → Option (V × Hp)

structure St where
  tm : T V
  h : Hp

def putT (n : Nat) (tm : T V) (dst : Option Tmp) (v : V) : Option (T V) :=
  match dst with
  | none => some tm
  | some d => match Nat.blt d n with | true => some (tm.set 40 d v) | false => none

def guardV (ops : List Oper) (tm : T V) (o : Oper) : Option Bool :=
  match o.guard with
  | none => some true
  | some (j, want) =>
    match ops[j]? with
    | none => none
    | some g =>
      match g.dst with
      | none => none
      | some d =>
        match tm.get d with
        | some (.bool b) => some (match want with | true => b | false => !b)
        | some .top => none
        | some (.sym _ _) => none
        | some _ => some false
        | none => some false

/-- What is put off: a call, or what a range over a function has put off (nothing). -/
inductive DE where
  | fn (f : FuncId) (args : List V)
  | coll (b : Nat)

abbrev DL := List DE

/-- A call that is put off. -/
def deferT0 (o : Op) (ρ : Operand → V) : Option (FuncId × List V) :=
  match o with
  | .defer { callee := .value f, args, .. } =>
    match ρ f with
    | .func (.func k) first captured => some (k, first ++ args.toList.map ρ ++ captured)
    | _ => none
  | _ => none

def deferT (E : Env) (o : Op) (ρ : Operand → V) : Option (FuncId × List V) :=
  match E.nd with
  | false => deferT0 o ρ
  | true => none

/-- One operation that is no quiet one. -/
def oneLoud (E : Env) (call : CallF) (o : Oper) (ρ : Operand → V) (h : Hp) (ds : DL) : Option (V × Hp × DL) :=
  match target E o.op ρ with
  | some (f, args) => match call f args h with | some (v, h') => some (v, h', ds) | none => none
  | none =>
    match deferT E o.op ρ with
    | some d => some (undefV, h, .fn d.1 d.2 :: ds)
    | none =>
      match loud E o.op ρ h with
      | some (v, h') => some (v, h', ds)
      | none => match loudS E o.op ρ h with | some (v, h') => some (v, h', ds) | none => none

/-- One operation. -/
def oneOp (E : Env) (call : CallF) (o : Oper) (tm : T V) (h : Hp) (ds : DL) : Option (V × Hp × DL) :=
  match isQuiet E o.op with
  | true => match quiet E o.op (opnd E.G tm) h with | some v => some (v, h, ds) | none => none
  | false => oneLoud E call o (opnd E.G tm) h ds

/-- The operations in the order of the text. -/
def runOps (E : Env) (call : CallF) (n : Nat) (ops : List Oper) : List Oper → T V → Hp → DL → Option (T V × Hp × DL)
  | [], tm, h, ds => some (tm, h, ds)
  | o :: l, tm, h, ds =>
    match guardV ops tm o with
    | some true =>
      match oneOp E call o tm h ds with
      | some (v, h', ds') => match putT n tm o.dst v with | some tm' => runOps E call n ops l tm' h' ds' | none => none
      | none => none
    | some false => match putT n tm o.dst undefV with | some tm' => runOps E call n ops l tm' h ds | none => none
    | none => none

/-- A step as it was in the order of the text: what the places held, the heap, whether it was carried out, its value. -/
structure Tr where
  tm : T V
  h : Hp
  ds : DL
  g : Bool
  v : V

/-- Likewise, and all steps are kept. -/
def bindsAny (e : Edge) : Bool :=
  match e.ground with
  | .textOnly _ | .gcOnly _ => false
  | _ => true

/-- What stands ahead of each operation, as bits. -/
def maskOf (acc : List Nat) : List Edge → Nat
  | [] => 0
  | e :: es => match bindsAny e with | true => Nat.lor (Nat.lor (2 ^ e.on) ((acc[e.on]?).getD 0)) (maskOf acc es) | false => maskOf acc es

def masks : List Oper → List Nat → List Nat
  | [], acc => acc
  | o :: l, acc => masks l (acc ++ [maskOf acc o.after.toList])

def bitAt (m : List Nat) (j i : Nat) : Bool := Nat.testBit ((m[j]?).getD 0) i

/-- The places for which a quiet operation that looks at memory may wait: at which loud ones (their numbers, and the number behind all). -/
def winOf (loudAt : List Nat) (m : List Nat) (i : Nat) : List Nat → List Nat
  | [] => []
  | p :: ps =>
    -- may i stand straight ahead of p? all loud ones ahead of p may stand ahead of i (i is not ahead of them), none from p on must
    match (loudAt.filter fun q => Nat.blt q p).all (fun q => !(bitAt m q i)) && (loudAt.filter fun q => Nat.ble p q).all (fun q => !(bitAt m i q)) with
    | true => p :: winOf loudAt m i ps
    | false => winOf loudAt m i ps


def skBeq : SK → SK → Bool
  | .i a, .i b => kindBeq a b
  | .b, .b => true
  | .s, .s => true
  | _, _ => false

 mutual
def vEq : V → V → Bool
  | .bool a, .bool b => match a with | true => b | false => !b
  | .int k a, .int k' b => match kindBeq k k' with | true => intBeq a b | false => false
  | .str a, .str b => strBeq a b
  | .nilp, .nilp => true
  | .ptr a b, .ptr c d => match Nat.beq a c with | true => Nat.beq b d | false => false
  | .nils, .nils => true
  | .slice a b c d, .slice a' b' c' d' => Nat.beq a a' && Nat.beq b b' && Nat.beq c c' && Nat.beq d d'
  | .oslice a b c d e, .oslice a' b' c' d' e' => Nat.beq a a' && Nat.beq b b' && Nat.beq c c' && Nat.beq d d' && Nat.beq e e'
  | .nilm, .nilm => true
  | .map a, .map b => Nat.beq a b
  | .nilFunc, .nilFunc => true
  | .func (.func a) f c, .func (.func b) f' c' => Nat.beq a b && vEqs f f' && vEqs c c'
  | .iface t v, .iface u w => match Nat.beq t u with | true => vEq v w | false => false
  | .nilIface, .nilIface => true
  | .agg a, .agg b => vEqs a b
  | .tuple a, .tuple b => vEqs a b
  | .sym t a, .sym u b => match skBeq t u with | true => SX.beq a b | false => false
  | .bstr a, .bstr b => vEqs a b
  | .xsl a b c, .xsl a' b' c' => Nat.beq a a' && Nat.beq b b' && SX.beq c c'
  | .xarg a c z, .xarg a' c' z' => Nat.beq a a' && SX.beq c c' && Nat.beq z z'
  | .osl a c z, .osl a' c' z' => Nat.beq a a' && SX.beq c c' && Nat.beq z z'
  | .xptr a c, .xptr a' c' => Nat.beq a a' && SX.beq c c'
  | _, _ => false
def vEqs : List V → List V → Bool
  | [], [] => true
  | a :: l, b :: m => match vEq a b with | true => vEqs l m | false => false
  | _, _ => false
end

/-- A new object that an operation makes: its cells, their type; of a slice its length. -/
def freshOf (E : Env) (op : Op) (ρ : Operand → V) : Option (List V × TypeId × Option Nat) :=
  match op with
  | .alloc t => match zcells E t with | some z => some (z, t, none) | none => none
  | .buildSlice t len parts =>
    match E.und t with
    | some (.slice e) =>
      match E.size e with
      | some size =>
        match zcellsN E e size with
        | some z =>
          match Nat.ble (len * size) 16777216, fillV (fun i => some (i * size, size)) (replV len z) (mapOpnds ρ parts.toList) with
          | true, some cs => some (cs, e, some len)
          | _, _ => none
        | none => none
      | none => none
    | _ => none
  | _ => none

def freshV (b : Nat) : Option Nat → V
  | none => .ptr b 0
  | some len => .slice b 0 len len

def isFresh : Op → Bool
  | .alloc _ => true
  | .buildSlice .. => true
  | _ => false

/-- The names kept for the floats: the first of fx has b, the next b + 1, .. -/
def flAt : List Nat → Nat → Nat → Option Nat
  | [], _, _ => none
  | j :: l, b, i => match Nat.beq j i with | true => some b | false => flAt l (b + 1) i

def floatV (E : Env) (op : Op) (ρ : Operand → V) (h : Hp) (b : Nat) : Option V :=
  match freshOf E op ρ, h.t.get b with
  | some (cs, e, k), some (.cells cs' e') => match vEqs cs cs', Nat.beq e e' with | true, true => some (freshV b k) | _, _ => none
  | _, _ => none

def calmF (E : Env) (fx : List Nat) (i : Nat) (op : Op) : Bool := match flAt fx 0 i with | some _ => true | none => isQuiet E op
def looksF (E : Env) (fx : List Nat) (i : Nat) (op : Op) : Bool := match flAt fx 0 i with | some _ => true | none => looks E op
def quietF (E : Env) (fx : List Nat) (b i : Nat) (op : Op) (ρ : Operand → V) (h : Hp) : Option V :=
  match flAt fx b i with | some id => floatV E op ρ h id | none => quiet E op ρ h

def oneOpF (E : Env) (call : CallF) (fx : List Nat) (b i : Nat) (o : Oper) (tm : T V) (h : Hp) (ds : DL) : Option (V × Hp × DL) :=
  match calmF E fx i o.op with
  | true => match quietF E fx b i o.op (opnd E.G tm) h with | some v => some (v, h, ds) | none => none
  | false => oneLoud E call o (opnd E.G tm) h ds

def traceOps (E : Env) (call : CallF) (n : Nat) (ops : List Oper) (fx : List Nat) (b : Nat) : List Oper → Nat → T V → Hp → DL → Option (List Tr × T V × Hp × DL)
  | [], _, tm, h, ds => some ([], tm, h, ds)
  | o :: l, i, tm, h, ds =>
    match guardV ops tm o with
    | some true =>
      match oneOpF E call fx b i o tm h ds with
      | some (v, h', ds') =>
        match putT n tm o.dst v with
        | some tm' => match traceOps E call n ops fx b l (i + 1) tm' h' ds' with | some (tr, r) => some ({ tm, h, ds, g := true, v } :: tr, r) | none => none
        | none => none
      | none => none
    | some false =>
      match putT n tm o.dst undefV with
      | some tm' => match traceOps E call n ops fx b l (i + 1) tm' h ds with | some (tr, r) => some ({ tm, h, ds, g := false, v := undefV } :: tr, r) | none => none
      | none => none
    | none => none

def heapsAt (tr : List Tr) (last : Hp) (p : Nat) : Hp := match tr[p]? with | some t => t.h | none => last

def idxLoud (E : Env) (fx : List Nat) : List Oper → Nat → List Nat
  | [], _ => []
  | o :: l, i => match calmF E fx i o.op with | true => idxLoud E fx l (i + 1) | false => i :: idxLoud E fx l (i + 1)

/-- The floats of a region: who makes a new object, and isn't ordered with an acting operation ahead of it. -/
def floatsGo (E : Env) (m : List Nat) : List Oper → Nat → List Nat → List Nat
  | [], _, _ => []
  | o :: l, i, ls =>
    match isQuiet E o.op with
    | true => floatsGo E m l (i + 1) ls
    | false =>
      match isFresh o.op && ls.any (fun q => !(bitAt m i q)) with
      | true => i :: floatsGo E m l (i + 1) ls
      | false => floatsGo E m l (i + 1) (i :: ls)

def floatsOf (E : Env) (ops : List Oper) : List Nat := floatsGo E (masks ops []) ops 0 []

/-- What the quiet operations give at once: a guess at the floats' cells, checked where they stand. -/
def preOps (E : Env) : List Oper → T V → Hp → T V
  | [], tm, _ => tm
  | o :: l, tm, h =>
    match isQuiet E o.op, o.dst with
    | true, some d => match quiet E o.op (opnd E.G tm) h with | some v => preOps E l (T.set 40 tm d v) h | none => preOps E l tm h
    | _, _ => preOps E l tm h

def reserve (E : Env) (ops : List Oper) (tm : T V) : List Nat → Hp → Option Hp
  | [], h => some h
  | j :: l, h =>
    match h.alloc (match ops[j]? with | some o => (match freshOf E o.op (opnd E.G tm) with | some (cs, e, _) => .cells cs e | none => .cells [] 0) | none => .cells [] 0) with
    | some (_, h') => reserve E ops tm l h'
    | none => none

/-- Do the looking operations see the same wherever they may stand? -/
def winOk (E : Env) (fx : List Nat) (b : Nat) (tr : List Tr) (last : Hp) (loudAt m : List Nat) (n : Nat) : List Oper → Nat → Bool
  | [], _ => true
  | o :: l, i =>
    match calmF E fx i o.op && looksF E fx i o.op with
    | false => winOk E fx b tr last loudAt m n l (i + 1)
    | true =>
      match tr[i]? with
      | none => false
      | some t =>
        match t.g with
        | false => winOk E fx b tr last loudAt m n l (i + 1)
        | true =>
          match (winOf loudAt m i (loudAt ++ [n])).all (fun p => match quietF E fx b i o.op (opnd E.G t.tm) (heapsAt tr last p) with | some v => vEq v t.v | none => false) with
          | true => winOk E fx b tr last loudAt m n l (i + 1)
          | false => false

def drawOpsF (E : Env) (call : CallF) (n : Nat) (ops : List Oper) (fx : List Nat) (b : Nat) (tm : T V) (h1 : Option Hp) (ds : DL) : Option (T V × Hp × DL) :=
  match h1 with
  | none => none
  | some h =>
    match traceOps E call n ops fx b ops 0 tm h ds with
    | none => none
    | some (tr, tm', h', ds') =>
      match winOk E fx b tr h' (idxLoud E fx ops 0) (masks ops []) ops.length ops 0 with
      | true => some (tm', h', ds')
      | false => none

def drawOps (E : Env) (call : CallF) (n : Nat) (ops : List Oper) (tm : T V) (h : Hp) (ds : DL) : Option (T V × Hp × DL) :=
  drawOpsF E call n ops (floatsOf E ops) h.n tm (match floatsOf E ops with | [] => some h | fx => reserve E ops (preOps E ops tm h) fx h) ds

/-- What must hold of a region that draws its order, whatever it computes: edges lead backward; who writes a place is ordered with all that name it; all loud ones are ordered. -/
def namesOf (ops : List Oper) (o : Oper) : List Tmp :=
  (match o.dst with | some d => [d] | none => []) ++ (o.op.operands.toList.filterMap fun | .tmp t => some t | _ => none) ++
  (match o.guard with | some (g, _) => (match ops[g]? with | some x => (match x.dst with | some d => [d] | none => []) | none => []) | none => [])

def dstFree : Option Tmp → List Tmp → Bool
  | some d, l => !(l.contains d)
  | none, _ => true

def pairOk (E : Env) (fx : List Nat) (ops : List Oper) (m : List Nat) (i j : Nat) (a b : Oper) : Bool :=
  -- i < j
  bitAt m j i || (dstFree a.dst (namesOf ops b) && dstFree b.dst (namesOf ops a) && (calmF E fx i a.op || calmF E fx j b.op))

def pairsOk (E : Env) (fx : List Nat) (ops : List Oper) (m : List Nat) (j : Nat) (b : Oper) : List Oper → Nat → Bool
  | [], _ => true
  | a :: l, i => match Nat.blt i j with | true => pairOk E fx ops m i j a b && pairsOk E fx ops m j b l (i + 1) | false => true

def backOk (o : Oper) (j : Nat) : Bool := o.after.toList.all fun e => !bindsAny e || Nat.blt e.on j
def notSelect : Op → Bool | .select .. => false | _ => true

def regionOk (E : Env) (ops : List Oper) : Bool := go (floatsOf E ops) (masks ops []) ops 0
 where
  go (fx : List Nat) (m : List Nat) : List Oper → Nat → Bool
    | [], _ => true
    | b :: l, j => backOk b j && notSelect b.op && pairsOk E fx ops m j b ops 0 && go fx m l (j + 1)

def codeOk (E : Env) : Code → Bool
  | .region _ ops true => regionOk E ops.toList
  | .seq a b => codeOk E a && codeOk E b
  | .cond _ a b => codeOk E a && codeOk E b
  | .block _ b => codeOk E b
  | .loop b => codeOk E b
  | .scope b => codeOk E b
  | .rangeFunc _ _ a b => codeOk E a && codeOk E b
  | _ => true

inductive Ex where
  | normal
  | exit (id : Nat)
  | ret

/-- A function that hands over, again and again, what a function tells. -/
def iterOf (E : Env) (gf : FuncId) : Option (FuncId × TypeId) :=
  match E.funcs.get gf with
  | some { name := nm, ntmps := 7, results := ⟨[]⟩, body := some (.block b0 (.loop (.seq (.seq (.region _ ⟨[⟨some 3, .move (.tmp 0), _, _, _, none⟩, ⟨some 4, .load t (.tmp 1), _, _, _, none⟩,
      ⟨some 5, .call ⟨.value (.func fetch), ⟨[.tmp 4]⟩, _⟩, _, _, _, none⟩, ⟨some 6, .call ⟨.value (.tmp 3), ⟨[.tmp 5]⟩, _⟩, _, _, _, none⟩]⟩ false) (.cond (.tmp 6) .skip (.exit b1))) (.block _ .skip)))), .. } =>
    match Nat.beq b0 b1, nm != "runtime.NumGoroutine" with | true, true => some (fetch, t) | _, _ => none
  | _ => none

/-- The rounds of a range over such a one. -/
def evRange (E : Env) (call : CallF) (ev : Code → T V → Hp → DL → Option (Ex × T V × Hp × DL)) (n : Nat) (tm : T V) (p : Tmp) (assign body : Code) (fetch : FuncId) (t : TypeId) (b o : Nat) : Nat → Hp → Option (Ex × Hp)
  | 0, _ => none
  | k + 1, h =>
    match loadAt E h t b o with
    | none => none
    | some c =>
      match call fetch [c] h with
      | none => none
      | some (item, h1) =>
        match putT n tm (some p) item with
        | none => none
        | some tm1 =>
          match ev assign tm1 h1 [] with
          | some (.normal, tm2, h2, []) =>
            match ev body tm2 h2 [] with
            | some (.normal, _, h3, []) => evRange E call ev n tm p assign body fetch t b o k h3
            | some (.ret, _, h3, []) => some (.ret, h3)
            | some (.exit id, _, h3, []) => some (.exit id, h3)
            | _ => none
          | _ => none

def evCode (E : Env) (call : CallF) (n : Nat) : Nat → Code → T V → Hp → DL → Option (Ex × T V × Hp × DL)
  | 0, _, _, _, _ => none
  | f + 1, c, tm, h, ds =>
    match c with
    | .skip | .label _ => some (.normal, tm, h, ds)
    | .region _ ops false =>
      match runOps E call n ops.toList ops.toList tm h ds with
      | some (tm', h', ds') => some (.normal, tm', h', ds')
      | none => none
    | .region _ ops true =>
      match drawOps E call n ops.toList tm h ds with
      | some (tm', h', ds') => some (.normal, tm', h', ds')
      | none => none
    | .seq a b =>
      match evCode E call n f a tm h ds with
      | some (.normal, tm', h', ds') => evCode E call n f b tm' h' ds'
      | r => r
    | .cond x a b =>
      match opnd E.G tm x with
      | .bool true => evCode E call n f a tm h ds
      | .bool false => evCode E call n f b tm h ds
      | _ => none
    | .block id b =>
      match evCode E call n f b tm h ds with
      | some (.exit id', tm', h', ds') => match Nat.beq id' id with | true => some (.normal, tm', h', ds') | false => some (.exit id', tm', h', ds')
      | r => r
    | .loop b =>
      match evCode E call n f b tm h ds with
      | some (.normal, tm', h', ds') => evCode E call n f (.loop b) tm' h' ds'
      | r => r
    | .scope b => match E.nd with | false => evCode E call n f b tm h ds | true => none
    | .exit id => some (.exit id, tm, h, ds)
    | .ret => some (.ret, tm, h, ds)
    | .rangeFunc g ps assign body =>
      match E.nd, opnd E.G tm g, ps.toList with
      | false, .func (.func gf) [] [.ptr b o], [p] =>
        match iterOf E gf with
        | none => none
        | some (fetch, t) =>
          match h.alloc .coll with
          | none => none
          | some (d, h0) =>
            match evRange E call (fun c tm h ds => evCode E.inRound call n f c tm h ds) n tm p assign body fetch t b o f h0 with
            | none => none
            | some (ex, h1) => match h1.t.get d with | some .coll => some (ex, tm, h1, .coll d :: ds) | _ => none
      | _, _, _ => none
    | _ => none

def resV (E : Env) (tm : T V) (h : Hp) : List ResultVar → Option (List V)
  | [] => some []
  | .tmp t :: l =>
    match resV E tm h l with
    | some r => some (getT tm t :: r)
    | none => none
  | .cell a t :: l =>
    match getT tm a, resV E tm h l with
    | .ptr b o, some r => match loadAt E h t b o with | some v => some (v :: r) | none => none
    | _, _ => none

def startT : List V → Nat → T V → T V
  | [], _, t => t
  | v :: l, n, t => startT l (n + 1) (t.set 40 n v)

def results1 : Option (List V) → Option V
  | some [v] => some v
  | some l => some (.tuple l)
  | none => none

/-- A body, carried out. -/
def evBody (E : Env) (call : CallF) (cf : Nat) (fn : Func) (args : List V) (h : Hp) : Option (T V × Hp × DL) :=
  match fn.body with
  | none => none
  | some c =>
    match Nat.ble args.length fn.ntmps, Nat.ble fn.ntmps 1000000 with
    | true, true =>
      match evCode E call fn.ntmps cf c (startT args 0 .nil) h [] with
      | some (.normal, tm, h', ds) | some (.ret, tm, h', ds) => some (tm, h', ds)
      | _ => none
    | _, _ => none

/-- Calls that were put off, the newest first. -/
def evDefers (dcall : FuncId → List V → Hp → Option Hp) : DL → Hp → Option Hp
  | [], h => some h
  | .fn f args :: ds, h => match dcall f args h with | some h' => evDefers dcall ds h' | none => none
  | .coll b :: ds, h => match h.t.get b with | some .coll => evDefers dcall ds (h.put b .dead) | _ => none

/-- A put-off call. -/
def evD (E : Env) (call : CallF) (dorc : FuncId → List V → Hp → Option Hp) (cf : Nat) (f : FuncId) (args : List V) (h : Hp) : Option Hp :=
  match dorc f args h with
  | some h' => some h'
  | none =>
    match E.funcs.get f with
    | none => none
    | some fn =>
      match evBody E call cf fn args h with
      | some (tm, h', []) => match results1 (resV E tm h' fn.results.toList) with | some _ => some h' | none => none
      | _ => none

def evFn (E : Env) (orc : CallF) (dorc : FuncId → List V → Hp → Option Hp) (cf : Nat) : Nat → FuncId → List V → Hp → Option (V × Hp)
  | 0, _, _, _ => none
  | d + 1, f, args, h =>
    match orc f args h with
    | some r => some r
    | none =>
      match E.funcs.get f with
      | none => none
      | some fn =>
        match evBody E (evFn E orc dorc cf d) cf fn args h with
        | some (tm, h', ds) =>
          match evDefers (evD E (evFn E orc dorc cf d) dorc cf) ds h' with
          | some h2 => match results1 (resV E tm h2 fn.results.toList) with | some v => some (v, h2) | none => none
          | none => none
        | none => none

/-- What must hold of the whole program, whatever it computes. -/
def progOk (E : Env) : List Func → Bool
  | [] => true
  | fn :: l => (match fn.body with | some c => codeOk E c | none => true) && (fn.name != "runtime.NumGoroutine") && progOk E l

end Go.Bx
