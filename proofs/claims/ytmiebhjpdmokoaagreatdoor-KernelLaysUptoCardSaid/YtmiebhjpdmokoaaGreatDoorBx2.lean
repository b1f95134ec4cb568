/- The relation between the evaluator's state and the model's world, and its first laws. -/
import Derived.Test.YtmiebhjpdmokoaaGreatDoorBx1
import Derived.Laws.IdiomCopy
set_option linter.all false
namespace Go.Bx
open Go.RowKit

theorem T.get_zero {α : Type} (t : T α) : t.get 0 = t.val := by cases t <;> rfl
theorem T.get_succ {α : Type} (t : T α) (m : Nat) : t.get (m + 1) = if m % 2 = 0 then t.left.get (m / 2) else t.right.get (m / 2) := by
  cases t with
  | nil => simp [T.get, T.left, T.right]
  | node l v r =>
    simp only [T.get, T.left, T.right]
    cases h : Nat.beq (m % 2) 0 with
    | true => have := Nat.eq_of_beq_eq_true h; simp [this]
    | false => have := Nat.ne_of_beq_eq_false h; simp [this]

theorem T.get_set {α : Type} (a : α) : ∀ (f : Nat) (t : T α) (n m : Nat), n + 1 < 2 ^ f → (T.set f t n a).get m = if m = n then some a else t.get m
  | 0, t, n, m, h => by simp at h
  | f + 1, t, 0, m, h => by
    simp only [T.set]
    cases m with
    | zero => simp [T.get]
    | succ m => rw [T.get_succ, T.get_succ]; simp [T.left, T.right]
  | f + 1, t, n + 1, m, h => by
    have hf : n / 2 + 1 < 2 ^ f := by rw [Nat.pow_succ] at h; omega
    have ih := T.get_set a f
    simp only [T.set]
    cases hb : Nat.beq (n % 2) 0 with
    | true =>
      have hb := Nat.eq_of_beq_eq_true hb
      cases m with
      | zero => simp [T.get, T.get_zero]
      | succ m =>
        simp only [T.get_succ t, T.get_succ (T.node _ _ _), T.left, T.right, ih _ _ _ hf]
        by_cases e : m = n
        · subst e; simp [hb]
        · simp only [Nat.add_right_cancel_iff, e, if_false]
          by_cases hm : m % 2 = 0
          · simp only [hm, if_true]; rw [if_neg (by omega)]
          · simp only [hm, if_false]
    | false =>
      have hb := Nat.ne_of_beq_eq_false hb
      cases m with
      | zero => simp [T.get, T.get_zero]
      | succ m =>
        simp only [T.get_succ t, T.get_succ (T.node _ _ _), T.left, T.right, ih _ _ _ hf]
        by_cases e : m = n
        · subst e; simp [hb]
        · simp only [Nat.add_right_cancel_iff, e, if_false]
          by_cases hm : m % 2 = 0
          · simp only [hm, if_true]
          · simp only [hm, if_false]; rw [if_neg (by omega)]

/-- What terms say. -/
inductive D where
  | I (n : Int)
  | B (b : Bool)
  | L (l : List Int)
  | P (a b : D)

def D.int : D → Int | .I n => n | _ => 0
def D.bool : D → Bool | .B b => b | _ => false
def D.list : D → List Int | .L s => s | _ => []
/-- Numbers as bytes. -/
def asBytes (l : List Int) : List UInt8 := l.map fun n => UInt8.ofNat n.toNat

class Valn where
  int : Nat → Int
  bool : Nat → Bool
  list : Nat → List Int
  fn : Nat → D → D

/-- An operation of numbers, everywhere defined. -/
def opD (op : BinOp) (k : IntKind) (x y : Int) : D :=
  match op with
  | .shl | .shr => match shiftOp op k x y with | some (.int _ n) => .I n | _ => .I 0
  | _ => match intOp op k x y with | some (.int _ n) => .I n | some (.bool b) => .B b | _ => .I 0

variable [Valn]

def SX.den : SX → D
  | .num n => .I n
  | .bit b => .B b
  | .txt s => .L (s.map fun b => Int.ofNat b.toNat)
  | .var k i => .I (wrapK k (Valn.int i))
  | .bvar i => .B (Valn.bool i)
  | .lvar k i => .L ((Valn.list i).map (wrapK k))
  | .bin op k a b => opD op k a.den.int b.den.int
  | .conv k a => .I (wrapK k a.den.int)
  | .cpl k a => .I (wrapK k (Int.ofNat (Nat.sub (fullBits k) (toBits k a.den.int))))
  | .not a => .B (!a.den.bool)
  | .ap f a => Valn.fn f a.den
  | .pr a b => .P a.den b.den
  | .cat a b => .L (a.den.list ++ b.den.list)
  | .len a => .I a.den.list.length
  | .win a lo n => .L ((a.den.list.drop lo.den.int.toNat).take n.den.int.toNat)
  | .over a lo b => .L (a.den.list.take lo.den.int.toNat ++ b.den.list ++ a.den.list.drop (lo.den.int.toNat + b.den.list.length))
  | .rep n => .L (List.replicate n.den.int.toNat 0)
  | .item a i => .I ((a.den.list[i.den.int.toNat]?).getD 0)
  | .one k a => .L [wrapK k a.den.int]
  | .ofk k a => .L (a.den.list.map (wrapK k))
  | .mx big a b => .I (match big with | true => max a.den.int b.den.int | false => min a.den.int b.den.int)
  | .teq a b => .B (asBytes a.den.list == asBytes b.den.list)

def tv (t : SK) (d : D) : Value :=
  match t with
  | .i k => .int k d.int
  | .b => .bool d.bool
  | .s => .string ⟨⟨asBytes d.list⟩⟩

structure Ren where
  block : Nat
  base : Nat
  size : Nat

abbrev Sub := Nat → Option Ren

def Sub.le (σ τ : Sub) : Prop := ∀ i r, σ i = some r → τ i = some r
theorem Sub.le_refl (σ : Sub) : σ.le σ := fun _ _ h => h
theorem Sub.le_trans {a b c : Sub} (h : a.le b) (k : b.le c) : a.le c := fun i r e => k i r (h i r e)

 mutual
def VRel (σ : Sub) : V → Value → Prop
  | .top, _ => True
  | .bool b, v => v = .bool b
  | .int k n, v => v = .int k n
  | .intNot k ex, v => ∃ n, v = .int k n ∧ n ∉ ex
  | .str s, v => v = .string s
  | .nilp, v => v = .pointer none
  | .ptr b o, v => ∃ r, σ b = some r ∧ v = .pointer (some ⟨r.block, r.base + o, none⟩)
  | .nils, v => v = .slice none 0 0
  | .slice b o len cap, v => ∃ r, σ b = some r ∧ v = .slice (some ⟨r.block, r.base + o, none⟩) len cap
  | .oslice b o len cap sz, v => ∃ r a cap', σ b = some r ∧ v = .slice (some ⟨r.block, a, none⟩) len cap' ∧ len ≤ cap ∧ cap ≤ cap' ∧ (cap = 0 ∨ a = r.base + o) ∧ a + cap' * sz ≤ r.size ∧ r.base ≤ a
  | .nilm, v => v = .map none
  | .map b, v => ∃ r, σ b = some r ∧ v = .map (some r.block)
  | .func fn f c, v => ∃ f' c' : Array Value, v = .func fn f' c' ∧ VRels σ f f'.toList ∧ VRels σ c c'.toList
  | .nilFunc, v => v = .nilFunc
  | .iface t x, v => ∃ x', v = .iface t x' ∧ VRel σ x x'
  | .nilIface, v => v = .nilIface
  | .agg cs, v => ∃ cs' : Array Value, v = .agg cs' ∧ VRels σ cs cs'.toList
  | .tuple cs, v => ∃ cs' : Array Value, v = .tuple cs' ∧ VRels σ cs cs'.toList
  | .sym t e, v => v = tv t e.den
  | .bstr l, v => ∃ s : ByteArray, v = .string s ∧ VRels σ l (s.data.toList.map fun b => .int .u8 (Int.ofNat b.toNat))
  | .xsl b o n, v => ∃ r a L, σ b = some r ∧ n.den.int = Int.ofNat L ∧ L ≤ 1000000000 ∧ v = .slice (some ⟨r.block, a, none⟩) L L ∧ (L = 0 ∨ a = r.base + o) ∧ a + L ≤ r.size ∧ r.base ≤ a
  | .xarg b n sz, v => ∃ L, n.den.int = Int.ofNat L ∧ ((∃ p cap, v = .slice p 0 cap ∧ L = 0) ∨ ∃ r cap, σ b = some r ∧ v = .slice (some ⟨r.block, r.base, none⟩) L cap ∧ r.base + L * sz ≤ r.size)
  | .osl b n sz, v => ∃ r a L cap, σ b = some r ∧ n.den.int = Int.ofNat L ∧ L ≤ 1000000000 ∧ v = .slice (some ⟨r.block, a, none⟩) L cap ∧ L ≤ cap ∧ (L = 0 ∨ a = r.base) ∧ a + cap * sz ≤ r.size ∧ r.base ≤ a
  | .xptr b i, v => ∃ r n, σ b = some r ∧ i.den = .I (Int.ofNat n) ∧ v = .pointer (some ⟨r.block, r.base + n, none⟩) ∧ r.base + n < r.size
def VRels (σ : Sub) : List V → List Value → Prop
  | [], l => l = []
  | v :: vs, l => ∃ v' l', l = v' :: l' ∧ VRel σ v v' ∧ VRels σ vs l'
end

 mutual
theorem VRel.mono {σ τ : Sub} (h : σ.le τ) : ∀ (v : V) (v' : Value), VRel σ v v' → VRel τ v v'
  | .top, _, _ => by simp [VRel]
  | .bool _, _, k | .int _ _, _, k | .str _, _, k | .nilp, _, k | .nils, _, k | .nilm, _, k | .nilFunc, _, k | .nilIface, _, k => by simpa [VRel] using k
  | .intNot _ _, _, k => by simpa only [VRel] using k
  | .sym _ _, _, k => by simpa only [VRel] using k
  | .bstr l, _, k => by simp only [VRel] at k ⊢; obtain ⟨s, e, a⟩ := k; exact ⟨s, e, VRels.mono h l _ a⟩
  | .xsl _ _ _, _, k => by simp only [VRel] at k ⊢; obtain ⟨r, a, L, e, rest⟩ := k; exact ⟨r, a, L, h _ _ e, rest⟩
  | .xarg _ _ _, _, k => by simp only [VRel] at k ⊢; obtain ⟨L, e, k⟩ := k; exact ⟨L, e, k.imp id fun ⟨r, c, e, rest⟩ => ⟨r, c, h _ _ e, rest⟩⟩
  | .osl _ _ _, _, k => by simp only [VRel] at k ⊢; obtain ⟨r, a, L, c, e, rest⟩ := k; exact ⟨r, a, L, c, h _ _ e, rest⟩
  | .xptr _ _, _, k => by simp only [VRel] at k ⊢; obtain ⟨r, n, e, rest⟩ := k; exact ⟨r, n, h _ _ e, rest⟩
  | .ptr _ _, _, k => by simp only [VRel] at k ⊢; obtain ⟨r, a, b⟩ := k; exact ⟨r, h _ _ a, b⟩
  | .slice _ _ _ _, _, k => by simp only [VRel] at k ⊢; obtain ⟨r, a, b⟩ := k; exact ⟨r, h _ _ a, b⟩
  | .oslice _ _ _ _ _, _, k => by simp only [VRel] at k ⊢; obtain ⟨r, a, c, b, rest⟩ := k; exact ⟨r, a, c, h _ _ b, rest⟩
  | .map _, _, k => by simp only [VRel] at k ⊢; obtain ⟨r, a, b⟩ := k; exact ⟨r, h _ _ a, b⟩
  | .func _ f c, _, k => by simp only [VRel] at k ⊢; obtain ⟨f', c', e, a, b⟩ := k; exact ⟨f', c', e, VRels.mono h f _ a, VRels.mono h c _ b⟩
  | .iface _ x, _, k => by simp only [VRel] at k ⊢; obtain ⟨x', e, a⟩ := k; exact ⟨x', e, VRel.mono h x _ a⟩
  | .agg cs, _, k => by simp only [VRel] at k ⊢; obtain ⟨x', e, a⟩ := k; exact ⟨x', e, VRels.mono h cs _ a⟩
  | .tuple cs, _, k => by simp only [VRel] at k ⊢; obtain ⟨x', e, a⟩ := k; exact ⟨x', e, VRels.mono h cs _ a⟩
theorem VRels.mono {σ τ : Sub} (h : σ.le τ) : ∀ (v : List V) (v' : List Value), VRels σ v v' → VRels τ v v'
  | [], _, k => by simpa [VRels] using k
  | v :: vs, _, k => by simp only [VRels] at k ⊢; obtain ⟨v', l', e, a, b⟩ := k; exact ⟨v', l', e, VRel.mono h v _ a, VRels.mono h vs _ b⟩
end

theorem VRels.iff {σ : Sub} : ∀ (l : List V) (l' : List Value), VRels σ l l' ↔ l'.length = l.length ∧ ∀ (k : Nat) (v : V), l[k]? = some v → ∃ v', l'[k]? = some v' ∧ VRel σ v v'
  | [], l' => by simp [VRels]
  | v :: vs, l' => by
    simp only [VRels]
    constructor
    · rintro ⟨v', m, rfl, hv, hm⟩
      obtain ⟨h1, h2⟩ := (VRels.iff vs m).1 hm
      refine ⟨by simp [h1], fun k x hk => ?_⟩
      cases k with
      | zero => simp at hk; exact ⟨v', by simp, hk ▸ hv⟩
      | succ k => simpa using h2 k x (by simpa using hk)
    · rintro ⟨h1, h2⟩
      cases l' with
      | nil => simp at h1
      | cons v' m =>
        refine ⟨v', m, rfl, ?_, (VRels.iff vs m).2 ⟨by simpa using h1, fun k x hk => ?_⟩⟩
        · obtain ⟨x, hx, hr⟩ := h2 0 v (by simp); simp at hx; exact hx ▸ hr
        · simpa using h2 (k + 1) x (by simpa using hk)

theorem VRels.append {σ : Sub} {a b : List V} {a' b' : List Value} (h : VRels σ a a') (k : VRels σ b b') : VRels σ (a ++ b) (a' ++ b') := by
  induction a generalizing a' with
  | nil => simp [VRels] at h; subst h; simpa using k
  | cons x xs ih =>
    simp only [VRels] at h
    obtain ⟨v', l', rfl, hv, hl⟩ := h
    exact ⟨v', l' ++ b', by simp, hv, ih hl⟩

theorem VRels.length {σ : Sub} {a : List V} {a' : List Value} (h : VRels σ a a') : a'.length = a.length := ((VRels.iff a a').1 h).1

 mutual
theorem VRel.ofVal (σ : Sub) : ∀ v : Value, VRel σ (ofVal v) v
  | .bool b => by simp [Bx.ofVal, VRel]
  | .int k n => by simp [Bx.ofVal, VRel]
  | .float _ _ => by simp [Bx.ofVal, VRel]
  | .complex _ _ _ => by simp [Bx.ofVal, VRel]
  | .string s => by simp [Bx.ofVal, VRel]
  | .pointer none => by simp [Bx.ofVal, VRel]
  | .pointer (some _) => by simp [Bx.ofVal, VRel]
  | .slice none 0 0 => by simp [Bx.ofVal, VRel]
  | .slice none 0 (_ + 1) => by simp [Bx.ofVal, VRel]
  | .slice none (_ + 1) _ => by simp [Bx.ofVal, VRel]
  | .slice (some _) _ _ => by simp [Bx.ofVal, VRel]
  | .map none => by simp [Bx.ofVal, VRel]
  | .map (some _) => by simp [Bx.ofVal, VRel]
  | .chan _ => by simp [Bx.ofVal, VRel]
  | .func fn ⟨f⟩ ⟨c⟩ => by simp only [Bx.ofVal, VRel]; exact ⟨⟨f⟩, ⟨c⟩, rfl, VRels.ofVals σ f, VRels.ofVals σ c⟩
  | .nilFunc => by simp [Bx.ofVal, VRel]
  | .iface t v => by simp only [Bx.ofVal, VRel]; exact ⟨v, rfl, VRel.ofVal σ v⟩
  | .nilIface => by simp [Bx.ofVal, VRel]
  | .agg ⟨cs⟩ => by simp only [Bx.ofVal, VRel]; exact ⟨⟨cs⟩, rfl, VRels.ofVals σ cs⟩
  | .tuple ⟨cs⟩ => by simp only [Bx.ofVal, VRel]; exact ⟨⟨cs⟩, rfl, VRels.ofVals σ cs⟩
theorem VRels.ofVals (σ : Sub) : ∀ v : List Value, VRels σ (ofVals v) v
  | [] => by simp [Bx.ofVals, VRels]
  | v :: l => by simp only [Bx.ofVals, VRels]; exact ⟨v, l, rfl, VRel.ofVal σ v, VRels.ofVals σ l⟩
end

def ERels (σ : Sub) : List (V × V × Nat) → List MapEntry → Prop
  | [], l => l = []
  | (k, v, b) :: es, l => ∃ k' v' l', l = ⟨k', v', b⟩ :: l' ∧ VRel σ k k' ∧ VRel σ v v' ∧ ERels σ es l'

theorem ERels.mono {σ τ : Sub} (h : σ.le τ) : ∀ (e : List (V × V × Nat)) (e' : List MapEntry), ERels σ e e' → ERels τ e e'
  | [], _, k => by simpa [ERels] using k
  | (_, _, _) :: es, _, k => by
    simp only [ERels] at k ⊢
    obtain ⟨k', v', l', e, a, b, c⟩ := k
    exact ⟨k', v', l', e, VRel.mono h _ _ a, VRel.mono h _ _ b, ERels.mono h es _ c⟩

def CRel (σ : Sub) (c : List V) (C : Array Value) (base : Nat) : Prop :=
  base + c.length ≤ C.size ∧ ∀ k v, c[k]? = some v → ∃ v', C[base + k]? = some v' ∧ VRel σ v v'

theorem CRel.mono {σ τ : Sub} (h : σ.le τ) {c : List V} {C : Array Value} {base : Nat} (k : CRel σ c C base) : CRel τ c C base :=
  ⟨k.1, fun i v hi => let ⟨v', a, b⟩ := k.2 i v hi; ⟨v', a, VRel.mono h _ _ b⟩⟩

def ORel (σ : Sub) (B : Nat) (r : Ren) (w : World) : O → Prop
  | .cells c _ => B ≤ r.block ∧ ∃ C e F, w.heap[r.block]? = some (.cells C e F) ∧ C.size = r.size ∧ (∀ k, k < r.size → ¬ (F.1 ≤ k ∧ k < F.2)) ∧ CRel σ c C r.base
  | .ro c => r.block < B ∧ ∃ C e F, w.heap[r.block]? = some (.cells C e F) ∧ C.size = r.size ∧ CRel σ c C r.base
  | .map es clock => B ≤ r.block ∧ ∃ ES : Array MapEntry, w.heap[r.block]? = some (.map ES clock) ∧ ERels σ es ES.toList
  | .iter s pos => B ≤ r.block ∧ r.base = 0 ∧ w.heap[r.block]? = some (.stringIter s pos)
  | .coll => B ≤ r.block ∧ w.heap[r.block]? = some (.deferred (some []))
  | .arr c => B ≤ r.block ∧ r.base = 0 ∧ ∃ C e F, w.heap[r.block]? = some (.cells C e F) ∧ C.size = r.size ∧ (∀ k, k < r.size → ¬ (F.1 ≤ k ∧ k < F.2)) ∧ C.toList = c.den.list.map (Value.int .u8)
  | .xro t f => r.block < B ∧ ∃ C e F, w.heap[r.block]? = some (.cells C e F) ∧ r.size ≤ C.size ∧ ∀ k, r.base + k < r.size → C[r.base + k]? = some (tv t (xe t f (.num (Int.ofNat k))).den)
  | .buf own k c n sz => (own = true → B ≤ r.block) ∧ ∃ C e F N, w.heap[r.block]? = some (.cells C e F) ∧ (own = true → C.size = r.size ∧ ∀ k, k < r.size → ¬ (F.1 ≤ k ∧ k < F.2)) ∧ r.size ≤ C.size ∧ n.den.int = Int.ofNat N ∧ c.den.list.length = N * sz ∧ r.base + N * sz ≤ r.size ∧ ∀ (j : Nat) (v : Int), c.den.list[j]? = some v → C[r.base + j]? = some (.int k v)
  | .mit m => B ≤ r.block ∧ r.base = 0 ∧ ∃ q since last, σ m = some q ∧ w.heap[r.block]? = some (.mapIter (some q.block) since #[] last)
  | .dead => True

def O.isColl : O → Bool
  | .coll => true
  | _ => false

/-- The model's own records of a range over a function. -/
def loopish : Obj → Bool
  | .loop _ | .deferred _ => true
  | _ => false

/-- They stay as they lie. -/
def Keeps (a b : World) : Prop := ∀ (k : Nat) (o : Obj), a.heap[k]? = some o → loopish o = true → b.heap[k]? = some o
theorem Keeps.refl (a : World) : Keeps a a := fun _ _ h _ => h
theorem Keeps.trans {a b c : World} (h : Keeps a b) (k : Keeps b c) : Keeps a c := fun i o e l => k i o (h i o e l) l
theorem Keeps.same {a b : World} (h : ∀ k, k < a.heap.size → b.heap[k]? = a.heap[k]?) : Keeps a b := fun i o e _ => by
  rw [h i (Array.getElem?_eq_some_iff.1 e).1]; exact e
theorem Keeps.one {a b : World} {r : Nat} {o : Obj} (h : ∀ k, k ≠ r → k < a.heap.size → b.heap[k]? = a.heap[k]?) (hr : a.heap[r]? = some o) (hl : loopish o = false) : Keeps a b := fun i x e l => by
  by_cases hi : i = r
  · subst hi; rw [hr] at e; cases e; rw [hl] at l; cases l
  · rw [h i hi (Array.getElem?_eq_some_iff.1 e).1]; exact e

def O.isDead : O → Bool
  | .dead => true
  | _ => false

/-- The world at the begin, and the names that no block of the world bears yet. -/
structure Base where
  w : World
  U : Nat → Bool

structure HRel (G : Nat) (w0 : Base) (B : Nat) (σ : Sub) (h : Hp) (w : World) : Prop where
  below : Below B w0.w w
  keep : Keeps w0.w w
  Bsize : B ≤ w.heap.size
  nb : h.n ≤ 1000000001
  dom : ∀ i r, σ i = some r → i < h.n
  glob : ∀ g, g < G → ∃ r, σ g = some r ∧ r.block = g ∧ r.base = 0
  obj : ∀ i o, h.t.get i = some o → i < h.n
  unb : ∀ i, w0.U i = true → σ i = none ∧ i < h.n
  rel : ∀ i o, h.t.get i = some o → o.isDead = false → ∀ r, σ i = some r → ORel σ B r w o
  inj : ∀ i j o o' r r', h.t.get i = some o → h.t.get j = some o' → o.isDead = false → o'.isDead = false → σ i = some r → σ j = some r' → r.block = r'.block → i = j

def TRel (σ : Sub) (tm : T V) (a : Array Value) : Prop := ∀ t, VRel σ (getT tm t) (a.getD t undef)

theorem TRel.mono {σ τ : Sub} (h : σ.le τ) {tm : T V} {a : Array Value} (k : TRel σ tm a) : TRel τ tm a := fun t => VRel.mono h _ _ (k t)

theorem VRel.undef (σ : Sub) : VRel σ undefV undef := by simp [undefV, Go.undef, VRel, VRels]

theorem getT_get {tm : T V} {t : Nat} {v : V} (h : tm.get t = some v) : getT tm t = v := by simp [getT, h]

theorem opnd_rel {G : Nat} {w0 : Base} {B : Nat} {σ : Sub} {h : Hp} {w : World} (hH : HRel G w0 B σ h w) {tm : T V} {a : Act} (hT : TRel σ tm a.tmps) (x : Operand) : VRel σ (opnd G tm x) (a.eval x) := by
  cases x with
  | tmp t => exact hT t
  | const v => exact VRel.ofVal σ v
  | func f => simp [opnd, Act.eval, VRel, VRels]
  | global g =>
    simp only [opnd, Act.eval]
    cases hb : Nat.blt g G with
    | false => simp [VRel]
    | true =>
      have : g < G := by rw [Nat.blt_eq] at hb; exact hb
      obtain ⟨r, h1, h2, h3⟩ := hH.glob g this
      simp only [VRel]
      exact ⟨r, h1, by simp [h2, h3]⟩

/-- What the evaluator takes from the program. -/
structure EnvOk (P : Program) (E : Env) : Prop where
  prog : E.P = P
  glob : E.G = P.globals.size
  types : ∀ t i, E.types.get t = some i → P.info? t = some i
  funcs : ∀ f fn, E.funcs.get f = some fn → P.funcs[f]? = some fn
  rw : ∀ l r, (l, r) ∈ E.rw → l.den = r.den

section
variable {P : Program} {E : Env} (hE : EnvOk P E)
 include hE

theorem und_ok {t : TypeId} {d : TypeDesc} (h : E.und t = some d) : P.underlying t = some d := by
  unfold Env.und Env.info at h
  unfold Program.underlying
  cases hi : E.types.get t with
  | none => rw [hi] at h; simp at h
  | some i =>
    rw [hi] at h
    have hi' := hE.types t i hi
    obtain ⟨desc, str, size, bytes, hp, al, fal, zero, cmp, ms⟩ := i
    cases desc with
    | named nm u =>
      simp only at h
      cases hj : E.types.get u with
      | none => rw [hj] at h; simp at h
      | some j =>
        rw [hj] at h
        have hj' := hE.types u j hj
        simp [hi', hj']
        simpa using h
    | _ => simp [hi']; simpa using h

theorem size_ok {t : TypeId} {n : Nat} (h : E.size t = some n) : ∃ i, P.info? t = some i ∧ i.size = n := by
  unfold Env.size Env.info at h
  cases hi : E.types.get t with
  | none => rw [hi] at h; simp at h
  | some i => rw [hi] at h; exact ⟨i, hE.types t i hi, by simpa using h⟩

theorem bytes_ok {t : TypeId} {n : Nat} (h : E.bytes t = some n) : ∃ i, P.info? t = some i ∧ i.bytes = n := by
  unfold Env.bytes Env.info at h
  cases hi : E.types.get t with
  | none => rw [hi] at h; simp at h
  | some i => rw [hi] at h; exact ⟨i, hE.types t i hi, by simpa using h⟩

theorem zero_ok {t : TypeId} {v : Value} (h : E.zero t = some v) : ∃ i, P.info? t = some i ∧ i.zero = some v := by
  unfold Env.zero Env.info at h
  cases hi : E.types.get t with
  | none => rw [hi] at h; simp at h
  | some i => rw [hi] at h; exact ⟨i, hE.types t i hi, by simpa using h⟩

theorem run_und {t : TypeId} {d : TypeDesc} (h : E.und t = some d) (w : World) : (underlying t).run P w = .ok d w := by
  simp [underlying, und_ok hE h]

theorem run_size {t : TypeId} {n : Nat} (h : E.size t = some n) (w : World) : (sizeOf t).run P w = .ok n w := by
  obtain ⟨i, h1, h2⟩ := size_ok hE h
  simp [sizeOf, typeInfo, h1, h2]

theorem run_zero {t : TypeId} {v : Value} (h : E.zero t = some v) (w : World) : (zeroValue t).run P w = .ok v w := by
  obtain ⟨i, h1, h2⟩ := zero_ok hE h
  simp [zeroValue, typeInfo, h1, h2]

theorem run_isAgg {t : TypeId} {b : Bool} (h : E.isAgg t = some b) (w : World) : (isAgg t).run P w = .ok b w := by
  unfold Env.isAgg at h
  cases hd : E.und t with
  | none => rw [hd] at h; simp at h
  | some d =>
    rw [hd] at h
    simp only [isAgg, Sem.run_bind, run_und hE hd, Result.andThen_ok]
    cases d <;> simp at h <;> subst h <;> rfl
end

end Go.Bx
