/- The facts of their rounds hold. -/
import Derived.Test.YtmiebhjpdmokoaaGreatDoorLayT
set_option linter.all false
namespace Go.Bx.Lay
open Go.Bx

def by4 (l : List Int) : List Int := l.flatMap fun x => [x % 256, x.fdiv 256 % 256, x.fdiv 65536 % 256, x.fdiv 16777216 % 256]
theorem by4_len (l : List Int) : (by4 l).length = 4 * l.length := by
  induction l with
  | nil => rfl
  | cons x l ih => simp only [by4, List.flatMap_cons, List.length_append, List.length_cons] at ih ⊢; simp only [ih]; simp; omega
theorem by4_append (l m : List Int) : by4 (l ++ m) = by4 l ++ by4 m := by simp [by4]
theorem by4_wrap (l : List Int) : (by4 l).map (wrapK .u8) = by4 l := by
  induction l with
  | nil => rfl
  | cons x l ih =>
    rw [show x :: l = [x] ++ l from rfl, by4_append, List.map_append, ih]
    congr 1
    simp only [by4, List.flatMap_cons, List.flatMap_nil, List.append_nil, List.map_cons, List.map_nil, wrapU8, Int.emod_emod]

abbrev rho (ns T : List Int) (c : Int) (k : Nat) : Valn where
  int := fun i => if i = 0 then (k : Int) else 0
  bool := fun _ => false
  list := fun _ => ns
  fn := fun f d => if f = 5 then .L (by4 (ns.take d.int.toNat)) else if f = 6 then .L T else .I c

section
variable (ns T : List Int) (c : Int) (k : Nat) (hk : k ≤ 1000000000) (hw : ns.map (wrapK .i64) = ns)
 include hk
theorem hvi : @SX.den (rho ns T c k) vi = .I k := by
  show D.I (wrapK .i64 (k : Int)) = _
  rw [wrapI64 (by omega) (by omega)]
theorem hvi1 : @SX.den (rho ns T c k) vi1 = .I ((k : Int) + 1) := addDen (hvi ns T c k hk) (y := 1) rfl (by omega) (by omega)
 omit hk in
theorem hlv (hw : ns.map (wrapK .i64) = ns) : @SX.den (rho ns T c k) (.lvar .i64 0) = .L ns := congrArg D.L hw
 omit hk in
theorem hvn (hw : ns.map (wrapK .i64) = ns) : @SX.den (rho ns T c k) vn = .I ns.length := by
  show D.I ((@SX.den (rho ns T c k) (.lvar .i64 0)).list.length : Int) = _
  rw [hlv ns T c k hw]; rfl
 omit hk in
theorem hvt : @SX.den (rho ns T c k) vt = .L (T.map (wrapK .u8)) := rfl
 omit hk in
theorem hlt : @SX.den (rho ns T c k) (.len vt) = .I T.length := by
  show D.I ((@SX.den (rho ns T c k) vt).list.length : Int) = _
  rw [hvt]; simp [D.list]
theorem hpre : @SX.den (rho ns T c k) (pre vi) = .L (by4 (ns.take k)) := by
  show D.L ((by4 (ns.take ((@SX.den (rho ns T c k) vi).int.toNat))).map (wrapK .u8)) = _
  rw [hvi ns T c k hk, by4_wrap]; rfl
theorem hpre1 : @SX.den (rho ns T c k) (pre vi1) = .L (by4 (ns.take (k + 1))) := by
  show D.L ((by4 (ns.take ((@SX.den (rho ns T c k) vi1).int.toNat))).map (wrapK .u8)) = _
  rw [hvi1 ns T c k hk, by4_wrap]; rfl
theorem hcnt : @SX.den (rho ns T c k) (cnt vi) = .I (4 * (k : Int)) := mulDen (x := 4) rfl (hvi ns T c k hk) (by omega) (by omega)
theorem hcnt1 : @SX.den (rho ns T c k) (cnt vi1) = .I (4 * ((k : Int) + 1)) := mulDen (x := 4) rfl (hvi1 ns T c k hk) (by omega) (by omega)

theorem hel (hw : ns.map (wrapK .i64) = ns) (h : k < ns.length) : @SX.den (rho ns T c k) el = .I ns[k] := by
  show D.I (((@SX.den (rho ns T c k) (.lvar .i64 0)).list[(@SX.den (rho ns T c k) vi).int.toNat]?).getD 0) = _
  rw [hlv ns T c k hw, hvi ns T c k hk]
  simp [D.list, D.int, h]

theorem hbyL (hw : ns.map (wrapK .i64) = ns) (h : k < ns.length) (j : Int) (hj : j = 0 ∨ j = 8 ∨ j = 16 ∨ j = 24) : @SX.den (rho ns T c k) (byL j) = .L [ns[k].fdiv (2 ^ j.toNat) % 256] := by
  have he := hel ns T c k hk hw h
  have hone : ∀ (e : SX) (z : Int), @SX.den (rho ns T c k) e = .I z → @SX.den (rho ns T c k) (.one .u8 (.conv .u8 e)) = .L [z % 256] := by
    intro e z hz
    show D.L [wrapK .u8 (wrapK .u8 (@SX.den (rho ns T c k) e).int)] = _
    rw [hz, wrapU8, wrapU8]; simp [D.int]
  rcases hj with rfl | rfl | rfl | rfl
  · rw [show byL 0 = .one .u8 (.conv .u8 el) from rfl, hone el _ he]; simp
  · exact hone (.bin .shr .i64 el (.num 8)) _ (by rw [binDen he (y := 8) rfl]; rfl)
  · exact hone (.bin .shr .i64 el (.num 16)) _ (by rw [binDen he (y := 16) rfl]; rfl)
  · exact hone (.bin .shr .i64 el (.num 24)) _ (by rw [binDen he (y := 24) rfl]; rfl)

theorem hbyM (hw : ns.map (wrapK .i64) = ns) (h : k < ns.length) (j : Int) (hj : j = 0 ∨ j = 8 ∨ j = 16 ∨ j = 24) : @SX.den (rho ns T c k) (byM j) = .L [ns[k].fdiv (2 ^ j.toNat) % 256] := by
  have he := hel ns T c k hk hw h
  have hu : @SX.den (rho ns T c k) (.conv .u64 el) = .I (ns[k] % 18446744073709551616) := by
    show D.I (wrapK .u64 (@SX.den (rho ns T c k) el).int) = _
    rw [he, wrapU64']; rfl
  have hone : ∀ (e : SX) (z : Int), @SX.den (rho ns T c k) e = .I z → @SX.den (rho ns T c k) (.one .u8 (.conv .u8 e)) = .L [z % 256] := by
    intro e z hz
    show D.L [wrapK .u8 (wrapK .u8 (@SX.den (rho ns T c k) e).int)] = _
    rw [hz, wrapU8, wrapU8]; simp [D.int]
  rcases hj with rfl | rfl | rfl | rfl
  · refine (hone (.bin .shr .u64 (.conv .u64 el) (.num 0)) ((ns[k] % 18446744073709551616).fdiv 1) (by rw [binDen hu (y := 0) rfl]; rfl)).trans ?_
    congr 2
    show (ns[k] % 18446744073709551616).fdiv 1 % 256 = ns[k].fdiv 1 % 256
    simp only [Int.fdiv_one]; omega
  · refine (hone (.bin .shr .u64 (.conv .u64 el) (.num 8)) ((ns[k] % 18446744073709551616).fdiv 256) (by rw [binDen hu (y := 8) rfl]; rfl)).trans ?_
    congr 2
    show (ns[k] % 18446744073709551616).fdiv 256 % 256 = ns[k].fdiv 256 % 256
    rw [Int.fdiv_eq_ediv_of_nonneg _ (by decide), Int.fdiv_eq_ediv_of_nonneg _ (by decide)]; omega
  · refine (hone (.bin .shr .u64 (.conv .u64 el) (.num 16)) ((ns[k] % 18446744073709551616).fdiv 65536) (by rw [binDen hu (y := 16) rfl]; rfl)).trans ?_
    congr 2
    show (ns[k] % 18446744073709551616).fdiv 65536 % 256 = ns[k].fdiv 65536 % 256
    rw [Int.fdiv_eq_ediv_of_nonneg _ (by decide), Int.fdiv_eq_ediv_of_nonneg _ (by decide)]; omega
  · refine (hone (.bin .shr .u64 (.conv .u64 el) (.num 24)) ((ns[k] % 18446744073709551616).fdiv 16777216) (by rw [binDen hu (y := 24) rfl]; rfl)).trans ?_
    congr 2
    show (ns[k] % 18446744073709551616).fdiv 16777216 % 256 = ns[k].fdiv 16777216 % 256
    rw [Int.fdiv_eq_ediv_of_nonneg _ (by decide), Int.fdiv_eq_ediv_of_nonneg _ (by decide)]; omega

theorem hgrow (f : Int → SX) (h : k < ns.length) (hf : ∀ j : Int, (j = 0 ∨ j = 8 ∨ j = 16 ∨ j = 24) → @SX.den (rho ns T c k) (f j) = .L [ns[k].fdiv (2 ^ j.toNat) % 256]) : @SX.den (rho ns T c k) (.cat (pre vi) (four f)) = @SX.den (rho ns T c k) (pre vi1) := by
  rw [hpre1 ns T c k hk]
  show D.L ((@SX.den (rho ns T c k) (pre vi)).list ++ ((@SX.den (rho ns T c k) (f 0)).list ++ ((@SX.den (rho ns T c k) (f 8)).list ++ ((@SX.den (rho ns T c k) (f 16)).list ++ (@SX.den (rho ns T c k) (f 24)).list)))) = _
  rw [hpre ns T c k hk, hf 0 (by simp), hf 8 (by simp), hf 16 (by simp), hf 24 (by simp), List.take_succ_eq_append_getElem h, by4_append]
  simp only [D.list]
  congr 2
  simp only [by4, List.flatMap_cons, List.flatMap_nil, List.append_nil, List.cons_append, List.nil_append]
  congr 1
  show ns[k].fdiv 1 % 256 = _
  rw [Int.fdiv_one]

theorem facts_X (hw : ns.map (wrapK .i64) = ns) (h : ns.length ≤ k) : @AllDen (rho ns T c k) factsX := ⟨lssDen (hvi ns T c k hk) (hvn ns T c k hw) (by simp; omega), trivial⟩
 omit hk in
theorem facts_A (hw : ns.map (wrapK .i64) = ns) (h1 : ns.length ≤ 10000000) (h2 : T.length ≤ 10000000) : @AllDen (rho ns T c 0) factsA := by
  have a1 : @SX.den (rho ns T c 0) (cnt vn) = .I (4 * (ns.length : Int)) := mulDen (x := 4) rfl (hvn ns T c 0 hw) (by omega) (by omega)
  have a2 : @SX.den (rho ns T c 0) sumL = .I (4 * (ns.length : Int) + T.length) := addDen a1 (hlt ns T c 0) (by omega) (by omega)
  exact ⟨leqDen (x := 0) rfl a2 (by rw [decide_eq_true_eq]; omega), leqDen a2 (y := 1000000000) rfl (by simp; omega), rfl, rfl, trivial⟩
theorem facts_L (hw : ns.map (wrapK .i64) = ns) (h : k < ns.length) (h1 : ns.length ≤ 10000000) : @AllDen (rho ns T c k) factsL :=
  ⟨lssDen (hvi ns T c k hk) (hvn ns T c k hw) (by simp; omega), leqDen (x := 0) rfl (hvi ns T c k hk) (by rw [decide_eq_true_eq]; omega),
    by rw [addDen (hcnt ns T c k hk) (y := 4) rfl (by omega) (by omega), hcnt1 ns T c k hk]; congr 1, leqDen (hcnt1 ns T c k hk) (y := 1000000000) rfl (by simp; omega), hgrow ns T c k hk byL h (hbyL ns T c k hk hw h), trivial⟩
theorem facts_M (hw : ns.map (wrapK .i64) = ns) (h : k < ns.length) (h1 : ns.length ≤ 10000000) : @AllDen (rho ns T c k) factsM := by
  have a1 : @SX.den (rho ns T c k) (.len (pre vi)) = .I (4 * (k : Int)) := by
    show D.I ((@SX.den (rho ns T c k) (pre vi)).list.length : Int) = _
    rw [hpre ns T c k hk]; simp only [D.list, by4_len, List.length_take]; congr 1; omega
  exact ⟨lssDen (hvi ns T c k hk) (hvn ns T c k hw) (by simp; omega), leqDen (x := 0) rfl (hvi ns T c k hk) (by rw [decide_eq_true_eq]; omega),
    leqDen a1 (y := 4611686018427387903) rfl (by simp; omega), hgrow ns T c k hk byM h (hbyM ns T c k hk hw h), trivial⟩
theorem facts_R (h : k ≤ ns.length) (h1 : ns.length ≤ 10000000) (h2 : T.length ≤ 10000000) : @AllDen (rho ns T c k) factsR := by
  have a1 : @SX.den (rho ns T c k) (.len (pre vi)) = .I (4 * (k : Int)) := by
    show D.I ((@SX.den (rho ns T c k) (pre vi)).list.length : Int) = _
    rw [hpre ns T c k hk]; simp only [D.list, by4_len, List.length_take]; congr 1; omega
  have a2 : @SX.den (rho ns T c k) (.bin .add .i64 (cnt vi) (.len vt)) = .I (4 * (k : Int) + T.length) := addDen (hcnt ns T c k hk) (hlt ns T c k) (by omega) (by omega)
  exact ⟨leqDen (hlt ns T c k) (y := 1000000000) rfl (by simp; omega), leqDen a2 (y := 1000000000) rfl (by simp; omega), leqDen (hlt ns T c k) (y := 4611686018427387903) rfl (by simp; omega), leqDen a1 (y := 4611686018427387903) rfl (by simp; omega), trivial⟩

theorem moves_next : Moves (rho ns T c k) (rho ns T c (k + 1)) next := by
  refine ⟨fun i e he => ?_, fun i he => ?_, rfl, rfl, rfl⟩
  · simp only [next, lookS] at he
    split at he
    · rename_i hb
      have := Nat.eq_of_beq_eq_true hb
      subst this
      cases he
      rw [hvi1 ns T c k hk]
      show ((k + 1 : Nat) : Int) = _
      simp [D.int]
    · cases he
  · simp only [next, lookS] at he
    split at he
    · cases he
    · rename_i hb
      have := Nat.ne_of_beq_eq_false hb
      show (if i = 0 then _ else _) = (if i = 0 then _ else _)
      rw [if_neg this, if_neg this]
 omit hk in
theorem moves_zero : Moves (rho ns T c 0) (rho ns T c 0) zero := by
  refine ⟨fun i e he => ?_, fun i he => rfl, rfl, rfl, rfl⟩
  simp only [zero, lookS] at he
  split at he
  · rename_i hb
    have := Nat.eq_of_beq_eq_true hb
    subst this
    cases he; rfl
  · cases he
end
end Go.Bx.Lay
