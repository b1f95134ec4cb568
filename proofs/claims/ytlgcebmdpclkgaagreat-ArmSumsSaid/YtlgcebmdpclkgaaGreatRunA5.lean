import Derived.Test.YtlgcebmdpclkgaaGreatRunA1
import Derived.Test.YtlgcebmdpclkgaaGreatRunA2
import Derived.Test.YtlgcebmdpclkgaaGreatRunA3
import Derived.Test.YtlgcebmdpclkgaaGreatRunA4
set_option linter.all false
namespace Go.Bx
open Go Go.RowKit Go.Proofs
set_option maxRecDepth 100000
theorem orcA_ok (V : Valn) : CallOk Tryz.prog (Env.of Tryz.prog).G (orcS noOrc 6) := orElse_ok (graceOkK V) (trueOrc_ok entersAwake25 awake25)

theorem arm_calls (k n0 n1 : Int) (h0 : wrapK .u64 n0 = n0) (h1 : wrapK .u64 n1 = n1) (w : World) :
    Calls Tryz.prog 3 #[.int .i64 k, .agg #[.int .u64 n0, .int .u64 n1]] w fun e w' => e = .returned (.bool true) ∧ Below w.heap.size w w' := by
  letI vn : Valn := valS n0 n1
  obtain ⟨d0, d1⟩ := valS_den n0 n1 h0 h1
  have go : ∀ (facts : List (SX × SX)) (kv : V), (∀ l r, (l, r) ∈ facts → l.den = r.den) → runA kv facts = true → (∀ σ, VRel σ kv (.int .i64 k)) → Calls Tryz.prog 3 #[.int .i64 k, .agg #[.int .u64 n0, .int .u64 n1]] w fun e w' => e = .returned (.bool true) ∧ Below w.heap.size w w' :=
    fun facts kv hf hr hk => sums_call (hEK vn) hmixK hprogK (orcA_ok vn) hf hr hGK w hk d0 d1
  have plus : ∀ j : Nat, j ∈ [3, 4, 5, 6, 7, 8, 10, 11, 12, 14, 0] → ∀ l r, (l, r) ∈ [plus0 (sumA j)] → l.den = r.den := by
    intro j hj
    simp only [List.mem_cons, List.not_mem_nil, or_false] at hj
    rcases hj with rfl | rfl | rfl | rfl | rfl | rfl | rfl | rfl | rfl | rfl | rfl <;> exact plus0_ok rfl (den_is _ rfl)
  have here : ∀ (j : Nat), k = (j : Int) → ∀ σ, VRel σ (.int .i64 (j : Int)) (.int .i64 k) := fun j h σ => by simp [VRel, h]
  by_cases m1 : ∃ j ∈ kinds1, k = (j : Int)
  · obtain ⟨j, hj, hk⟩ := m1
    exact go _ _ (mem_app factsA_ok (plus j (by simp only [kinds1, List.mem_cons, List.not_mem_nil, or_false] at hj ⊢; omega))) (runs_1 j hj) (here j hk)
  by_cases m2 : ∃ j ∈ kinds2, k = (j : Int)
  · obtain ⟨j, hj, hk⟩ := m2
    exact go _ _ (mem_app factsA_ok (plus j (by simp only [kinds2, List.mem_cons, List.not_mem_nil, or_false] at hj ⊢; omega))) (runs_2 j hj) (here j hk)
  by_cases h13 : k = 13
  · exact go _ _ (mem_app factsA_ok shr13_ok) run_13 (fun σ => by simp [VRel, h13])
  by_cases h10 : k = 10
  · by_cases hz : n1 = 0
    · exact go _ _ (mem_app factsA_ok (mem_app (plus 10 (by simp)) (isZero_ok d1 true (by simp [hz])))) run_10z (fun σ => by simp [VRel, h10])
    · exact go _ _ (mem_app factsA_ok (mem_app (plus 10 (by simp)) (isZero_ok d1 false (by simp [hz])))) run_10 (fun σ => by simp [VRel, h10])
  by_cases h11 : k = 11
  · by_cases hz : n1 = 0
    · exact go _ _ (mem_app factsA_ok (isZero_ok d1 true (by simp [hz]))) run_11z (fun σ => by simp [VRel, h11])
    · by_cases hm : wrapK .i64 n1 = -1
      · exact go _ _ (mem_app factsA_ok (mem_app (plus 0 (by simp)) (mem_app (neg_ok d1 hm) (mem_app (isZero_ok d1 false (by simp [hz])) (minus1_ok d1 h1 hz true (by simp [hm])))))) run_11m (fun σ => by simp [VRel, h11])
      · exact go _ _ (mem_app factsA_ok (mem_app (plus 11 (by simp)) (mem_app (isZero_ok d1 false (by simp [hz])) (minus1_ok d1 h1 hz false (by simp [hm]))))) run_11 (fun σ => by simp [VRel, h11])
  refine go [] _ (fun l r h => by cases h) run_ao (fun σ => ?_)
  simp only [VRel]
  refine ⟨k, rfl, fun h => ?_⟩
  simp only [kinds1, kinds2, List.mem_cons, List.not_mem_nil, or_false] at m1 m2 h
  rcases h with h | h | h | h | h | h | h | h | h | h | h
  · exact m1 ⟨3, by simp, h⟩
  · exact m1 ⟨4, by simp, h⟩
  · exact m1 ⟨5, by simp, h⟩
  · exact m1 ⟨6, by simp, h⟩
  · exact m2 ⟨7, by simp, h⟩
  · exact m2 ⟨8, by simp, h⟩
  · exact h10 h
  · exact h11 h
  · exact m2 ⟨12, by simp, h⟩
  · exact h13 h
  · exact m2 ⟨14, by simp, h⟩
end Go.Bx
