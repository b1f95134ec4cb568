import Derived.Test.YtlgcebmdpclkgaaGreatAwake24
import Derived.Test.YtlgcebmdpclkgaaGreatSumsQ
set_option linter.all false
namespace Go.Bx
open Go Go.RowKit Go.Proofs
set_option maxRecDepth 100000
theorem orcX_ok (V : Valn) : CallOk Tryz.prog (Env.of Tryz.prog).G (orcS noOrc 13) := orElse_ok (graceOkK V) (trueOrc_ok entersAwake24 awake24)
def kindsX : List Int := [3, 4, 5, 6, 7, 10, 11, 12, 13]
noncomputable def runX (k : V) (facts : List (SX × SX)) : Bool := saysTrue (evFn ((Env.of Tryz.prog).with facts) (orcS noOrc 13) noDorc 3000 80 4 (argsS k) ⟨.nil, (Env.of Tryz.prog).G⟩)
theorem run_x3 : runX (.int .i64 3) factsX = true := by kernel_rfl
theorem run_x4 : runX (.int .i64 4) factsX = true := by kernel_rfl
theorem run_x5 : runX (.int .i64 5) factsX = true := by kernel_rfl
theorem run_x6 : runX (.int .i64 6) factsX = true := by kernel_rfl
theorem run_x7 : runX (.int .i64 7) factsX = true := by kernel_rfl
theorem run_x10 : runX (.int .i64 10) factsX = true := by kernel_rfl
theorem run_x11 : runX (.int .i64 11) factsX = true := by kernel_rfl
theorem run_x12 : runX (.int .i64 12) factsX = true := by kernel_rfl
theorem run_x13 : runX (.int .i64 13) factsX = true := by kernel_rfl
theorem runs_x : ∀ k ∈ kindsX, runX (.int .i64 k) factsX = true := by
  intro k hk
  simp only [kindsX, List.mem_cons, List.not_mem_nil, or_false] at hk
  rcases hk with rfl | rfl | rfl | rfl | rfl | rfl | rfl | rfl | rfl
  · exact run_x3
  · exact run_x4
  · exact run_x5
  · exact run_x6
  · exact run_x7
  · exact run_x10
  · exact run_x11
  · exact run_x12
  · exact run_x13
theorem run_x15 : runX (.int .i64 15) (factsX ++ zeroX false) = true := by kernel_rfl
theorem run_x15z : runX (.int .i64 15) (zeroX true) = true := by kernel_rfl
theorem run_xo : runX (.intNot .i64 (15 :: kindsX)) [] = true := by kernel_rfl

theorem x86_calls (k n0 n1 : Int) (h0 : wrapK .u64 n0 = n0) (h1 : wrapK .u64 n1 = n1) (w : World) :
    Calls Tryz.prog 4 #[.int .i64 k, .agg #[.int .u64 n0, .int .u64 n1]] w fun e w' => e = .returned (.bool true) ∧ Below w.heap.size w w' := by
  letI vn : Valn := valS n0 n1
  obtain ⟨d0, d1⟩ := valS_den n0 n1 h0 h1
  have hn : 0 ≤ n1 := by rw [← h1]; exact unsigned_wrap rfl n1
  have go : ∀ (facts : List (SX × SX)) (kv : V), (∀ l r, (l, r) ∈ facts → l.den = r.den) → runX kv facts = true → (∀ σ, VRel σ kv (.int .i64 k)) → Calls Tryz.prog 4 #[.int .i64 k, .agg #[.int .u64 n0, .int .u64 n1]] w fun e w' => e = .returned (.bool true) ∧ Below w.heap.size w w' :=
    fun facts kv hf hr hk => sums_call (hEK vn) hmixK hprogK (orcX_ok vn) hf hr hGK w hk d0 d1
  by_cases hm : k ∈ kindsX
  · exact go factsX (.int .i64 k) factsX_ok (runs_x k hm) (fun σ => by simp [VRel])
  · by_cases h15 : k = 15
    · subst h15
      by_cases hz : n1 = 0
      · exact go _ (.int .i64 15) (zeroX_ok d1 hn true (by simp [hz])) run_x15z (fun σ => by simp [VRel])
      · exact go _ (.int .i64 15) (mem_app factsX_ok (zeroX_ok d1 hn false (by simp [hz]))) run_x15 (fun σ => by simp [VRel])
    · refine go [] _ (fun l r h => by cases h) run_xo (fun σ => ?_)
      simp only [VRel]
      exact ⟨k, rfl, by simp only [List.mem_cons]; rintro (h | h); exact h15 h; exact hm h⟩
end Go.Bx
