import Derived.Test.YtlgcebmdpclkgaaGreatAwake25
import Derived.Test.YtlgcebmdpclkgaaGreatSumsQ
set_option linter.all false
namespace Go.Bx
open Go Go.RowKit Go.Proofs
set_option maxRecDepth 100000
noncomputable def runA (k : V) (facts : List (SX × SX)) : Bool := saysTrue (evFn ((Env.of Tryz.prog).with facts) (orcS noOrc 6) noDorc 3000 80 3 (argsS k) ⟨.nil, (Env.of Tryz.prog).G⟩)
end Go.Bx
