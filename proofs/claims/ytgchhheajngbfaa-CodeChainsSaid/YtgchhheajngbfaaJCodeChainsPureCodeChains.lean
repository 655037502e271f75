/- CodeChains: the walk says all. -/
import Derived.Test.YtgchhheajngbfaaJCodeChains3
set_option linter.unusedVariables false
namespace Go.Proofs.Ytgchhheajngbfaa.Pure
open Go.RowKit Go.Proofs.Ytgchhheajngbfaa.P

theorem CodeChains (a0 a1 : Int) (w0 : (Lit.int .i64 a0).wf = true) (w1 : (Lit.int .i64 a1).wf = true) : ∃ k, neonwrightlaw03_CodeChains.f k a0 a1 = some true := ⟨0, rfl⟩
end Go.Proofs.Ytgchhheajngbfaa.Pure
