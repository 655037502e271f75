/- CodeSperner: the walk says all. -/
import Derived.Test.YtgchhheajngbfaaJCodeSperner4
set_option linter.unusedVariables false
namespace Go.Proofs.Ytgchhheajngbfaa.Pure
open Go.RowKit Go.Proofs.Ytgchhheajngbfaa.P

theorem CodeSperner (a0 : Int) (l1 : List Int) (w0 : (Lit.int .i64 a0).wf = true) (w1 : l1.length ≤ maxLen) (w2 : l1.length * 8 ≤ 140737488351232) (w3 : ∀ x ∈ l1, (Lit.int .i64 x).wf = true) : ∃ k, neonwrightlaw03_CodeSperner.f k a0 l1 = some true := ⟨0, rfl⟩
end Go.Proofs.Ytgchhheajngbfaa.Pure
