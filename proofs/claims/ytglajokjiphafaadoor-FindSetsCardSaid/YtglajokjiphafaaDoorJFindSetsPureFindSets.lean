/- FindSets: the walk says all. -/
import Derived.Test.YtglajokjiphafaaDoorJFindSets2
set_option linter.unusedVariables false
namespace Go.Proofs.YtglajokjiphafaaDoor.Pure
open Go.RowKit Go.Proofs.YtglajokjiphafaaDoor.P

theorem FindSets (a0 : Int) (l1 : List (List Int)) (l2 : List Bool) (a3 : Int) (w0 : (Lit.int .i64 a0).wf = true) (w3 : (Lit.int .i64 a3).wf = true) : ∃ k, neonwrightlaw05_FindSets.f k a0 l1 l2 a3 = some true := ⟨0, rfl⟩
end Go.Proofs.YtglajokjiphafaaDoor.Pure
