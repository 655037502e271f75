/- FindDesigns: the walk says all. -/
import Derived.Test.YtglajokjiphafaaDoorJFindDesigns1
set_option linter.unusedVariables false
namespace Go.Proofs.YtglajokjiphafaaDoor.Pure
open Go.RowKit Go.Proofs.YtglajokjiphafaaDoor.P

theorem FindDesigns (a0 a1 a2 a3 : Int) (w0 : (Lit.int .i64 a0).wf = true) (w1 : (Lit.int .i64 a1).wf = true) (w2 : (Lit.int .i64 a2).wf = true) (w3 : (Lit.int .i64 a3).wf = true) : ∃ k, neonwrightlaw05_FindDesigns.f k a0 a1 a2 a3 = some true := ⟨0, rfl⟩
end Go.Proofs.YtglajokjiphafaaDoor.Pure
