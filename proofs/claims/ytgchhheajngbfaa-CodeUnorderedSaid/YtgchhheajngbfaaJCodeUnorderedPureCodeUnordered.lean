/- Unordered returns the first two signs of which one covers the other, or the error, of the specification, and changes no argument: for every number and every list (beyond 300 signs the statement asks the closed example alone). -/
import Derived.Test.YtgchhheajngbfaaJCodeUnordered2
import Derived.Test.YtgchhheajngbfaaJCodeUnordered3
set_option linter.unusedSimpArgs false
set_option linter.unusedVariables false
namespace Go.Proofs.Ytgchhheajngbfaa.Pure
open Go.RowKit Go.Proofs.YtgchhheajngbfaaW.PrintWords Go.Proofs.YtgchhheajngbfaaW.PrintMore Go.Proofs.Ytgchhheajngbfaa.Kit Go.Proofs.Ytgchhheajngbfaa.P
theorem CodeUnordered : neonwrightlaw03_CodeUnordered.Pure := by
  intro n l _ _ _ _
  refine Ev.rounds (g := fun k => neonwrightlaw03_CodeUnordered.f k n l) ?_
  by_cases h : (l.length : Int) > 300
  · exact Ev.pos h (Ev.bnd alive_ev (Ev.now true))
  · refine Ev.neg h (Ev.sbind (Ev.pos (by simp only [List.length_nil]; omega) (Ev.sbind ?_)))
    simp only [List.nil_append]
    have h2 := unordN_short n l
    exact Ev.bnd (unord_ev n l) (Ev.bnd (runord_ev n l) (Ev.bnd (same_self _ (by omega)) (Ev.pos rfl (Ev.pos rfl (Ev.bnd (same_self l (by omega)) (Ev.pos rfl (Ev.bnd alive_ev (Ev.now true))))))))
end Go.Proofs.Ytgchhheajngbfaa.Pure
