/- Path and Changes return the judgements, numbers and errors of the specification; no argument is changed (beyond 600 states the statement asks the closed example alone). -/
import Derived.Test.YtnakkdaeehglnaaJFlashPaths1
import Derived.Test.YtnakkdaeehglnaaJFlashPaths2
set_option linter.unusedSimpArgs false
set_option linter.unusedVariables false
namespace Go.Proofs.Ytnakkdaeehglnaa.Pure
open Go.RowKit Go.Proofs.YtnakkdaeehglnaaW.PrintWords Go.Proofs.YtnakkdaeehglnaaW.PrintMore Go.Proofs.Ytnakkdaeehglnaa.Kit Go.Proofs.Ytnakkdaeehglnaa.P
theorem FlashPaths : neonwrightlaw04_FlashPaths.Pure := by
  intro n l _ hl _ _
  have hl : l.length ≤ 9223372036854775807 := by unfold maxLen at hl; omega
  refine Ev.rounds (g := fun k => neonwrightlaw04_FlashPaths.f k n l) ?_
  by_cases h : (l.length : Int) ≤ 600
  · refine Ev.congr (f := fun k => ((neonwrightref04_Path.f k n l).bind fun bt441 => (if ((pathR n l).1 != bt441.1) = true then (neonwrightlaw04_FlashPaths.j0 k n l l true) else (if ((pathR n l).2.1 != bt441.2.1) = true then (neonwrightlaw04_FlashPaths.j0 k n l l true) else (neonwrightlaw04_FlashPaths.j0 k n l l ((pathR n l).2.2 != bt441.2.2)))))) (fun k => ?_) (Ev.bnd (rPath_ev n l) (Ev.neg (by simp) (Ev.neg (by simp) ?_)))
    · show neonwrightlaw04_FlashPaths.f k n l = _
      unfold neonwrightlaw04_FlashPaths.f neonwrightlaw04_few.f
      rw [decide_eq_true h, Option.bind_some, if_pos rfl, Option.bind_some, if_pos (by simp only [List.length_nil]; omega), Option.bind_some, List.nil_append, path_f, Option.bind_some]
    · rw [bne_self_eq_false]
      have := changesR_len n l
      refine Ev.step (f := fun k => ((flash_Changes.f k n l).bind fun bt444 => ((neonwrightref04_Changes.f k n l).bind fun bt448 => ((neonwrightlaw04_same.f k bt444.1 bt448.1).bind fun t452 => (if t452 = true then (if bt444.2 = bt448.2 then ((neonwrightlaw04_same.f k l l).bind fun t453 => (if t453 = true then ((neonwrightlaw04_alive.f k).bind fun t454 => (some t454)) else (some false))) else (some false)) else (some false)))))) (fun k => ?_) ?_
      · simp only [neonwrightlaw04_FlashPaths.j0]; rfl
      · exact Ev.bnd (changes_ev n l) (Ev.bnd (rchanges_ev n l) (Ev.bnd (same_self _ (by omega)) (Ev.pos rfl (Ev.pos rfl (Ev.bnd (same_self _ (by omega)) (Ev.pos rfl (Ev.bnd alive_ev (Ev.now true))))))))
  · refine Ev.congr (f := fun k => (neonwrightlaw04_alive.f k).bind fun t431 => (some t431)) (fun k => ?_) (Ev.bnd alive_ev (Ev.now true))
    show neonwrightlaw04_FlashPaths.f k n l = _
    unfold neonwrightlaw04_FlashPaths.f neonwrightlaw04_few.f
    rw [decide_eq_false h, Option.bind_some, if_neg (by decide)]
end Go.Proofs.Ytnakkdaeehglnaa.Pure
