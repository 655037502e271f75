/- Gray and Rank return the states, places and errors of the specification, for all numbers. -/
import Derived.Test.YtnakkdaeehglnaaJFlashGray2
set_option linter.unusedSimpArgs false
set_option linter.unusedVariables false
namespace Go.Proofs.Ytnakkdaeehglnaa.Pure
open Go.RowKit Go.Proofs.YtnakkdaeehglnaaW.PrintWords Go.Proofs.YtnakkdaeehglnaaW.PrintMore Go.Proofs.Ytnakkdaeehglnaa.Kit Go.Proofs.Ytnakkdaeehglnaa.P
theorem FlashGray : neonwrightlaw04_FlashGray.Pure := by
  intro n i _ _
  refine Ev.rounds (g := fun k => neonwrightlaw04_FlashGray.f k n i) ?_
  refine Ev.congr (f := fun k => (neonwrightref04_Gray.f k n i).bind fun bt213 => (if (grayR n i).1 = bt213.1 then (neonwrightlaw04_FlashGray.j0 k n i ((grayR n i).2 != bt213.2)) else (neonwrightlaw04_FlashGray.j0 k n i true))) (fun k => ?_) (Ev.bnd (rgray_ev n i) (Ev.pos rfl ?_))
  · show neonwrightlaw04_FlashGray.f k n i = _
    unfold neonwrightlaw04_FlashGray.f
    rw [gray_f, Option.bind_some]
  · rw [bne_self_eq_false]
    refine Ev.step (f := fun k => ((flash_Rank.f k n i).bind fun bt215 => ((neonwrightref04_Rank.f k n i).bind fun bt217 => (if bt215.1 = bt217.1 then (if bt215.2 = bt217.2 then ((neonwrightlaw04_alive.f k).bind fun t219 => (some t219)) else (some false)) else (some false))))) (fun k => ?_) ?_
    · simp only [neonwrightlaw04_FlashGray.j0]; rfl
    · exact Ev.bnd (rank_ev n i) (Ev.bnd (rrank_ev n i) (Ev.pos rfl (Ev.pos rfl (Ev.bnd alive_ev (Ev.now true)))))
end Go.Proofs.Ytnakkdaeehglnaa.Pure
