/- Snake and Grow return the judgements, states and errors of the specification (beyond 600 states the statement asks the closed example alone). -/
import Derived.Test.YtnakkdaeehglnaaJFlashSnakes1
import Derived.Test.YtnakkdaeehglnaaJFlashSnakes2
set_option linter.unusedSimpArgs false
set_option linter.unusedVariables false
namespace Go.Proofs.Ytnakkdaeehglnaa.Pure
open Go.RowKit Go.Proofs.YtnakkdaeehglnaaW.PrintWords Go.Proofs.YtnakkdaeehglnaaW.PrintMore Go.Proofs.Ytnakkdaeehglnaa.Kit Go.Proofs.Ytnakkdaeehglnaa.P
theorem FlashSnakes : neonwrightlaw04_FlashSnakes.Pure := by
  intro n l _ _ _ _
  refine Ev.rounds (g := fun k => neonwrightlaw04_FlashSnakes.f k n l) ?_
  by_cases h : (l.length : Int) ≤ 600
  · refine Ev.congr (f := fun k => ((flash_Snake.f k n l).bind fun bt274 => ((neonwrightref04_Snake.f k n l).bind fun bt277 => (if (bt274.1 != bt277.1) = true then (neonwrightlaw04_FlashSnakes.j0 k n l true) else (if (bt274.2.1 != bt277.2.1) = true then (neonwrightlaw04_FlashSnakes.j0 k n l true) else (neonwrightlaw04_FlashSnakes.j0 k n l (bt274.2.2 != bt277.2.2))))))) (fun k => ?_) (Ev.bnd (snakeR_ev n l) (Ev.bnd (rSnake_ev n l) (Ev.neg (by simp) (Ev.neg (by simp) ?_))))
    · show neonwrightlaw04_FlashSnakes.f k n l = _
      unfold neonwrightlaw04_FlashSnakes.f neonwrightlaw04_few.f
      rw [decide_eq_true h, Option.bind_some, if_pos rfl]
    · rw [bne_self_eq_false]
      refine Ev.step (f := fun k => ((flash_Grow.f k n l).bind fun bt280 => ((neonwrightref04_Grow.f k n l).bind fun bt284 => ((neonwrightlaw04_same.f k bt280.1 bt284.1).bind fun t288 => (if t288 = true then (if bt280.2 = bt284.2 then ((neonwrightlaw04_alive.f k).bind fun t289 => (some t289)) else (some false)) else (some false)))))) (fun k => ?_) ?_
      · simp only [neonwrightlaw04_FlashSnakes.j0]; rfl
      · have := growR_len n l
        exact Ev.bnd (grow_ev n l) (Ev.bnd (rgrow_ev n l) (Ev.bnd (same_self _ (by omega)) (Ev.pos rfl (Ev.pos rfl (Ev.bnd alive_ev (Ev.now true))))))
  · refine Ev.congr (f := fun k => (neonwrightlaw04_alive.f k).bind fun t273 => (some t273)) (fun k => ?_) (Ev.bnd alive_ev (Ev.now true))
    show neonwrightlaw04_FlashSnakes.f k n l = _
    unfold neonwrightlaw04_FlashSnakes.f neonwrightlaw04_few.f
    rw [decide_eq_false h, Option.bind_some, if_neg (by decide)]
end Go.Proofs.Ytnakkdaeehglnaa.Pure
