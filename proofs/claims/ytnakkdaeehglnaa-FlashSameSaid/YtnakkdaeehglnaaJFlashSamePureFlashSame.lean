/- Same and Normal return the judgement, the list and the errors of the specification (beyond 600 states the statement asks the closed example alone). -/
import Derived.Test.YtnakkdaeehglnaaJFlashSame2
set_option linter.unusedSimpArgs false
set_option linter.unusedVariables false
namespace Go.Proofs.Ytnakkdaeehglnaa.Pure
open Go.RowKit Go.Proofs.YtnakkdaeehglnaaW.PrintWords Go.Proofs.YtnakkdaeehglnaaW.PrintMore Go.Proofs.Ytnakkdaeehglnaa.Kit Go.Proofs.Ytnakkdaeehglnaa.P
theorem FlashSame : neonwrightlaw04_FlashSame.Pure := by
  intro n a b _ _ _ _ _ _ _
  refine Ev.rounds (g := fun k => neonwrightlaw04_FlashSame.f k n a b) ?_
  have hx : ∀ x : Bool, x = true → Ev (fun k => neonwrightlaw04_FlashSame.j0 k n a b x) true := by
    rintro x rfl
    refine Ev.step (f := fun k => (neonwrightlaw04_alive.f k).bind fun t383 => (some t383)) (fun k => ?_) (Ev.bnd alive_ev (Ev.now true))
    simp only [neonwrightlaw04_FlashSame.j0]
    rw [if_pos (by trivial)]
  by_cases h : (a.length : Int) ≤ 600
  · by_cases h2 : (b.length : Int) ≤ 600
    · refine Ev.congr (f := fun k => neonwrightlaw04_FlashSame.j0 k n a b false) (fun k => ?_) ?_
      · show neonwrightlaw04_FlashSame.f k n a b = _
        unfold neonwrightlaw04_FlashSame.f neonwrightlaw04_few.f
        rw [decide_eq_true h, Option.bind_some, if_pos rfl, decide_eq_true h2, Option.bind_some]
        rfl
      · have hj : Ev (fun k => neonwrightlaw04_FlashSame.j1 k n a false) true := by
          have := normalR_len n a h
          refine Ev.step (f := fun k => (flash_Normal.f n a).bind fun bt388 => ((neonwrightref04_Normal.f k n a).bind fun bt392 => ((neonwrightlaw04_same.f k bt388.1 bt392.1).bind fun t396 => (if t396 = true then (if bt388.2 = bt392.2 then ((neonwrightlaw04_alive.f k).bind fun t397 => (some t397)) else (some false)) else (some false))))) (fun k => ?_) ?_
          · simp only [neonwrightlaw04_FlashSame.j1]
            rw [if_neg (by decide)]
          · rw [normalR_f]
            exact Ev.sbind (Ev.bnd (rnormalR_ev n a) (Ev.bnd (same_self _ (by omega)) (Ev.pos rfl (Ev.pos rfl (Ev.bnd alive_ev (Ev.now true))))))
        refine Ev.step (f := fun k => (flash_Same.f k n a b).bind fun bt384 => ((neonwrightref04_Same.f k n a b).bind fun bt386 => (if (bt384.1 != bt386.1) = true then (neonwrightlaw04_FlashSame.j1 k n a true) else (neonwrightlaw04_FlashSame.j1 k n a (bt384.2 != bt386.2))))) (fun k => ?_) (Ev.bnd (sameR_ev n a b) (Ev.bnd (rsameR_ev n a b) (Ev.neg (by simp) (by rw [bne_self_eq_false]; exact hj))))
        simp only [neonwrightlaw04_FlashSame.j0]
        rw [if_neg (by decide)]
    · refine Ev.congr (f := fun k => neonwrightlaw04_FlashSame.j0 k n a b true) (fun k => ?_) (hx true rfl)
      show neonwrightlaw04_FlashSame.f k n a b = _
      unfold neonwrightlaw04_FlashSame.f neonwrightlaw04_few.f
      rw [decide_eq_true h, Option.bind_some, if_pos rfl, decide_eq_false h2, Option.bind_some]
      rfl
  · refine Ev.congr (f := fun k => neonwrightlaw04_FlashSame.j0 k n a b true) (fun k => ?_) (hx true rfl)
    show neonwrightlaw04_FlashSame.f k n a b = _
    unfold neonwrightlaw04_FlashSame.f neonwrightlaw04_few.f
    rw [decide_eq_false h, Option.bind_some, if_neg (by decide)]
end Go.Proofs.Ytnakkdaeehglnaa.Pure
