/- Outcomes answers as the specification says. -/
import Derived.Test.YtglajokjiphafaaDoorJFindOutcomes2
import Derived.Test.YtglajokjiphafaaDoorJFindOutcomes1
set_option linter.unusedSimpArgs false
set_option linter.unusedVariables false
namespace Go.Proofs.YtglajokjiphafaaDoor.Pure
open Go.RowKit Go.Proofs.YtglajokjiphafaaDoor.P Go.Proofs.YtglajokjiphafaaDoorW.PrintWords Go.Proofs.YtglajokjiphafaaDoorW.PrintLast Go.Proofs.YtglajokjiphafaaDoorW.PrintMore Go.Proofs.YtglajokjiphafaaDoor.Kit

theorem out_true (n : Int) (d : List (List Int)) (f : List Int) : Ev (fun k => neonwrightlaw05_FindOutcomes.j0 k n d f true) true := by
  refine Ev.step (f := fun k => (neonwrightlaw05_alive.f k).bind fun t => some t) (fun k => ?_) (Ev.bnd alive_ev (Ev.now true))
  simp only [neonwrightlaw05_FindOutcomes.j0]; rfl
theorem FindOutcomes (n : Int) (d : List (List Int)) (f : List Int) (w0 : (Lit.int .i64 n).wf = true) : ∃ k, neonwrightlaw05_FindOutcomes.f k n d f = some true := by
  refine Ev.rounds ?_
  obtain ⟨b, hb, hs⟩ := few_ev d
  refine Ev.congr (f := fun k => (neonwrightlaw05_few.f k d).bind fun t => (if t = true then (neonwrightlaw05_FindOutcomes.j0 k n d f (decide ((f.length : Int) > 80))) else (neonwrightlaw05_FindOutcomes.j0 k n d f true))) (fun k => rfl) (Ev.bnd hb ?_)
  cases b with
  | false => exact Ev.neg (by decide) (out_true n d f)
  | true =>
    obtain ⟨h1, h2⟩ := hs rfl
    refine Ev.pos rfl ?_
    by_cases h3 : (f.length : Int) > 80
    · rw [decide_eq_true h3]; exact out_true n d f
    · rw [decide_eq_false h3]
      have hc := copied_ev d (by omega) (fun r h => by have := h2 r h; omega)
      have ho := rOutcomes_ev n d f (by omega) (fun r h => by have := h2 r h; omega) (by omega)
      have hl := lists_refl d (by omega) (fun r h => by have := h2 r h; omega)
      have hf := flags_refl (outP n d f).1 (by have := outP_length n d f; omega)
      refine Ev.step (f := fun k => (neonwrightlaw05_copied.f k d).bind fun t243 => ((find_Outcomes.f n t243 f).bind fun bt246 => ((neonwrightref05_Outcomes.f k n d f).bind fun bt250 => ((neonwrightlaw05_flags.f k bt246.1 bt250.1).bind fun t254 => (if t254 = true then (if bt246.2 = bt250.2 then ((neonwrightlaw05_lists.f k t243 d).bind fun t255 => (if t255 = true then ((neonwrightlaw05_alive.f k).bind fun t256 => (some t256)) else (some false))) else (some false)) else (some false)))))) (fun k => ?_) ?_
      · simp only [neonwrightlaw05_FindOutcomes.j0]
        rw [if_neg (by decide)]
      · refine Ev.bnd hc (Ev.congr (f := fun k => ((neonwrightref05_Outcomes.f k n d f).bind fun bt250 => ((neonwrightlaw05_flags.f k (outP n d f).1 bt250.1).bind fun t254 => (if t254 = true then (if (outP n d f).2 = bt250.2 then ((neonwrightlaw05_lists.f k d d).bind fun t255 => (if t255 = true then ((neonwrightlaw05_alive.f k).bind fun t256 => (some t256)) else (some false))) else (some false)) else (some false))))) (fun k => rfl) ?_)
        exact Ev.bnd ho (Ev.bnd hf (Ev.pos rfl (Ev.pos rfl (Ev.bnd hl (Ev.pos rfl (Ev.bnd alive_ev (Ev.now true)))))))
end Go.Proofs.YtglajokjiphafaaDoor.Pure
