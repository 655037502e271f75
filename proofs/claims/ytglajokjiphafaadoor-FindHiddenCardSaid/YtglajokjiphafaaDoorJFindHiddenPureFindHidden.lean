/- Hidden answers as the specification says. -/
import Derived.Test.YtglajokjiphafaaDoorJFindHidden1
set_option linter.unusedSimpArgs false
set_option linter.unusedVariables false
namespace Go.Proofs.YtglajokjiphafaaDoor.Pure
open Go.RowKit Go.Proofs.YtglajokjiphafaaDoor.P Go.Proofs.YtglajokjiphafaaDoorW.PrintWords Go.Proofs.YtglajokjiphafaaDoorW.PrintLast Go.Proofs.YtglajokjiphafaaDoorW.PrintMore Go.Proofs.YtglajokjiphafaaDoor.Kit

theorem hidden_j0 (n : Int) (d : List (List Int)) (D : Int) (hd : d.length ≤ 80) (hr : ∀ r ∈ d, r.length ≤ 80) (b : Bool) : Ev (fun k => neonwrightlaw05_FindHidden.j0 k n d D b) true := by
  cases b with
  | true =>
    refine Ev.step (f := fun k => (neonwrightlaw05_alive.f k).bind fun t147 => some t147) (fun k => ?_) (Ev.bnd alive_ev (Ev.now true))
    simp only [neonwrightlaw05_FindHidden.j0]; rfl
  | false =>
    have h1 := rhid_ev n d D (by omega) (fun r h => by have := hr r h; omega)
    refine Ev.step (f := fun k => (neonwrightref05_Hidden.f k n d D).bind fun bt152 => ((neonwrightlaw05_same.f k (hidP n d D).1 bt152.1).bind fun t156 => (if t156 = true then (if (hidP n d D).2 = bt152.2 then ((neonwrightlaw05_alive.f k).bind fun t157 => (some t157)) else (some false)) else (some false)))) (fun k => ?_) ?_
    · simp only [neonwrightlaw05_FindHidden.j0]
      rw [if_neg (by decide)]
      rfl
    · refine Ev.bnd h1 (Ev.bnd (same_refl _ (hidP_length n d D)) ?_)
      refine Ev.pos rfl (Ev.pos rfl (Ev.bnd alive_ev (Ev.now true)))
theorem FindHidden (n : Int) (d : List (List Int)) (D : Int) (w0 : (Lit.int .i64 n).wf = true) (w2 : (Lit.int .i64 D).wf = true) : ∃ k, neonwrightlaw05_FindHidden.f k n d D = some true := by
  refine Ev.rounds ?_
  obtain ⟨b, hb, hs⟩ := few_ev d
  refine Ev.congr (f := fun k => (neonwrightlaw05_few.f k d).bind fun t146 => (if t146 = true then (if D = 3 then (if n > 20 then (neonwrightlaw05_FindHidden.j0 k n d D (decide (n ≤ 49))) else (neonwrightlaw05_FindHidden.j0 k n d D false)) else (neonwrightlaw05_FindHidden.j0 k n d D false)) else (neonwrightlaw05_FindHidden.j0 k n d D true))) (fun k => rfl) (Ev.bnd hb ?_)
  cases b with
  | false =>
    refine Ev.neg (by decide) ?_
    refine Ev.step (f := fun k => (neonwrightlaw05_alive.f k).bind fun t147 => some t147) (fun k => ?_) (Ev.bnd alive_ev (Ev.now true))
    simp only [neonwrightlaw05_FindHidden.j0]; rfl
  | true =>
    obtain ⟨h1, h2⟩ := hs rfl
    refine Ev.pos rfl ?_
    by_cases e : D = 3
    · refine Ev.pos e ?_
      by_cases e2 : n > 20
      · exact Ev.pos e2 (hidden_j0 n d D h1 h2 _)
      · exact Ev.neg e2 (hidden_j0 n d D h1 h2 _)
    · exact Ev.neg e (hidden_j0 n d D h1 h2 _)
end Go.Proofs.YtglajokjiphafaaDoor.Pure
