/- Cleared answers as the specification says. -/
import Derived.Test.YtglajokjiphafaaDoorJFindCleared2
set_option linter.unusedSimpArgs false
set_option linter.unusedVariables false
namespace Go.Proofs.YtglajokjiphafaaDoor.Pure
open Go.RowKit Go.Proofs.YtglajokjiphafaaDoor.P Go.Proofs.YtglajokjiphafaaDoorW.PrintWords Go.Proofs.YtglajokjiphafaaDoorW.PrintLast Go.Proofs.YtglajokjiphafaaDoorW.PrintMore Go.Proofs.YtglajokjiphafaaDoor.Kit

theorem clrP_length (n : Int) (d : List (List Int)) (o : List Bool) : (clrP n d o).1.length ≤ 100 ∧ (clrP n d o).2.1.length ≤ 100 := by
  unfold clrP
  split
  · rename_i h
    have h1 := ofN_ok h
    split
    · refine ⟨?_, ?_⟩
      · have := clL_length n.toNat d o
        show (clL n.toNat d o).length ≤ 100
        omega
      · have h2 := compact_len (isort (aloneL d o (clL n.toNat d o)))
        rw [isort_length] at h2
        have h3 := aloneL_length d o (clL n.toNat d o)
        show (Lib.compact (isort (aloneL d o (clL n.toNat d o)))).length ≤ 100
        omega
    · exact ⟨by simp, by simp⟩
  · exact ⟨by simp, by simp⟩
theorem clr_true (n : Int) (d : List (List Int)) (o : List Bool) : Ev (fun k => neonwrightlaw05_FindCleared.j0 k n d o true) true := by
  refine Ev.step (f := fun k => (neonwrightlaw05_alive.f k).bind fun t => some t) (fun k => ?_) (Ev.bnd alive_ev (Ev.now true))
  simp only [neonwrightlaw05_FindCleared.j0]; rfl
theorem FindCleared (n : Int) (d : List (List Int)) (o : List Bool) (w0 : (Lit.int .i64 n).wf = true) : ∃ k, neonwrightlaw05_FindCleared.f k n d o = some true := by
  refine Ev.rounds ?_
  obtain ⟨b, hb, hs⟩ := few_ev d
  refine Ev.congr (f := fun k => (neonwrightlaw05_few.f k d).bind fun t => (if t = true then (neonwrightlaw05_FindCleared.j0 k n d o (decide ((o.length : Int) > 200))) else (neonwrightlaw05_FindCleared.j0 k n d o true))) (fun k => rfl) (Ev.bnd hb ?_)
  cases b with
  | false => exact Ev.neg (by decide) (clr_true n d o)
  | true =>
    obtain ⟨h1, h2⟩ := hs rfl
    refine Ev.pos rfl ?_
    by_cases h3 : (o.length : Int) > 200
    · rw [decide_eq_true h3]; exact clr_true n d o
    · rw [decide_eq_false h3]
      have hc := rCleared_ev n d o (fun r h => by have := h2 r h; omega)
      have hl := clrP_length n d o
      have ha := same_refl (clrP n d o).1 (by omega)
      have hb2 := same_refl (clrP n d o).2.1 (by omega)
      refine Ev.step (f := fun k => (neonwrightref05_Cleared.f k n d o).bind fun bt464 => ((neonwrightlaw05_same.f k (clrP n d o).1 bt464.1).bind fun t471 => (if t471 = true then ((neonwrightlaw05_same.f k (clrP n d o).2.1 bt464.2.1).bind fun t472 => (if t472 = true then (if (clrP n d o).2.2 = bt464.2.2 then ((neonwrightlaw05_alive.f k).bind fun t473 => (some t473)) else (some false)) else (some false))) else (some false)))) (fun k => ?_) ?_
      · simp only [neonwrightlaw05_FindCleared.j0]
        rw [if_neg (by decide)]
        rfl
      · exact Ev.bnd hc (Ev.bnd ha (Ev.pos rfl (Ev.bnd hb2 (Ev.pos rfl (Ev.pos rfl (Ev.bnd alive_ev (Ev.now true)))))))
end Go.Proofs.YtglajokjiphafaaDoor.Pure
