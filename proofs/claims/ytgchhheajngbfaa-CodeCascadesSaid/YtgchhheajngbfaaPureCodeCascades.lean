/- Cascade returns the list and the number of the specification, or its error: for every size and every number of lit tubes. -/
import Derived.Test.YtgchhheajngbfaaPf3
import Derived.Test.YtgchhheajngbfaaCascEv
import Derived.Test.YtgchhheajngbfaaAlive
set_option linter.unusedSimpArgs false
set_option linter.unusedVariables false
namespace Go.Proofs.Ytgchhheajngbfaa.P
open Go.RowKit Go.Proofs.YtgchhheajngbfaaW.PrintWords Go.Proofs.YtgchhheajngbfaaW.PrintMore Go.Proofs.Ytgchhheajngbfaa.Kit

theorem casc_length : ∀ i s, (casc i s).1.length ≤ i := by
  intro i
  induction i with
  | zero => intro s; exact Nat.le_refl _
  | succ i ih =>
    intro s
    unfold casc
    split
    · exact Nat.zero_le _
    · have := ih (s - binom (top (i + 1) s) (i + 1))
      simp only [List.length_cons]
      omega
theorem law_of {a b : Int} {x : List Int × Int × Int} (hx : Ev (fun n => code_Cascade.f n a b) x) (hy : Ev (fun n => neonwrightref03_Cascade.f n a b) x) (hl : x.1.length ≤ 4611686018427387904) :
    Ev (fun k => neonwrightlaw03_CodeCascades.f k a b) true := by
  refine Ev.bnd hx (Ev.bnd hy (Ev.bnd (same_self x.1 hl) (Ev.pos rfl (Ev.pos rfl (Ev.pos rfl (Ev.bnd alive_ev (Ev.now true)))))))
end Go.Proofs.Ytgchhheajngbfaa.P
namespace Go.Proofs.Ytgchhheajngbfaa.Pure
open Go.RowKit Go.Proofs.YtgchhheajngbfaaW.PrintWords Go.Proofs.YtgchhheajngbfaaW.PrintMore Go.Proofs.Ytgchhheajngbfaa.Kit Go.Proofs.Ytgchhheajngbfaa.P
theorem CodeCascades : neonwrightlaw03_CodeCascades.Pure := by
  intro a b ha hb
  refine Ev.rounds (g := fun k => neonwrightlaw03_CodeCascades.f k a b) ?_
  by_cases h : a < 1 ∨ 100000 < a ∨ b < 1 ∨ 12 < b
  · exact law_of (casc_no a b h) (rcasc_no a b h) (by simp)
  · obtain ⟨s, rfl⟩ : ∃ n : Nat, a = n := ⟨a.toNat, by omega⟩
    obtain ⟨k, rfl⟩ : ∃ n : Nat, b = n := ⟨b.toNat, by omega⟩
    exact law_of (casc_ev s k (by omega) (by omega) (by omega) (by omega)) (rcasc_ev s k (by omega) (by omega) (by omega) (by omega)) (by
      have := casc_length k s
      simp only [ints_length]
      omega)
end Go.Proofs.Ytgchhheajngbfaa.Pure
