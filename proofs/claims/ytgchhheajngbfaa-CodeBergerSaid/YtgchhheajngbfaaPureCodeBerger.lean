/- Berger and Decode return the results and errors of the specification: for every number of tubes, every sign and every word. -/
import Derived.Test.YtgchhheajngbfaaPf4
import Derived.Test.YtgchhheajngbfaaBerger
import Derived.Test.YtgchhheajngbfaaAlive
set_option linter.unusedSimpArgs false
set_option linter.unusedVariables false
namespace Go.Proofs.Ytgchhheajngbfaa.Pure
open Go.RowKit Go.Proofs.YtgchhheajngbfaaW.PrintWords Go.Proofs.YtgchhheajngbfaaW.PrintMore Go.Proofs.Ytgchhheajngbfaa.Kit Go.Proofs.Ytgchhheajngbfaa.P Go.Lib

theorem berger_both (n s : Int) : ∃ x : Int × Int, code_Berger.f n s = some x ∧ Ev (fun k => neonwrightref03_Berger.f k n s) x := by
  by_cases h : n < 1 ∨ 12 < n ∨ s < 0 ∨ ((2 ^ n.toNat : Nat) : Int) ≤ s
  · exact ⟨_, berger_f h, rberger_f h⟩
  · obtain ⟨m, rfl⟩ : ∃ m : Nat, n = m := ⟨n.toNat, by omega⟩
    obtain ⟨t, rfl⟩ : ∃ m : Nat, s = m := ⟨s.toNat, by omega⟩
    rw [Int.toNat_natCast] at h
    exact ⟨_, berger_t (by omega) (by omega) (by omega), rberger_t (by omega) (by omega) (by omega)⟩
theorem decode_both (n s : Int) : ∃ x : Int × Bool × Int, code_Decode.f n s = some x ∧ Ev (fun k => neonwrightref03_Decode.f k n s) x := by
  by_cases h : n < 1 ∨ 12 < n ∨ s < 0 ∨ ((2 ^ (n.toNat + Lib.bitLen n.toNat) : Nat) : Int) ≤ s
  · exact ⟨_, decode_f h, rdecode_f h⟩
  · obtain ⟨m, rfl⟩ : ∃ m : Nat, n = m := ⟨n.toNat, by omega⟩
    obtain ⟨t, rfl⟩ : ∃ m : Nat, s = m := ⟨s.toNat, by omega⟩
    rw [Int.toNat_natCast] at h
    exact ⟨_, decode_t (by omega) (by omega) (by omega), rdecode_t (by omega) (by omega) (by omega)⟩
theorem CodeBerger : neonwrightlaw03_CodeBerger.Pure := by
  intro n s r hn hs hr
  refine Ev.rounds (g := fun k => neonwrightlaw03_CodeBerger.f k n s r) ?_
  obtain ⟨x, e1, e2⟩ := berger_both n s
  obtain ⟨y, e3, e4⟩ := decode_both n r
  have hj : Ev (fun k => neonwrightlaw03_CodeBerger.j0 k n r false) true := by
    refine Ev.step (f := fun k => (code_Decode.f n r).bind fun bt202 => ((neonwrightref03_Decode.f k n r).bind fun bt205 => (if bt202.1 = bt205.1 then (if (bt202.2.1 == bt205.2.1) = true then (if bt202.2.2 = bt205.2.2 then ((neonwrightlaw03_alive.f k).bind fun t208 => (some t208)) else (some false)) else (some false)) else (some false)))) (fun k => ?_) ?_
    · simp only [neonwrightlaw03_CodeBerger.j0]
      rfl
    · rw [e3]
      refine Ev.sbind (Ev.bnd e4 (Ev.pos rfl (Ev.pos (by simp) (Ev.pos rfl (Ev.bnd alive_ev (Ev.now true))))))
  unfold neonwrightlaw03_CodeBerger.f
  rw [e1]
  refine Ev.sbind (Ev.bnd e2 (Ev.pos rfl ?_))
  simp only [bne_self_eq_false]
  exact hj
end Go.Proofs.Ytgchhheajngbfaa.Pure
