/- Fewest and Strategy answer as the specification says: closed cases, and the error. -/
import Derived.Test.YtglajokjiphafaaDoorJFindFewest1
set_option linter.unusedSimpArgs false
set_option linter.unusedVariables false
namespace Go.Proofs.YtglajokjiphafaaDoor.Pure
open Go.RowKit Go.Proofs.YtglajokjiphafaaDoor.P Go.Proofs.YtglajokjiphafaaDoorW.PrintWords Go.Proofs.YtglajokjiphafaaDoorW.PrintLast Go.Proofs.YtglajokjiphafaaDoorW.PrintMore Go.Proofs.YtglajokjiphafaaDoor.Kit

theorem few_closed : ∀ n : Nat, n ≤ 5 → 1 ≤ n → ∀ d : Nat, d ≤ n → neonwrightlaw05_FindFewest.f 300 (n : Int) (d : Int) = some true := by decide +kernel
theorem FindFewest (a0 a1 : Int) (w0 : (Lit.int .i64 a0).wf = true) (w1 : (Lit.int .i64 a1).wf = true) : ∃ k, neonwrightlaw05_FindFewest.f k a0 a1 = some true := by
  cases hg : gameOk a0 a1 with
  | true =>
    obtain ⟨n, d, rfl, rfl, h1, h5, hd⟩ := gameOk_iff hg
    exact ⟨300, few_closed n h5 h1 d hd⟩
  | false =>
    obtain ⟨k, hk⟩ := neonwrightlaw05_alive.tells
    have hka := at_rounds neonwrightlaw05_alive.mono (Nat.le_add_right k 10) hk
    refine ⟨k + 12, ?_⟩
    have e1 : find_Fewest.f a0 a1 = some (0, 2) := by unfold find_Fewest.f fewestP; rw [hg]; rfl
    have e2 : find_Strategy.f a0 a1 = some ([], 2) := by unfold find_Strategy.f strategyP; rw [hg]; rfl
    have e3 : neonwrightlaw05_same.f (k + 12) [] [] = some true := rfl
    unfold neonwrightlaw05_FindFewest.f
    rw [e1, e2, Option.bind_some, Option.bind_some, Option.bind_some]
    rw [if_pos rfl, if_pos rfl, e3, Option.bind_some]
    show neonwrightlaw05_FindFewest.j0 (k + 11 + 1) a0 a1 0 2 [] false = some true
    simp only [neonwrightlaw05_FindFewest.j0]
    rw [if_neg (by decide), show k + 11 = k + 10 + 1 from rfl, rfewest_err a0 a1 hg, Option.bind_some, if_pos rfl]
    show neonwrightlaw05_FindFewest.j1 (k + 10 + 1) a0 a1 0 2 [] false = some true
    simp only [neonwrightlaw05_FindFewest.j1]
    rw [if_neg (by decide), show k + 10 = k + 9 + 1 from rfl, rfinds_err a0 a1 0 [] hg, Option.bind_some, if_neg (by decide), if_pos (by simp), show k + 9 + 1 = k + 10 from rfl, hka, Option.bind_some]
end Go.Proofs.YtglajokjiphafaaDoor.Pure
