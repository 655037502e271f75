/- What every law of this seat asks beside its own: the closed example; and lists that are the same. -/
import Derived.Test.YtgchhheajngbfaaPf18
import Derived.Test.YtgchhheajngbfaaPf17
import Derived.Test.YtgchhheajngbfaaKit
set_option linter.unusedSimpArgs false
set_option linter.unusedVariables false
namespace Go.Proofs.Ytgchhheajngbfaa.P
open Go.RowKit Go.Proofs.YtgchhheajngbfaaW.PrintWords Go.Proofs.YtgchhheajngbfaaW.PrintMore Go.Proofs.Ytgchhheajngbfaa.Kit

theorem alive_ev : Ev (fun k => neonwrightlaw03_alive.f k) true := Ev.of (fun k => neonwrightlaw03_alive.mono k) (k := 60) (by decide +kernel)

theorem same_l0 (a b : List Int) (hl : a.length = b.length) (hn : a.length ≤ 4611686018427387904) : ∀ d (i : Nat), i + d = a.length →
    Ev (fun k => neonwrightlaw03_same.l0 k a b (i : Int)) (decide (a.drop i = b.drop i)) := by
  intro d
  induction d with
  | zero =>
    intro i h
    refine Ev.at 1 (fun k hk => ?_)
    obtain ⟨k, rfl⟩ : ∃ j, k = j + 1 := ⟨k - 1, by omega⟩
    simp only [neonwrightlaw03_same.l0]
    rw [if_neg (by omega)]
    have : decide (a.drop i = b.drop i) = true := decide_eq_true (by rw [List.drop_of_length_le (by omega), List.drop_of_length_le (by omega)])
    rw [this]
  | succ d ih =>
    intro i h
    have hi : i < a.length := by omega
    have hi' : i < b.length := by omega
    have e1 : wrap64 ((i : Int) + 1) = ((i + 1 : Nat) : Int) := by rw [w64 (by omega) (by omega)]; omega
    have hs : (decide (a.drop i = b.drop i)) = (decide (a[i] = b[i]) && decide (a.drop (i + 1) = b.drop (i + 1))) := by
      rw [List.drop_eq_getElem_cons hi, List.drop_eq_getElem_cons hi']
      simp only [List.cons.injEq, Bool.decide_and]
    refine Ev.step (f := fun k => if a[i] = b[i] then neonwrightlaw03_same.l0 k a b ((i + 1 : Nat) : Int) else some false) (fun k => ?_) ?_
    · simp only [neonwrightlaw03_same.l0]
      rw [if_pos (by omega), if_pos (by omega), if_pos (by omega), rd_get a i hi, rd_get b i hi', e1]
    · rw [hs]
      by_cases h1 : a[i] = b[i]
      · refine Ev.pos h1 ?_
        rw [decide_eq_true h1]
        exact ih (i + 1) (by omega)
      · refine Ev.neg h1 ?_
        rw [decide_eq_false h1]
        exact Ev.now _
theorem same_ev (a b : List Int) (hn : a.length ≤ 4611686018427387904) (hm : b.length ≤ 4611686018427387904) : Ev (fun k => neonwrightlaw03_same.f k a b) (decide (a = b)) := by
  by_cases h : a.length = b.length
  · refine Ev.congr (f := fun k => neonwrightlaw03_same.l0 k a b 0) (fun k => ?_) (by simpa using same_l0 a b h hn a.length 0 (by omega))
    simp only [neonwrightlaw03_same.f]
    rw [if_pos (by omega)]
  · refine Ev.at 0 (fun k hk => ?_)
    simp only [neonwrightlaw03_same.f]
    rw [if_neg (by omega), decide_eq_false (fun e => h (by rw [e]))]
theorem same_self (a : List Int) (hn : a.length ≤ 4611686018427387904) : Ev (fun k => neonwrightlaw03_same.f k a a) true := by
  have := same_ev a a hn hn
  rwa [decide_eq_true rfl] at this
theorem casts {a : Int} (h : (Lit.int .i64 a).wf = true) : -9223372036854775808 ≤ a ∧ a ≤ 9223372036854775807 := by
  have hmin : IntKind.i64.min = -9223372036854775808 := rfl
  have hmax : IntKind.i64.max = 9223372036854775807 := rfl
  simp only [Lit.wf, Bool.and_eq_true, decide_eq_true_eq] at h
  omega

end Go.Proofs.Ytgchhheajngbfaa.P
