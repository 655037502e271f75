/- FindInformation holds of all twenty games. -/
import Derived.Test.YtglajokjiphafaaDoorJFindInformation1
import Derived.Test.YtglajokjiphafaaDoorJFindInformation2
set_option linter.unusedSimpArgs false
set_option linter.unusedVariables false
namespace Go.Proofs.YtglajokjiphafaaDoor.Pure
open Go.RowKit Go.Proofs.YtglajokjiphafaaDoor.P Go.Proofs.YtglajokjiphafaaDoorW.PrintWords Go.Proofs.YtglajokjiphafaaDoorW.PrintLast Go.Proofs.YtglajokjiphafaaDoorW.PrintMore Go.Proofs.YtglajokjiphafaaDoor.Kit

theorem inf_closed : ∀ i : Nat, i < 5 → ∀ d : Nat, d < i + 2 → neonwrightlaw05_FindInformation.f 300 (i : Int) (d : Int) = some true := by decide +kernel
theorem u8_wf {a : Int} (h : (Lit.int .u8 a).wf = true) : 0 ≤ a ∧ a ≤ 255 := by
  have h : (decide (IntKind.u8.min ≤ a) && decide (a ≤ IntKind.u8.max)) = true := h
  rw [Bool.and_eq_true, decide_eq_true_eq, decide_eq_true_eq] at h
  exact h
theorem FindInformation (a0 a1 : Int) (w0 : (Lit.int .u8 a0).wf = true) (w1 : (Lit.int .u8 a1).wf = true) : ∃ k, neonwrightlaw05_FindInformation.f k a0 a1 = some true := by
  have u0 := u8_wf w0
  have u1 := u8_wf w1
  obtain ⟨i, hi⟩ := Int.eq_ofNat_of_zero_le (show 0 ≤ Int.tmod a0 5 by rw [Int.tmod_eq_emod_of_nonneg u0.1]; omega)
  have hi5 : i < 5 := by rw [Int.tmod_eq_emod_of_nonneg u0.1] at hi; omega
  have hi2 : Int.tmod (i : Int) 5 = (i : Int) := by
    have : ∀ i : Nat, i < 5 → Int.tmod (i : Int) 5 = (i : Int) := by decide
    exact this i hi5
  have hn : wrap64 (wrap64 (1 + wrap64 (i : Int)) + 1) = ((i + 2 : Nat) : Int) := by
    have : ∀ i : Nat, i < 5 → wrap64 (wrap64 (1 + wrap64 (i : Int)) + 1) = ((i + 2 : Nat) : Int) := by decide +kernel
    exact this i hi5
  have hd0 : 0 ≤ Int.tmod a1 ((i + 2 : Nat) : Int) ∧ Int.tmod a1 ((i + 2 : Nat) : Int) < ((i + 2 : Nat) : Int) := by
    rw [Int.tmod_eq_emod_of_nonneg u1.1]
    exact ⟨Int.emod_nonneg _ (by omega), Int.emod_lt_of_pos _ (by omega)⟩
  obtain ⟨d, hd⟩ := Int.eq_ofNat_of_zero_le hd0.1
  have hdl : d < i + 2 := by have := hd0.2; rw [hd] at this; omega
  have hw1 : wrap64 a1 = a1 := by clear hn; exact w64 (by omega) (by omega)
  have hwd : wrap64 (d : Int) = (d : Int) := by clear hn hw1; exact w64 (by omega) (by omega)
  have hd2 : Int.tmod (d : Int) ((i + 2 : Nat) : Int) = (d : Int) := by
    clear hn hw1 hwd
    rw [Int.tmod_eq_emod_of_nonneg (by omega)]
    exact Int.emod_eq_of_lt (by omega) (by omega)
  refine ⟨300, ?_⟩
  rw [← inf_closed i hi5 d hdl]
  unfold neonwrightlaw05_FindInformation.f
  rw [hi, hi2, hn, hw1, hd, hwd, hd2]
end Go.Proofs.YtglajokjiphafaaDoor.Pure
