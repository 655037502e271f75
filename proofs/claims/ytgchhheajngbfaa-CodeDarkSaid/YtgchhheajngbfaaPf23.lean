-- Written by a program of this session (myprint.py, over the kit's print). Not trusted: Lean checks it.
import Derived.Test.YtgchhheajngbfaaPt
namespace Go.Proofs.Ytgchhheajngbfaa.P
open Go.RowKit Go.Proofs.YtgchhheajngbfaaW.PrintWords Go.Proofs.YtgchhheajngbfaaW.PrintLast Go.Proofs.YtgchhheajngbfaaW.PrintMore
attribute [local go_sem] max2_int min2_int max_two min_two max_three min_three max_four min_four   -- for this text's walks alone
set_option linter.unusedVariables false
set_option linter.unusedSimpArgs false

/-! ### neonwrightref03_Covers: function 23 -/
def neonwrightref03_Covers.f (a0 : Int) (a1 : Int) : Option (Bool) := some ((Go.bits .and .i64 a0 a1) == a1)
set_option maxHeartbeats 8000000 in
set_option maxRecDepth 100000 in
theorem neonwrightref03_Covers.calls (a0 : Int) (a1 : Int) (r : Bool) (w : World) (h : neonwrightref03_Covers.f a0 a1 = some r) :
    Calls Try.prog 23 #[.int .i64 a0, .int .i64 a1] w fun e w' => e = .returned (.bool r) ∧ Drawn0 w w' := by
  have H : (some ((Go.bits .and .i64 a0 a1) == a1)) = some r := h
  clear h
  obtain rfl := Option.some.inj H
  go_enter Try.func23, Try.ntmps23
  go_wp2
  go_ret
  exact ⟨by first | rfl | (simp; done) | (simp [*]; done), by repeat (first | exact Drawn0.refl _ | apply Drawn0.step)⟩

end Go.Proofs.Ytgchhheajngbfaa.P
