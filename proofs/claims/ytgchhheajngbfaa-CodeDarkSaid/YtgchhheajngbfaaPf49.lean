-- Written by a program of this session (myprint.py, over the kit's print). Not trusted: Lean checks it.
import Derived.Test.YtgchhheajngbfaaPt
import Derived.Test.YtgchhheajngbfaaHBits
namespace Go.Proofs.Ytgchhheajngbfaa.P
open Go.RowKit Go.Proofs.YtgchhheajngbfaaW.PrintWords Go.Proofs.YtgchhheajngbfaaW.PrintLast Go.Proofs.YtgchhheajngbfaaW.PrintMore
attribute [local go_sem] max2_int min2_int max_two min_two max_three min_three max_four min_four   -- for this text's walks alone
set_option linter.unusedVariables false
set_option linter.unusedSimpArgs false

/-! ### code_word: function 49 -/
def code_word.f (a0 : Int) (a1 : Int) : Option (Int) := (bits_OnesCount.f (IntKind.u64.wrap (a1))).bind fun t115 => (if 0 ≤ a0 then (some (Go.bits .or .i64 a1 (shl .i64 (wrap64 (a0 - t115)) a0))) else (none))
set_option maxHeartbeats 8000000 in
set_option maxRecDepth 100000 in
theorem code_word.calls (a0 : Int) (a1 : Int) (r : Int) (w : World) (h : code_word.f a0 a1 = some r) :
    Calls Try.prog 49 #[.int .i64 a0, .int .i64 a1] w fun e w' => e = .returned (.int .i64 r) ∧ Drawn0 w w' := by
  have H : ((bits_OnesCount.f (IntKind.u64.wrap (a1))).bind fun t115 => (if 0 ≤ a0 then (some (Go.bits .or .i64 a1 (shl .i64 (wrap64 (a0 - t115)) a0))) else (none))) = some r := h
  clear h
  replace H := Option.bind_eq_some_iff.mp H
  obtain ⟨t115, A30, H⟩ := H
  replace H : (if 0 ≤ a0 then (some (Go.bits .or .i64 a1 (shl .i64 (wrap64 (a0 - t115)) a0))) else (none)) = some r := H
  have A3 := Aside0.mk A30
  clear A30
  by_cases c4 : 0 ≤ a0
  · rw [if_pos c4] at H
    have c4b0 := eq_true c4
    have c4b1 : decide (0 ≤ a0) = true := decide_eq_true c4
    clear c4
    obtain ⟨ji5, hji5⟩ : ∃ j_ : Int, (shl .i64 (wrap64 (a0 - t115)) a0) = j_ := ⟨_, rfl⟩
    replace H : (some (Go.bits .or .i64 a1 (ji5))) = some r := by first | (rw [hji5] at H; exact H) | (simp only [hji5] at H ⊢; exact H)
    (try rw [hji5] at A3)
    have hji5_ : (IntKind.i64.wrap ((wrap64 (a0 - t115)) * 2 ^ min a0.toNat 64)) = ji5 := hji5
    have hji5z : a0 ≤ 64 → (IntKind.i64.wrap ((wrap64 (a0 - t115)) * 2 ^ a0.toNat)) = ji5 := shl_small hji5
    have hji5y : (wrap64 ((wrap64 (a0 - t115)) * 2 ^ min a0.toNat 64)) = ji5 := (i64_w _).symm.trans hji5_
    have hji5x : a0 ≤ 64 → (wrap64 ((wrap64 (a0 - t115)) * 2 ^ a0.toNat)) = ji5 := fun h_ => (i64_w _).symm.trans (hji5z h_)
    obtain rfl := Option.some.inj H
    go_enter Try.func49, Try.ntmps49
    go_wp2_with (first | ((with_reducible refine gate_callee (f := 61) rfl ?_); refine goesL_ (some 9) rfl rfl Try.func61 (by kernel_rfl) rfl #[.int .u64 (IntKind.u64.wrap (a1))] rfl (by (try simp only [List.map_toArray, List.map_cons, List.map_nil]); first | done | rfl | (simp only [List.length_drop, List.length_take]; rfl)) ?_; (with_reducible refine (bits_OnesCount.calls (IntKind.u64.wrap (a1)) t115 _ A3.out).mono ?_); rintro e w' ⟨rfl, ⟨nd, rfl⟩⟩; refine ⟨_, rfl, ?_⟩))
    go_ret
    exact ⟨by first | rfl | (simp; done) | (simp only [← hji5] <;> (first | rfl | simp)) | (simp [*]; done), by repeat (first | exact Drawn0.refl _ | apply Drawn0.step)⟩
  · rw [if_neg c4] at H
    exact absurd H (by simp)

end Go.Proofs.Ytgchhheajngbfaa.P
