-- Written by a program of this session (myprint.py, over the kit's print). Not trusted: Lean checks it.
import Derived.Test.YtgchhheajngbfaaPt
import Derived.Test.YtgchhheajngbfaaPf35
import Derived.Test.YtgchhheajngbfaaPf50
import Derived.Test.YtgchhheajngbfaaPf52
namespace Go.Proofs.Ytgchhheajngbfaa.P
open Go.RowKit Go.Proofs.YtgchhheajngbfaaW.PrintWords Go.Proofs.YtgchhheajngbfaaW.PrintLast Go.Proofs.YtgchhheajngbfaaW.PrintMore
attribute [local go_sem] max2_int min2_int max_two min_two max_three min_three max_four min_four   -- for this text's walks alone
set_option linter.unusedVariables false
set_option linter.unusedSimpArgs false

/-! ### neonwrightref03_Decode: function 22 -/
def neonwrightref03_Decode.f (k : Nat) (a0 : Int) (a1 : Int) : Option (Int × Bool × Int) := (neonwrightref03_Tubes.f a0).bind fun t195 => (if t195 = true then (if a1 < 0 then (some (0, false, 2)) else ((neonwrightref03_bits.f k a0).bind fun t196 => (if 0 ≤ (wrap64 (a0 + t196)) then (if a1 ≥ (shl .i64 1 (wrap64 (a0 + t196))) then (some (0, false, 2)) else (if 0 ≤ a0 then (if (shl .i64 1 a0) = 0 then (none) else ((neonwrightref03_Lit.f k (Int.tmod a1 (shl .i64 1 a0))).bind fun t197 => (some (Int.tmod a1 (shl .i64 1 a0), (a1 == (wrap64 ((Int.tmod a1 (shl .i64 1 a0)) + (shl .i64 (wrap64 (a0 - t197)) a0)))), 0)))) else (none))) else (none)))) else (some (0, false, 2)))
theorem neonwrightref03_Decode.mono : ∀ a0 a1 k, LeO (neonwrightref03_Decode.f k a0 a1) (neonwrightref03_Decode.f (k + 1) a0 a1) := by
  intro a0 a1 k
  unfold neonwrightref03_Decode.f
  repeat' first
      | (with_reducible exact neonwrightref03_Lit.mono _ _)
      | (with_reducible exact neonwrightref03_bits.mono _ _)
      | (with_reducible exact LeO.refl _)
      | (with_reducible exact LeO.none _)
      | (with_reducible refine LeO.ite ?_ ?_)
      | (with_reducible refine LeO.bind ?_ (fun _ => ?_))
      | exact neonwrightref03_Lit.mono _ _
      | exact neonwrightref03_bits.mono _ _
      | exact LeO.none _
      | refine LeO.ite ?_ ?_
      | refine LeO.bind ?_ (fun _ => ?_)
set_option maxHeartbeats 8000000 in
set_option maxRecDepth 100000 in
theorem neonwrightref03_Decode.calls (k : Nat) (a0 : Int) (a1 : Int) (r1 : Int) (r2 : Bool) (r3 : Int) (w : World) (h : neonwrightref03_Decode.f k a0 a1 = some (r1, r2, r3)) :
    Calls Try.prog 22 #[.int .i64 a0, .int .i64 a1] w fun e w' => e = .returned (.tuple #[.int .i64 r1, .bool r2, .int .i64 r3]) ∧ Drawn0 w w' := by
  have H : ((neonwrightref03_Tubes.f a0).bind fun t195 => (if t195 = true then (if a1 < 0 then (some (0, false, 2)) else ((neonwrightref03_bits.f k a0).bind fun t196 => (if 0 ≤ (wrap64 (a0 + t196)) then (if a1 ≥ (shl .i64 1 (wrap64 (a0 + t196))) then (some (0, false, 2)) else (if 0 ≤ a0 then (if (shl .i64 1 a0) = 0 then (none) else ((neonwrightref03_Lit.f k (Int.tmod a1 (shl .i64 1 a0))).bind fun t197 => (some (Int.tmod a1 (shl .i64 1 a0), (a1 == (wrap64 ((Int.tmod a1 (shl .i64 1 a0)) + (shl .i64 (wrap64 (a0 - t197)) a0)))), 0)))) else (none))) else (none)))) else (some (0, false, 2)))) = some (r1, r2, r3) := h
  clear h
  replace H := Option.bind_eq_some_iff.mp H
  obtain ⟨t195, A30, H⟩ := H
  replace H : (if t195 = true then (if a1 < 0 then (some (0, false, 2)) else ((neonwrightref03_bits.f k a0).bind fun t196 => (if 0 ≤ (wrap64 (a0 + t196)) then (if a1 ≥ (shl .i64 1 (wrap64 (a0 + t196))) then (some (0, false, 2)) else (if 0 ≤ a0 then (if (shl .i64 1 a0) = 0 then (none) else ((neonwrightref03_Lit.f k (Int.tmod a1 (shl .i64 1 a0))).bind fun t197 => (some (Int.tmod a1 (shl .i64 1 a0), (a1 == (wrap64 ((Int.tmod a1 (shl .i64 1 a0)) + (shl .i64 (wrap64 (a0 - t197)) a0)))), 0)))) else (none))) else (none)))) else (some (0, false, 2))) = some (r1, r2, r3) := H
  have A3 := Aside0.mk A30
  clear A30
  by_cases c4 : t195 = true
  · subst c4
    have H1 : (if a1 < 0 then (some (0, false, 2)) else ((neonwrightref03_bits.f k a0).bind fun t196 => (if 0 ≤ (wrap64 (a0 + t196)) then (if a1 ≥ (shl .i64 1 (wrap64 (a0 + t196))) then (some (0, false, 2)) else (if 0 ≤ a0 then (if (shl .i64 1 a0) = 0 then (none) else ((neonwrightref03_Lit.f k (Int.tmod a1 (shl .i64 1 a0))).bind fun t197 => (some (Int.tmod a1 (shl .i64 1 a0), (a1 == (wrap64 ((Int.tmod a1 (shl .i64 1 a0)) + (shl .i64 (wrap64 (a0 - t197)) a0)))), 0)))) else (none))) else (none)))) = some (r1, r2, r3) := by rw [if_pos rfl] at H; exact H
    clear H
    have H := H1
    clear H1
    by_cases c5 : a1 < 0
    · rw [if_pos c5] at H
      have c5b0 : decide (a1 < 0) = true := decide_eq_true c5
      clear c5
      simp only [Option.some.injEq, Prod.mk.injEq] at H
      obtain ⟨rfl, rfl, rfl⟩ := H
      go_enter Try.func22, Try.ntmps22
      go_wp2_with (first | (go_at_call 50; (with_reducible refine (neonwrightref03_Tubes.calls a0 true _ A3.out).mono ?_); rintro e w' ⟨rfl, ⟨nd, rfl⟩⟩; (try first | exact ⟨rfl, _, World.drewN_drewN _ _ _⟩ | exact ⟨rfl, _, Eq.trans (World.drewN_drewN _ _ _) (congrArg (World.drewN _) (Nat.add_assoc _ _ _))⟩)))
      repeat (go_quiet (first | (go_at_call 50; (with_reducible refine (neonwrightref03_Tubes.calls a0 true _ A3.out).mono ?_); rintro e w' ⟨rfl, ⟨nd, rfl⟩⟩; (try first | exact ⟨rfl, _, World.drewN_drewN _ _ _⟩ | exact ⟨rfl, _, Eq.trans (World.drewN_drewN _ _ _) (congrArg (World.drewN _) (Nat.add_assoc _ _ _))⟩))); try go_wp2_with (first | (go_at_call 50; (with_reducible refine (neonwrightref03_Tubes.calls a0 true _ A3.out).mono ?_); rintro e w' ⟨rfl, ⟨nd, rfl⟩⟩; (try first | exact ⟨rfl, _, World.drewN_drewN _ _ _⟩ | exact ⟨rfl, _, Eq.trans (World.drewN_drewN _ _ _) (congrArg (World.drewN _) (Nat.add_assoc _ _ _))⟩))))
      go_ret3
      exact ⟨by first | rfl | (simp; done) | (simp [*]; done), by repeat (first | exact Drawn0.refl _ | apply Drawn0.step)⟩
    · rw [if_neg c5] at H
      have c5b0 : decide (a1 < 0) = false := decide_eq_false c5
      clear c5
      replace H := Option.bind_eq_some_iff.mp H
      obtain ⟨t196, A60, H⟩ := H
      replace H : (if 0 ≤ (wrap64 (a0 + t196)) then (if a1 ≥ (shl .i64 1 (wrap64 (a0 + t196))) then (some (0, false, 2)) else (if 0 ≤ a0 then (if (shl .i64 1 a0) = 0 then (none) else ((neonwrightref03_Lit.f k (Int.tmod a1 (shl .i64 1 a0))).bind fun t197 => (some (Int.tmod a1 (shl .i64 1 a0), (a1 == (wrap64 ((Int.tmod a1 (shl .i64 1 a0)) + (shl .i64 (wrap64 (a0 - t197)) a0)))), 0)))) else (none))) else (none)) = some (r1, r2, r3) := H
      have A6 := Aside0.mk A60
      clear A60
      obtain ⟨ji7, hji7⟩ : ∃ j_ : Int, (wrap64 (a0 + t196)) = j_ := ⟨_, rfl⟩
      replace H : (if 0 ≤ (ji7) then (if a1 ≥ (shl .i64 1 (ji7)) then (some (0, false, 2)) else (if 0 ≤ a0 then (if (shl .i64 1 a0) = 0 then (none) else ((neonwrightref03_Lit.f k (Int.tmod a1 (shl .i64 1 a0))).bind fun t197 => (some (Int.tmod a1 (shl .i64 1 a0), (a1 == (wrap64 ((Int.tmod a1 (shl .i64 1 a0)) + (shl .i64 (wrap64 (a0 - t197)) a0)))), 0)))) else (none))) else (none)) = some (r1, r2, r3) := by first | (rw [hji7] at H; exact H) | (simp only [hji7] at H ⊢; exact H)
      (try rw [hji7] at A3)
      (try rw [hji7] at A6)
      have hji7w : (IntKind.i64.wrap (a0 + t196)) = ji7 := (i64_w _).trans hji7
      by_cases c8 : 0 ≤ (ji7)
      · rw [if_pos c8] at H
        have c8b0 := eq_true c8
        have c8b1 : decide (0 ≤ (ji7)) = true := decide_eq_true c8
        clear c8
        obtain ⟨ji9, hji9⟩ : ∃ j_ : Int, (shl .i64 1 (ji7)) = j_ := ⟨_, rfl⟩
        replace H : (if a1 ≥ (ji9) then (some (0, false, 2)) else (if 0 ≤ a0 then (if (shl .i64 1 a0) = 0 then (none) else ((neonwrightref03_Lit.f k (Int.tmod a1 (shl .i64 1 a0))).bind fun t197 => (some (Int.tmod a1 (shl .i64 1 a0), (a1 == (wrap64 ((Int.tmod a1 (shl .i64 1 a0)) + (shl .i64 (wrap64 (a0 - t197)) a0)))), 0)))) else (none))) = some (r1, r2, r3) := by first | (rw [hji9] at H; exact H) | (simp only [hji9] at H ⊢; exact H)
        (try rw [hji9] at A3)
        (try rw [hji9] at A6)
        have hji9_ : (IntKind.i64.wrap (1 * 2 ^ min (ji7).toNat 64)) = ji9 := hji9
        have hji9z : (ji7) ≤ 64 → (IntKind.i64.wrap (1 * 2 ^ (ji7).toNat)) = ji9 := shl_small hji9
        have hji9u : (IntKind.i64.wrap (2 ^ min (ji7).toNat 64)) = ji9 := by have h_ := hji9_; rw [Int.one_mul] at h_; exact h_
        have hji9v : (ji7) ≤ 64 → (IntKind.i64.wrap (2 ^ (ji7).toNat)) = ji9 := fun hle_ => by have h_ := hji9z hle_; rw [Int.one_mul] at h_; exact h_
        have hji9y : (wrap64 (1 * 2 ^ min (ji7).toNat 64)) = ji9 := (i64_w _).symm.trans hji9_
        have hji9x : (ji7) ≤ 64 → (wrap64 (1 * 2 ^ (ji7).toNat)) = ji9 := fun h_ => (i64_w _).symm.trans (hji9z h_)
        by_cases c10 : a1 ≥ (ji9)
        · rw [if_pos c10] at H
          have c10b0 : decide ((ji9) ≤ a1) = true := decide_eq_true c10
          clear c10
          simp only [Option.some.injEq, Prod.mk.injEq] at H
          obtain ⟨rfl, rfl, rfl⟩ := H
          go_enter Try.func22, Try.ntmps22
          go_wp2_with (first | (go_at_call 50; (with_reducible refine (neonwrightref03_Tubes.calls a0 true _ A3.out).mono ?_); rintro e w' ⟨rfl, ⟨nd, rfl⟩⟩; (try first | exact ⟨rfl, _, World.drewN_drewN _ _ _⟩ | exact ⟨rfl, _, Eq.trans (World.drewN_drewN _ _ _) (congrArg (World.drewN _) (Nat.add_assoc _ _ _))⟩)) | (go_at_call 52; (with_reducible refine (neonwrightref03_bits.calls k a0 t196 _ A6.out).mono ?_); rintro e w' ⟨rfl, ⟨nd, rfl⟩⟩; (try first | exact ⟨rfl, _, World.drewN_drewN _ _ _⟩ | exact ⟨rfl, _, Eq.trans (World.drewN_drewN _ _ _) (congrArg (World.drewN _) (Nat.add_assoc _ _ _))⟩)))
          repeat (go_quiet (first | (go_at_call 50; (with_reducible refine (neonwrightref03_Tubes.calls a0 true _ A3.out).mono ?_); rintro e w' ⟨rfl, ⟨nd, rfl⟩⟩; (try first | exact ⟨rfl, _, World.drewN_drewN _ _ _⟩ | exact ⟨rfl, _, Eq.trans (World.drewN_drewN _ _ _) (congrArg (World.drewN _) (Nat.add_assoc _ _ _))⟩)) | (go_at_call 52; (with_reducible refine (neonwrightref03_bits.calls k a0 t196 _ A6.out).mono ?_); rintro e w' ⟨rfl, ⟨nd, rfl⟩⟩; (try first | exact ⟨rfl, _, World.drewN_drewN _ _ _⟩ | exact ⟨rfl, _, Eq.trans (World.drewN_drewN _ _ _) (congrArg (World.drewN _) (Nat.add_assoc _ _ _))⟩))); try go_wp2_with (first | (go_at_call 50; (with_reducible refine (neonwrightref03_Tubes.calls a0 true _ A3.out).mono ?_); rintro e w' ⟨rfl, ⟨nd, rfl⟩⟩; (try first | exact ⟨rfl, _, World.drewN_drewN _ _ _⟩ | exact ⟨rfl, _, Eq.trans (World.drewN_drewN _ _ _) (congrArg (World.drewN _) (Nat.add_assoc _ _ _))⟩)) | (go_at_call 52; (with_reducible refine (neonwrightref03_bits.calls k a0 t196 _ A6.out).mono ?_); rintro e w' ⟨rfl, ⟨nd, rfl⟩⟩; (try first | exact ⟨rfl, _, World.drewN_drewN _ _ _⟩ | exact ⟨rfl, _, Eq.trans (World.drewN_drewN _ _ _) (congrArg (World.drewN _) (Nat.add_assoc _ _ _))⟩))))
          go_ret3
          exact ⟨by first | rfl | (simp; done) | (simp only [← hji7, ← hji9] <;> (first | rfl | simp)) | (simp [*]; done), by repeat (first | exact Drawn0.refl _ | apply Drawn0.step)⟩
        · rw [if_neg c10] at H
          have c10b0 : decide ((ji9) ≤ a1) = false := decide_eq_false c10
          clear c10
          by_cases c11 : 0 ≤ a0
          · rw [if_pos c11] at H
            have c11b0 := eq_true c11
            have c11b1 : decide (0 ≤ a0) = true := decide_eq_true c11
            clear c11
            obtain ⟨ji12, hji12⟩ : ∃ j_ : Int, (shl .i64 1 a0) = j_ := ⟨_, rfl⟩
            replace H : (if (ji12) = 0 then (none) else ((neonwrightref03_Lit.f k (Int.tmod a1 (ji12))).bind fun t197 => (some (Int.tmod a1 (ji12), (a1 == (wrap64 ((Int.tmod a1 (ji12)) + (shl .i64 (wrap64 (a0 - t197)) a0)))), 0)))) = some (r1, r2, r3) := by first | (rw [hji12] at H; exact H) | (simp only [hji12] at H ⊢; exact H)
            (try rw [hji12] at A3)
            (try rw [hji12] at A6)
            have hji12_ : (IntKind.i64.wrap (1 * 2 ^ min a0.toNat 64)) = ji12 := hji12
            have hji12z : a0 ≤ 64 → (IntKind.i64.wrap (1 * 2 ^ a0.toNat)) = ji12 := shl_small hji12
            have hji12u : (IntKind.i64.wrap (2 ^ min a0.toNat 64)) = ji12 := by have h_ := hji12_; rw [Int.one_mul] at h_; exact h_
            have hji12v : a0 ≤ 64 → (IntKind.i64.wrap (2 ^ a0.toNat)) = ji12 := fun hle_ => by have h_ := hji12z hle_; rw [Int.one_mul] at h_; exact h_
            have hji12y : (wrap64 (1 * 2 ^ min a0.toNat 64)) = ji12 := (i64_w _).symm.trans hji12_
            have hji12x : a0 ≤ 64 → (wrap64 (1 * 2 ^ a0.toNat)) = ji12 := fun h_ => (i64_w _).symm.trans (hji12z h_)
            by_cases c13 : (ji12) = 0
            · rw [if_pos c13] at H
              exact absurd H (by simp)
            · rw [if_neg c13] at H
              have c13b0 : ((ji12) == 0) = false := beq_eq_false_iff_ne.mpr c13
              have c13b1 : ((ji12) != 0) = true := bne_iff_ne.mpr c13
              replace H := Option.bind_eq_some_iff.mp H
              obtain ⟨t197, A140, H⟩ := H
              replace H : (some (Int.tmod a1 (ji12), (a1 == (wrap64 ((Int.tmod a1 (ji12)) + (shl .i64 (wrap64 (a0 - t197)) a0)))), 0)) = some (r1, r2, r3) := H
              have A14 := Aside0.mk A140
              clear A140
              have c15b0 := eq_true (of_decide_eq_true (by first | (with_reducible assumption) | assumption) : 0 ≤ a0)
              obtain ⟨ji16, hji16⟩ : ∃ j_ : Int, (shl .i64 (wrap64 (a0 - t197)) a0) = j_ := ⟨_, rfl⟩
              replace H : (some (Int.tmod a1 (ji12), (a1 == (wrap64 ((Int.tmod a1 (ji12)) + (ji16)))), 0)) = some (r1, r2, r3) := by first | (rw [hji16] at H; exact H) | (simp only [hji16] at H ⊢; exact H)
              (try rw [hji16] at A3)
              (try rw [hji16] at A6)
              (try rw [hji16] at A14)
              have hji16_ : (IntKind.i64.wrap ((wrap64 (a0 - t197)) * 2 ^ min a0.toNat 64)) = ji16 := hji16
              have hji16z : a0 ≤ 64 → (IntKind.i64.wrap ((wrap64 (a0 - t197)) * 2 ^ a0.toNat)) = ji16 := shl_small hji16
              have hji16y : (wrap64 ((wrap64 (a0 - t197)) * 2 ^ min a0.toNat 64)) = ji16 := (i64_w _).symm.trans hji16_
              have hji16x : a0 ≤ 64 → (wrap64 ((wrap64 (a0 - t197)) * 2 ^ a0.toNat)) = ji16 := fun h_ => (i64_w _).symm.trans (hji16z h_)
              simp only [Option.some.injEq, Prod.mk.injEq] at H
              obtain ⟨rfl, rfl, rfl⟩ := H
              go_enter Try.func22, Try.ntmps22
              go_wp2_with (first | (go_at_call 50; (with_reducible refine (neonwrightref03_Tubes.calls a0 true _ A3.out).mono ?_); rintro e w' ⟨rfl, ⟨nd, rfl⟩⟩; (try first | exact ⟨rfl, _, World.drewN_drewN _ _ _⟩ | exact ⟨rfl, _, Eq.trans (World.drewN_drewN _ _ _) (congrArg (World.drewN _) (Nat.add_assoc _ _ _))⟩)) | (go_at_call 52; (with_reducible refine (neonwrightref03_bits.calls k a0 t196 _ A6.out).mono ?_); rintro e w' ⟨rfl, ⟨nd, rfl⟩⟩; (try first | exact ⟨rfl, _, World.drewN_drewN _ _ _⟩ | exact ⟨rfl, _, Eq.trans (World.drewN_drewN _ _ _) (congrArg (World.drewN _) (Nat.add_assoc _ _ _))⟩)) | (go_at_call 35; (with_reducible refine (neonwrightref03_Lit.calls k (Int.tmod a1 (ji12)) t197 _ A14.out).mono ?_); rintro e w' ⟨rfl, ⟨nd, rfl⟩⟩; (try first | exact ⟨rfl, _, World.drewN_drewN _ _ _⟩ | exact ⟨rfl, _, Eq.trans (World.drewN_drewN _ _ _) (congrArg (World.drewN _) (Nat.add_assoc _ _ _))⟩)))
              repeat (go_quiet (first | (go_at_call 50; (with_reducible refine (neonwrightref03_Tubes.calls a0 true _ A3.out).mono ?_); rintro e w' ⟨rfl, ⟨nd, rfl⟩⟩; (try first | exact ⟨rfl, _, World.drewN_drewN _ _ _⟩ | exact ⟨rfl, _, Eq.trans (World.drewN_drewN _ _ _) (congrArg (World.drewN _) (Nat.add_assoc _ _ _))⟩)) | (go_at_call 52; (with_reducible refine (neonwrightref03_bits.calls k a0 t196 _ A6.out).mono ?_); rintro e w' ⟨rfl, ⟨nd, rfl⟩⟩; (try first | exact ⟨rfl, _, World.drewN_drewN _ _ _⟩ | exact ⟨rfl, _, Eq.trans (World.drewN_drewN _ _ _) (congrArg (World.drewN _) (Nat.add_assoc _ _ _))⟩)) | (go_at_call 35; (with_reducible refine (neonwrightref03_Lit.calls k (Int.tmod a1 (ji12)) t197 _ A14.out).mono ?_); rintro e w' ⟨rfl, ⟨nd, rfl⟩⟩; (try first | exact ⟨rfl, _, World.drewN_drewN _ _ _⟩ | exact ⟨rfl, _, Eq.trans (World.drewN_drewN _ _ _) (congrArg (World.drewN _) (Nat.add_assoc _ _ _))⟩))); try go_wp2_with (first | (go_at_call 50; (with_reducible refine (neonwrightref03_Tubes.calls a0 true _ A3.out).mono ?_); rintro e w' ⟨rfl, ⟨nd, rfl⟩⟩; (try first | exact ⟨rfl, _, World.drewN_drewN _ _ _⟩ | exact ⟨rfl, _, Eq.trans (World.drewN_drewN _ _ _) (congrArg (World.drewN _) (Nat.add_assoc _ _ _))⟩)) | (go_at_call 52; (with_reducible refine (neonwrightref03_bits.calls k a0 t196 _ A6.out).mono ?_); rintro e w' ⟨rfl, ⟨nd, rfl⟩⟩; (try first | exact ⟨rfl, _, World.drewN_drewN _ _ _⟩ | exact ⟨rfl, _, Eq.trans (World.drewN_drewN _ _ _) (congrArg (World.drewN _) (Nat.add_assoc _ _ _))⟩)) | (go_at_call 35; (with_reducible refine (neonwrightref03_Lit.calls k (Int.tmod a1 (ji12)) t197 _ A14.out).mono ?_); rintro e w' ⟨rfl, ⟨nd, rfl⟩⟩; (try first | exact ⟨rfl, _, World.drewN_drewN _ _ _⟩ | exact ⟨rfl, _, Eq.trans (World.drewN_drewN _ _ _) (congrArg (World.drewN _) (Nat.add_assoc _ _ _))⟩))))
              go_ret3
              exact ⟨by first | rfl | (simp; done) | (simp only [← hji7, ← hji9, ← hji12, ← hji16] <;> (first | rfl | simp)) | (simp [*]; done), by repeat (first | exact Drawn0.refl _ | apply Drawn0.step)⟩
          · rw [if_neg c11] at H
            exact absurd H (by simp)
      · rw [if_neg c8] at H
        exact absurd H (by simp)
  · replace c4 := Bool.eq_false_iff.mpr c4
    subst c4
    have H1 : (some (0, false, 2)) = some (r1, r2, r3) := by rw [if_neg (show ¬ (false = true) by decide)] at H; exact H
    clear H
    have H := H1
    clear H1
    simp only [Option.some.injEq, Prod.mk.injEq] at H
    obtain ⟨rfl, rfl, rfl⟩ := H
    go_enter Try.func22, Try.ntmps22
    go_wp2_with (first | (go_at_call 50; (with_reducible refine (neonwrightref03_Tubes.calls a0 false _ A3.out).mono ?_); rintro e w' ⟨rfl, ⟨nd, rfl⟩⟩; (try first | exact ⟨rfl, _, World.drewN_drewN _ _ _⟩ | exact ⟨rfl, _, Eq.trans (World.drewN_drewN _ _ _) (congrArg (World.drewN _) (Nat.add_assoc _ _ _))⟩)))
    repeat (go_quiet (first | (go_at_call 50; (with_reducible refine (neonwrightref03_Tubes.calls a0 false _ A3.out).mono ?_); rintro e w' ⟨rfl, ⟨nd, rfl⟩⟩; (try first | exact ⟨rfl, _, World.drewN_drewN _ _ _⟩ | exact ⟨rfl, _, Eq.trans (World.drewN_drewN _ _ _) (congrArg (World.drewN _) (Nat.add_assoc _ _ _))⟩))); try go_wp2_with (first | (go_at_call 50; (with_reducible refine (neonwrightref03_Tubes.calls a0 false _ A3.out).mono ?_); rintro e w' ⟨rfl, ⟨nd, rfl⟩⟩; (try first | exact ⟨rfl, _, World.drewN_drewN _ _ _⟩ | exact ⟨rfl, _, Eq.trans (World.drewN_drewN _ _ _) (congrArg (World.drewN _) (Nat.add_assoc _ _ _))⟩))))
    go_ret3
    exact ⟨by first | rfl | (simp; done) | (simp [*]; done), by repeat (first | exact Drawn0.refl _ | apply Drawn0.step)⟩

end Go.Proofs.Ytgchhheajngbfaa.P
