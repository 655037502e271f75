/- Several texts of this session in one file, in build order: Pf52, Pf22, Pf23, Berger, ChP, ChF, ChV, HCodeChains. -/
import Derived.Test.YtgchhheajngbfaaJCodeChains1
import Derived.Test.YtgchhheajngbfaaJCodeChains2
import Derived.Lib.BitFns
namespace Go.Proofs.Ytgchhheajngbfaa.P
open Go.RowKit Go.Proofs.YtgchhheajngbfaaW.PrintWords Go.Proofs.YtgchhheajngbfaaW.PrintLast Go.Proofs.YtgchhheajngbfaaW.PrintMore
attribute [local go_sem] max2_int min2_int max_two min_two max_three min_three max_four min_four   -- for this text's walks alone
set_option linter.unusedVariables false
set_option linter.unusedSimpArgs false

/-! ### neonwrightref03_bits: function 52 -/
def neonwrightref03_bits.l0 : Nat → Int → Int → Option (Int)
  | 0, _, _ => none
  | k + 1, x0, x3 => if x0 > 0 then (neonwrightref03_bits.l0 k (wrap64 (Int.tdiv x0 2)) (wrap64 (x3 + 1))) else (some x3)
def neonwrightref03_bits.f (k : Nat) (a0 : Int) : Option (Int) := neonwrightref03_bits.l0 k a0 0
theorem neonwrightref03_bits.mono_l : ∀ k, (∀ y0 y1, LeO (neonwrightref03_bits.l0 k y0 y1) (neonwrightref03_bits.l0 (k + 1) y0 y1))
  | 0 => fun _ _ r h => by simp [neonwrightref03_bits.l0] at h
  | k + 1 => by
    have ih0 := neonwrightref03_bits.mono_l k
    · intro y0 y1
      unfold neonwrightref03_bits.l0
      repeat' first
      | (with_reducible exact ih0 _ _)
      | (with_reducible exact LeO.refl _)
      | (with_reducible exact LeO.none _)
      | (with_reducible refine LeO.ite ?_ ?_)
      | (with_reducible refine LeO.bind ?_ (fun _ => ?_))
      | exact ih0 _ _
      | exact LeO.none _
      | refine LeO.ite ?_ ?_
      | refine LeO.bind ?_ (fun _ => ?_)
theorem neonwrightref03_bits.mono : ∀ a0 k, LeO (neonwrightref03_bits.f k a0) (neonwrightref03_bits.f (k + 1) a0) := by
  intro a0 k
  have ih0 := neonwrightref03_bits.mono_l k
  unfold neonwrightref03_bits.f
  repeat' first
      | (with_reducible exact ih0 _ _)
      | (with_reducible exact LeO.refl _)
      | (with_reducible exact LeO.none _)
      | (with_reducible refine LeO.ite ?_ ?_)
      | (with_reducible refine LeO.bind ?_ (fun _ => ?_))
      | exact ih0 _ _
      | exact LeO.none _
      | refine LeO.ite ?_ ?_
      | refine LeO.bind ?_ (fun _ => ?_)
set_option maxHeartbeats 8000000 in
set_option maxRecDepth 100000 in
theorem neonwrightref03_bits.calls (k : Nat) (a0 : Int) (r : Int) (w : World) (h : neonwrightref03_bits.f k a0 = some r) :
    Calls Try.prog 52 #[.int .i64 a0] w fun e w' => e = .returned (.int .i64 r) ∧ Drawn0 w w' := by
  have H : (neonwrightref03_bits.l0 k a0 0) = some r := h
  clear h
  have H' := Aside0.mk H
  clear H
  go_enter Try.func52, Try.ntmps52
  go_wp2
  go_loopg [0, 3] k (fun kq v0 v3 w' => ∃ (x0_1 : Int) (x3_1 : Int), v0 = .int .i64 x0_1 ∧ v3 = .int .i64 x3_1 ∧ Aside0 (neonwrightref03_bits.l0 kq x0_1 x3_1 = some r) ∧ Aside0 (kq ≤ k) ∧ Drawn0 w w')
  case atStart => exact ⟨(a0), (0), (by first | rfl | (simp; done) | (simp [*]; done)), (by first | rfl | (simp; done) | (simp [*]; done)), H', ⟨Nat.le_refl _⟩, by repeat (first | exact Drawn0.refl _ | apply Drawn0.step)⟩
  case round =>
    clear H'
    obtain ⟨x0_1, x3_1, rfl, rfl, HA, HK1, ⟨m1, rfl⟩⟩ := hrel
    cases gk with
    | zero => exact absurd HA.out (by simp [neonwrightref03_bits.l0])
    | succ k1 =>
      have H := HA.out
      clear HA
      simp only [neonwrightref03_bits.l0] at H
      by_cases c2 : x0_1 > 0
      · rw [if_pos c2] at H
        have c2b0 : decide (0 < x0_1) = true := decide_eq_true c2
        clear c2
        have H' := Aside0.mk H
        clear H
        go_wp2
        go_roundg k1
        case measure => have := HK1.out; omega
        case rel => exact ⟨(wrap64 (Int.tdiv x0_1 2)), (wrap64 (x3_1 + 1)), (by first | rfl | (simp; done) | (simp [*]; done)), (by first | rfl | (simp; done) | (simp [*]; done)), H', ⟨by have := HK1.out; omega⟩, by repeat (first | exact Drawn0.refl _ | apply Drawn0.step)⟩
      · rw [if_neg c2] at H
        have c2b0 : decide (0 < x0_1) = false := decide_eq_false c2
        clear c2
        obtain rfl := Option.some.inj H
        go_wp2
        go_ret
        exact ⟨by first | rfl | (simp; done) | (simp [*]; done), by repeat (first | exact Drawn0.refl _ | apply Drawn0.step)⟩

end Go.Proofs.Ytgchhheajngbfaa.P

namespace Go.Proofs.Ytgchhheajngbfaa.P
open Go.RowKit Go.Proofs.YtgchhheajngbfaaW.PrintWords Go.Proofs.YtgchhheajngbfaaW.PrintLast Go.Proofs.YtgchhheajngbfaaW.PrintMore
attribute [local go_sem] max2_int min2_int max_two min_two max_three min_three max_four min_four   -- for this text's walks alone
set_option linter.unusedVariables false
set_option linter.unusedSimpArgs false

/-! ### neonwrightref03_Decode: function 22 -/
def neonwrightref03_Decode.f (k : Nat) (a0 : Int) (a1 : Int) : Option (Int × Bool × Int) := (neonwrightref03_Tubes.f a0).bind fun t195 => (if t195 = true then (if a1 < 0 then (some (0, false, 2)) else ((neonwrightref03_bits.f k a0).bind fun t196 => (if 0 ≤ (wrap64 (a0 + t196)) then (if a1 ≥ (shl .i64 1 (wrap64 (a0 + t196))) then (some (0, false, 2)) else (if 0 ≤ a0 then (if (shl .i64 1 a0) = 0 then (none) else ((neonwrightref03_Lit.f k (Int.tmod a1 (shl .i64 1 a0))).bind fun t197 => (some (Int.tmod a1 (shl .i64 1 a0), (a1 == (wrap64 ((Int.tmod a1 (shl .i64 1 a0)) + (shl .i64 (wrap64 (a0 - t197)) a0)))), 0)))) else (none))) else (none)))) else (some (0, false, 2)))
theorem neonwrightref03_Decode.mono : ∀ a0 a1 k, LeO (neonwrightref03_Decode.f k a0 a1) (neonwrightref03_Decode.f (k + 1) a0 a1) := by
  intro a0 a1 k
  unfold neonwrightref03_Decode.f
  repeat' first
      | (with_reducible exact neonwrightref03_Lit.mono _ _)
      | (with_reducible exact neonwrightref03_bits.mono _ _)
      | (with_reducible exact LeO.refl _)
      | (with_reducible exact LeO.none _)
      | (with_reducible refine LeO.ite ?_ ?_)
      | (with_reducible refine LeO.bind ?_ (fun _ => ?_))
      | exact neonwrightref03_Lit.mono _ _
      | exact neonwrightref03_bits.mono _ _
      | exact LeO.none _
      | refine LeO.ite ?_ ?_
      | refine LeO.bind ?_ (fun _ => ?_)
set_option maxHeartbeats 8000000 in
set_option maxRecDepth 100000 in
theorem neonwrightref03_Decode.calls (k : Nat) (a0 : Int) (a1 : Int) (r1 : Int) (r2 : Bool) (r3 : Int) (w : World) (h : neonwrightref03_Decode.f k a0 a1 = some (r1, r2, r3)) :
    Calls Try.prog 22 #[.int .i64 a0, .int .i64 a1] w fun e w' => e = .returned (.tuple #[.int .i64 r1, .bool r2, .int .i64 r3]) ∧ Drawn0 w w' := by
  have H : ((neonwrightref03_Tubes.f a0).bind fun t195 => (if t195 = true then (if a1 < 0 then (some (0, false, 2)) else ((neonwrightref03_bits.f k a0).bind fun t196 => (if 0 ≤ (wrap64 (a0 + t196)) then (if a1 ≥ (shl .i64 1 (wrap64 (a0 + t196))) then (some (0, false, 2)) else (if 0 ≤ a0 then (if (shl .i64 1 a0) = 0 then (none) else ((neonwrightref03_Lit.f k (Int.tmod a1 (shl .i64 1 a0))).bind fun t197 => (some (Int.tmod a1 (shl .i64 1 a0), (a1 == (wrap64 ((Int.tmod a1 (shl .i64 1 a0)) + (shl .i64 (wrap64 (a0 - t197)) a0)))), 0)))) else (none))) else (none)))) else (some (0, false, 2)))) = some (r1, r2, r3) := h
  clear h
  replace H := Option.bind_eq_some_iff.mp H
  obtain ⟨t195, A30, H⟩ := H
  replace H : (if t195 = true then (if a1 < 0 then (some (0, false, 2)) else ((neonwrightref03_bits.f k a0).bind fun t196 => (if 0 ≤ (wrap64 (a0 + t196)) then (if a1 ≥ (shl .i64 1 (wrap64 (a0 + t196))) then (some (0, false, 2)) else (if 0 ≤ a0 then (if (shl .i64 1 a0) = 0 then (none) else ((neonwrightref03_Lit.f k (Int.tmod a1 (shl .i64 1 a0))).bind fun t197 => (some (Int.tmod a1 (shl .i64 1 a0), (a1 == (wrap64 ((Int.tmod a1 (shl .i64 1 a0)) + (shl .i64 (wrap64 (a0 - t197)) a0)))), 0)))) else (none))) else (none)))) else (some (0, false, 2))) = some (r1, r2, r3) := H
  have A3 := Aside0.mk A30
  clear A30
  by_cases c4 : t195 = true
  · subst c4
    have H1 : (if a1 < 0 then (some (0, false, 2)) else ((neonwrightref03_bits.f k a0).bind fun t196 => (if 0 ≤ (wrap64 (a0 + t196)) then (if a1 ≥ (shl .i64 1 (wrap64 (a0 + t196))) then (some (0, false, 2)) else (if 0 ≤ a0 then (if (shl .i64 1 a0) = 0 then (none) else ((neonwrightref03_Lit.f k (Int.tmod a1 (shl .i64 1 a0))).bind fun t197 => (some (Int.tmod a1 (shl .i64 1 a0), (a1 == (wrap64 ((Int.tmod a1 (shl .i64 1 a0)) + (shl .i64 (wrap64 (a0 - t197)) a0)))), 0)))) else (none))) else (none)))) = some (r1, r2, r3) := by rw [if_pos rfl] at H; exact H
    clear H
    have H := H1
    clear H1
    by_cases c5 : a1 < 0
    · rw [if_pos c5] at H
      have c5b0 : decide (a1 < 0) = true := decide_eq_true c5
      clear c5
      simp only [Option.some.injEq, Prod.mk.injEq] at H
      obtain ⟨rfl, rfl, rfl⟩ := H
      go_enter Try.func22, Try.ntmps22
      go_wp2_with (first | (go_at_call 50; (with_reducible refine (neonwrightref03_Tubes.calls a0 true _ A3.out).mono ?_); rintro e w' ⟨rfl, ⟨nd, rfl⟩⟩; (try first | exact ⟨rfl, _, World.drewN_drewN _ _ _⟩ | exact ⟨rfl, _, Eq.trans (World.drewN_drewN _ _ _) (congrArg (World.drewN _) (Nat.add_assoc _ _ _))⟩)))
      repeat (go_quiet (first | (go_at_call 50; (with_reducible refine (neonwrightref03_Tubes.calls a0 true _ A3.out).mono ?_); rintro e w' ⟨rfl, ⟨nd, rfl⟩⟩; (try first | exact ⟨rfl, _, World.drewN_drewN _ _ _⟩ | exact ⟨rfl, _, Eq.trans (World.drewN_drewN _ _ _) (congrArg (World.drewN _) (Nat.add_assoc _ _ _))⟩))); try go_wp2_with (first | (go_at_call 50; (with_reducible refine (neonwrightref03_Tubes.calls a0 true _ A3.out).mono ?_); rintro e w' ⟨rfl, ⟨nd, rfl⟩⟩; (try first | exact ⟨rfl, _, World.drewN_drewN _ _ _⟩ | exact ⟨rfl, _, Eq.trans (World.drewN_drewN _ _ _) (congrArg (World.drewN _) (Nat.add_assoc _ _ _))⟩))))
      go_ret3
      exact ⟨by first | rfl | (simp; done) | (simp [*]; done), by repeat (first | exact Drawn0.refl _ | apply Drawn0.step)⟩
    · rw [if_neg c5] at H
      have c5b0 : decide (a1 < 0) = false := decide_eq_false c5
      clear c5
      replace H := Option.bind_eq_some_iff.mp H
      obtain ⟨t196, A60, H⟩ := H
      replace H : (if 0 ≤ (wrap64 (a0 + t196)) then (if a1 ≥ (shl .i64 1 (wrap64 (a0 + t196))) then (some (0, false, 2)) else (if 0 ≤ a0 then (if (shl .i64 1 a0) = 0 then (none) else ((neonwrightref03_Lit.f k (Int.tmod a1 (shl .i64 1 a0))).bind fun t197 => (some (Int.tmod a1 (shl .i64 1 a0), (a1 == (wrap64 ((Int.tmod a1 (shl .i64 1 a0)) + (shl .i64 (wrap64 (a0 - t197)) a0)))), 0)))) else (none))) else (none)) = some (r1, r2, r3) := H
      have A6 := Aside0.mk A60
      clear A60
      obtain ⟨ji7, hji7⟩ : ∃ j_ : Int, (wrap64 (a0 + t196)) = j_ := ⟨_, rfl⟩
      replace H : (if 0 ≤ (ji7) then (if a1 ≥ (shl .i64 1 (ji7)) then (some (0, false, 2)) else (if 0 ≤ a0 then (if (shl .i64 1 a0) = 0 then (none) else ((neonwrightref03_Lit.f k (Int.tmod a1 (shl .i64 1 a0))).bind fun t197 => (some (Int.tmod a1 (shl .i64 1 a0), (a1 == (wrap64 ((Int.tmod a1 (shl .i64 1 a0)) + (shl .i64 (wrap64 (a0 - t197)) a0)))), 0)))) else (none))) else (none)) = some (r1, r2, r3) := by first | (rw [hji7] at H; exact H) | (simp only [hji7] at H ⊢; exact H)
      (try rw [hji7] at A3)
      (try rw [hji7] at A6)
      have hji7w : (IntKind.i64.wrap (a0 + t196)) = ji7 := (i64_w _).trans hji7
      by_cases c8 : 0 ≤ (ji7)
      · rw [if_pos c8] at H
        have c8b0 := eq_true c8
        have c8b1 : decide (0 ≤ (ji7)) = true := decide_eq_true c8
        clear c8
        obtain ⟨ji9, hji9⟩ : ∃ j_ : Int, (shl .i64 1 (ji7)) = j_ := ⟨_, rfl⟩
        replace H : (if a1 ≥ (ji9) then (some (0, false, 2)) else (if 0 ≤ a0 then (if (shl .i64 1 a0) = 0 then (none) else ((neonwrightref03_Lit.f k (Int.tmod a1 (shl .i64 1 a0))).bind fun t197 => (some (Int.tmod a1 (shl .i64 1 a0), (a1 == (wrap64 ((Int.tmod a1 (shl .i64 1 a0)) + (shl .i64 (wrap64 (a0 - t197)) a0)))), 0)))) else (none))) = some (r1, r2, r3) := by first | (rw [hji9] at H; exact H) | (simp only [hji9] at H ⊢; exact H)
        (try rw [hji9] at A3)
        (try rw [hji9] at A6)
        have hji9_ : (IntKind.i64.wrap (1 * 2 ^ min (ji7).toNat 64)) = ji9 := hji9
        have hji9z : (ji7) ≤ 64 → (IntKind.i64.wrap (1 * 2 ^ (ji7).toNat)) = ji9 := shl_small hji9
        have hji9u : (IntKind.i64.wrap (2 ^ min (ji7).toNat 64)) = ji9 := by have h_ := hji9_; rw [Int.one_mul] at h_; exact h_
        have hji9v : (ji7) ≤ 64 → (IntKind.i64.wrap (2 ^ (ji7).toNat)) = ji9 := fun hle_ => by have h_ := hji9z hle_; rw [Int.one_mul] at h_; exact h_
        have hji9y : (wrap64 (1 * 2 ^ min (ji7).toNat 64)) = ji9 := (i64_w _).symm.trans hji9_
        have hji9x : (ji7) ≤ 64 → (wrap64 (1 * 2 ^ (ji7).toNat)) = ji9 := fun h_ => (i64_w _).symm.trans (hji9z h_)
        by_cases c10 : a1 ≥ (ji9)
        · rw [if_pos c10] at H
          have c10b0 : decide ((ji9) ≤ a1) = true := decide_eq_true c10
          clear c10
          simp only [Option.some.injEq, Prod.mk.injEq] at H
          obtain ⟨rfl, rfl, rfl⟩ := H
          go_enter Try.func22, Try.ntmps22
          go_wp2_with (first | (go_at_call 50; (with_reducible refine (neonwrightref03_Tubes.calls a0 true _ A3.out).mono ?_); rintro e w' ⟨rfl, ⟨nd, rfl⟩⟩; (try first | exact ⟨rfl, _, World.drewN_drewN _ _ _⟩ | exact ⟨rfl, _, Eq.trans (World.drewN_drewN _ _ _) (congrArg (World.drewN _) (Nat.add_assoc _ _ _))⟩)) | (go_at_call 52; (with_reducible refine (neonwrightref03_bits.calls k a0 t196 _ A6.out).mono ?_); rintro e w' ⟨rfl, ⟨nd, rfl⟩⟩; (try first | exact ⟨rfl, _, World.drewN_drewN _ _ _⟩ | exact ⟨rfl, _, Eq.trans (World.drewN_drewN _ _ _) (congrArg (World.drewN _) (Nat.add_assoc _ _ _))⟩)))
          repeat (go_quiet (first | (go_at_call 50; (with_reducible refine (neonwrightref03_Tubes.calls a0 true _ A3.out).mono ?_); rintro e w' ⟨rfl, ⟨nd, rfl⟩⟩; (try first | exact ⟨rfl, _, World.drewN_drewN _ _ _⟩ | exact ⟨rfl, _, Eq.trans (World.drewN_drewN _ _ _) (congrArg (World.drewN _) (Nat.add_assoc _ _ _))⟩)) | (go_at_call 52; (with_reducible refine (neonwrightref03_bits.calls k a0 t196 _ A6.out).mono ?_); rintro e w' ⟨rfl, ⟨nd, rfl⟩⟩; (try first | exact ⟨rfl, _, World.drewN_drewN _ _ _⟩ | exact ⟨rfl, _, Eq.trans (World.drewN_drewN _ _ _) (congrArg (World.drewN _) (Nat.add_assoc _ _ _))⟩))); try go_wp2_with (first | (go_at_call 50; (with_reducible refine (neonwrightref03_Tubes.calls a0 true _ A3.out).mono ?_); rintro e w' ⟨rfl, ⟨nd, rfl⟩⟩; (try first | exact ⟨rfl, _, World.drewN_drewN _ _ _⟩ | exact ⟨rfl, _, Eq.trans (World.drewN_drewN _ _ _) (congrArg (World.drewN _) (Nat.add_assoc _ _ _))⟩)) | (go_at_call 52; (with_reducible refine (neonwrightref03_bits.calls k a0 t196 _ A6.out).mono ?_); rintro e w' ⟨rfl, ⟨nd, rfl⟩⟩; (try first | exact ⟨rfl, _, World.drewN_drewN _ _ _⟩ | exact ⟨rfl, _, Eq.trans (World.drewN_drewN _ _ _) (congrArg (World.drewN _) (Nat.add_assoc _ _ _))⟩))))
          go_ret3
          exact ⟨by first | rfl | (simp; done) | (simp only [← hji7, ← hji9] <;> (first | rfl | simp)) | (simp [*]; done), by repeat (first | exact Drawn0.refl _ | apply Drawn0.step)⟩
        · rw [if_neg c10] at H
          have c10b0 : decide ((ji9) ≤ a1) = false := decide_eq_false c10
          clear c10
          by_cases c11 : 0 ≤ a0
          · rw [if_pos c11] at H
            have c11b0 := eq_true c11
            have c11b1 : decide (0 ≤ a0) = true := decide_eq_true c11
            clear c11
            obtain ⟨ji12, hji12⟩ : ∃ j_ : Int, (shl .i64 1 a0) = j_ := ⟨_, rfl⟩
            replace H : (if (ji12) = 0 then (none) else ((neonwrightref03_Lit.f k (Int.tmod a1 (ji12))).bind fun t197 => (some (Int.tmod a1 (ji12), (a1 == (wrap64 ((Int.tmod a1 (ji12)) + (shl .i64 (wrap64 (a0 - t197)) a0)))), 0)))) = some (r1, r2, r3) := by first | (rw [hji12] at H; exact H) | (simp only [hji12] at H ⊢; exact H)
            (try rw [hji12] at A3)
            (try rw [hji12] at A6)
            have hji12_ : (IntKind.i64.wrap (1 * 2 ^ min a0.toNat 64)) = ji12 := hji12
            have hji12z : a0 ≤ 64 → (IntKind.i64.wrap (1 * 2 ^ a0.toNat)) = ji12 := shl_small hji12
            have hji12u : (IntKind.i64.wrap (2 ^ min a0.toNat 64)) = ji12 := by have h_ := hji12_; rw [Int.one_mul] at h_; exact h_
            have hji12v : a0 ≤ 64 → (IntKind.i64.wrap (2 ^ a0.toNat)) = ji12 := fun hle_ => by have h_ := hji12z hle_; rw [Int.one_mul] at h_; exact h_
            have hji12y : (wrap64 (1 * 2 ^ min a0.toNat 64)) = ji12 := (i64_w _).symm.trans hji12_
            have hji12x : a0 ≤ 64 → (wrap64 (1 * 2 ^ a0.toNat)) = ji12 := fun h_ => (i64_w _).symm.trans (hji12z h_)
            by_cases c13 : (ji12) = 0
            · rw [if_pos c13] at H
              exact absurd H (by simp)
            · rw [if_neg c13] at H
              have c13b0 : ((ji12) == 0) = false := beq_eq_false_iff_ne.mpr c13
              have c13b1 : ((ji12) != 0) = true := bne_iff_ne.mpr c13
              replace H := Option.bind_eq_some_iff.mp H
              obtain ⟨t197, A140, H⟩ := H
              replace H : (some (Int.tmod a1 (ji12), (a1 == (wrap64 ((Int.tmod a1 (ji12)) + (shl .i64 (wrap64 (a0 - t197)) a0)))), 0)) = some (r1, r2, r3) := H
              have A14 := Aside0.mk A140
              clear A140
              have c15b0 := eq_true (of_decide_eq_true (by first | (with_reducible assumption) | assumption) : 0 ≤ a0)
              obtain ⟨ji16, hji16⟩ : ∃ j_ : Int, (shl .i64 (wrap64 (a0 - t197)) a0) = j_ := ⟨_, rfl⟩
              replace H : (some (Int.tmod a1 (ji12), (a1 == (wrap64 ((Int.tmod a1 (ji12)) + (ji16)))), 0)) = some (r1, r2, r3) := by first | (rw [hji16] at H; exact H) | (simp only [hji16] at H ⊢; exact H)
              (try rw [hji16] at A3)
              (try rw [hji16] at A6)
              (try rw [hji16] at A14)
              have hji16_ : (IntKind.i64.wrap ((wrap64 (a0 - t197)) * 2 ^ min a0.toNat 64)) = ji16 := hji16
              have hji16z : a0 ≤ 64 → (IntKind.i64.wrap ((wrap64 (a0 - t197)) * 2 ^ a0.toNat)) = ji16 := shl_small hji16
              have hji16y : (wrap64 ((wrap64 (a0 - t197)) * 2 ^ min a0.toNat 64)) = ji16 := (i64_w _).symm.trans hji16_
              have hji16x : a0 ≤ 64 → (wrap64 ((wrap64 (a0 - t197)) * 2 ^ a0.toNat)) = ji16 := fun h_ => (i64_w _).symm.trans (hji16z h_)
              simp only [Option.some.injEq, Prod.mk.injEq] at H
              obtain ⟨rfl, rfl, rfl⟩ := H
              go_enter Try.func22, Try.ntmps22
              go_wp2_with (first | (go_at_call 50; (with_reducible refine (neonwrightref03_Tubes.calls a0 true _ A3.out).mono ?_); rintro e w' ⟨rfl, ⟨nd, rfl⟩⟩; (try first | exact ⟨rfl, _, World.drewN_drewN _ _ _⟩ | exact ⟨rfl, _, Eq.trans (World.drewN_drewN _ _ _) (congrArg (World.drewN _) (Nat.add_assoc _ _ _))⟩)) | (go_at_call 52; (with_reducible refine (neonwrightref03_bits.calls k a0 t196 _ A6.out).mono ?_); rintro e w' ⟨rfl, ⟨nd, rfl⟩⟩; (try first | exact ⟨rfl, _, World.drewN_drewN _ _ _⟩ | exact ⟨rfl, _, Eq.trans (World.drewN_drewN _ _ _) (congrArg (World.drewN _) (Nat.add_assoc _ _ _))⟩)) | (go_at_call 35; (with_reducible refine (neonwrightref03_Lit.calls k (Int.tmod a1 (ji12)) t197 _ A14.out).mono ?_); rintro e w' ⟨rfl, ⟨nd, rfl⟩⟩; (try first | exact ⟨rfl, _, World.drewN_drewN _ _ _⟩ | exact ⟨rfl, _, Eq.trans (World.drewN_drewN _ _ _) (congrArg (World.drewN _) (Nat.add_assoc _ _ _))⟩)))
              repeat (go_quiet (first | (go_at_call 50; (with_reducible refine (neonwrightref03_Tubes.calls a0 true _ A3.out).mono ?_); rintro e w' ⟨rfl, ⟨nd, rfl⟩⟩; (try first | exact ⟨rfl, _, World.drewN_drewN _ _ _⟩ | exact ⟨rfl, _, Eq.trans (World.drewN_drewN _ _ _) (congrArg (World.drewN _) (Nat.add_assoc _ _ _))⟩)) | (go_at_call 52; (with_reducible refine (neonwrightref03_bits.calls k a0 t196 _ A6.out).mono ?_); rintro e w' ⟨rfl, ⟨nd, rfl⟩⟩; (try first | exact ⟨rfl, _, World.drewN_drewN _ _ _⟩ | exact ⟨rfl, _, Eq.trans (World.drewN_drewN _ _ _) (congrArg (World.drewN _) (Nat.add_assoc _ _ _))⟩)) | (go_at_call 35; (with_reducible refine (neonwrightref03_Lit.calls k (Int.tmod a1 (ji12)) t197 _ A14.out).mono ?_); rintro e w' ⟨rfl, ⟨nd, rfl⟩⟩; (try first | exact ⟨rfl, _, World.drewN_drewN _ _ _⟩ | exact ⟨rfl, _, Eq.trans (World.drewN_drewN _ _ _) (congrArg (World.drewN _) (Nat.add_assoc _ _ _))⟩))); try go_wp2_with (first | (go_at_call 50; (with_reducible refine (neonwrightref03_Tubes.calls a0 true _ A3.out).mono ?_); rintro e w' ⟨rfl, ⟨nd, rfl⟩⟩; (try first | exact ⟨rfl, _, World.drewN_drewN _ _ _⟩ | exact ⟨rfl, _, Eq.trans (World.drewN_drewN _ _ _) (congrArg (World.drewN _) (Nat.add_assoc _ _ _))⟩)) | (go_at_call 52; (with_reducible refine (neonwrightref03_bits.calls k a0 t196 _ A6.out).mono ?_); rintro e w' ⟨rfl, ⟨nd, rfl⟩⟩; (try first | exact ⟨rfl, _, World.drewN_drewN _ _ _⟩ | exact ⟨rfl, _, Eq.trans (World.drewN_drewN _ _ _) (congrArg (World.drewN _) (Nat.add_assoc _ _ _))⟩)) | (go_at_call 35; (with_reducible refine (neonwrightref03_Lit.calls k (Int.tmod a1 (ji12)) t197 _ A14.out).mono ?_); rintro e w' ⟨rfl, ⟨nd, rfl⟩⟩; (try first | exact ⟨rfl, _, World.drewN_drewN _ _ _⟩ | exact ⟨rfl, _, Eq.trans (World.drewN_drewN _ _ _) (congrArg (World.drewN _) (Nat.add_assoc _ _ _))⟩))))
              go_ret3
              exact ⟨by first | rfl | (simp; done) | (simp only [← hji7, ← hji9, ← hji12, ← hji16] <;> (first | rfl | simp)) | (simp [*]; done), by repeat (first | exact Drawn0.refl _ | apply Drawn0.step)⟩
          · rw [if_neg c11] at H
            exact absurd H (by simp)
      · rw [if_neg c8] at H
        exact absurd H (by simp)
  · replace c4 := Bool.eq_false_iff.mpr c4
    subst c4
    have H1 : (some (0, false, 2)) = some (r1, r2, r3) := by rw [if_neg (show ¬ (false = true) by decide)] at H; exact H
    clear H
    have H := H1
    clear H1
    simp only [Option.some.injEq, Prod.mk.injEq] at H
    obtain ⟨rfl, rfl, rfl⟩ := H
    go_enter Try.func22, Try.ntmps22
    go_wp2_with (first | (go_at_call 50; (with_reducible refine (neonwrightref03_Tubes.calls a0 false _ A3.out).mono ?_); rintro e w' ⟨rfl, ⟨nd, rfl⟩⟩; (try first | exact ⟨rfl, _, World.drewN_drewN _ _ _⟩ | exact ⟨rfl, _, Eq.trans (World.drewN_drewN _ _ _) (congrArg (World.drewN _) (Nat.add_assoc _ _ _))⟩)))
    repeat (go_quiet (first | (go_at_call 50; (with_reducible refine (neonwrightref03_Tubes.calls a0 false _ A3.out).mono ?_); rintro e w' ⟨rfl, ⟨nd, rfl⟩⟩; (try first | exact ⟨rfl, _, World.drewN_drewN _ _ _⟩ | exact ⟨rfl, _, Eq.trans (World.drewN_drewN _ _ _) (congrArg (World.drewN _) (Nat.add_assoc _ _ _))⟩))); try go_wp2_with (first | (go_at_call 50; (with_reducible refine (neonwrightref03_Tubes.calls a0 false _ A3.out).mono ?_); rintro e w' ⟨rfl, ⟨nd, rfl⟩⟩; (try first | exact ⟨rfl, _, World.drewN_drewN _ _ _⟩ | exact ⟨rfl, _, Eq.trans (World.drewN_drewN _ _ _) (congrArg (World.drewN _) (Nat.add_assoc _ _ _))⟩))))
    go_ret3
    exact ⟨by first | rfl | (simp; done) | (simp [*]; done), by repeat (first | exact Drawn0.refl _ | apply Drawn0.step)⟩

end Go.Proofs.Ytgchhheajngbfaa.P

namespace Go.Proofs.Ytgchhheajngbfaa.P
open Go.RowKit Go.Proofs.YtgchhheajngbfaaW.PrintWords Go.Proofs.YtgchhheajngbfaaW.PrintLast Go.Proofs.YtgchhheajngbfaaW.PrintMore
attribute [local go_sem] max2_int min2_int max_two min_two max_three min_three max_four min_four   -- for this text's walks alone
set_option linter.unusedVariables false
set_option linter.unusedSimpArgs false

/-! ### neonwrightref03_Covers: function 23 -/
def neonwrightref03_Covers.f (a0 : Int) (a1 : Int) : Option (Bool) := some ((Go.bits .and .i64 a0 a1) == a1)
set_option maxHeartbeats 8000000 in
set_option maxRecDepth 100000 in
theorem neonwrightref03_Covers.calls (a0 : Int) (a1 : Int) (r : Bool) (w : World) (h : neonwrightref03_Covers.f a0 a1 = some r) :
    Calls Try.prog 23 #[.int .i64 a0, .int .i64 a1] w fun e w' => e = .returned (.bool r) ∧ Drawn0 w w' := by
  have H : (some ((Go.bits .and .i64 a0 a1) == a1)) = some r := h
  clear h
  obtain rfl := Option.some.inj H
  go_enter Try.func23, Try.ntmps23
  go_wp2
  go_ret
  exact ⟨by first | rfl | (simp; done) | (simp [*]; done), by repeat (first | exact Drawn0.refl _ | apply Drawn0.step)⟩

end Go.Proofs.Ytgchhheajngbfaa.P

set_option linter.unusedSimpArgs false
set_option linter.unusedVariables false
namespace Go.Proofs.Ytgchhheajngbfaa.P
open Go.RowKit Go.Proofs.YtgchhheajngbfaaW.PrintWords Go.Proofs.YtgchhheajngbfaaW.PrintMore Go.Proofs.Ytgchhheajngbfaa.Kit Go.Lib

theorem popAux_zero : ∀ k, popAux k 0 = 0 := by
  intro k
  induction k with
  | zero => rfl
  | succ k ih => simp only [popAux]; simpa using ih
theorem popAux_le : ∀ f g x, x < 2 ^ f → popAux g x ≤ f := by
  intro f
  induction f with
  | zero =>
    intro g x h
    obtain rfl : x = 0 := by simpa using h
    rw [popAux_zero]
    exact Nat.le_refl _
  | succ f ih =>
    intro g x h
    cases g with
    | zero => exact Nat.zero_le _
    | succ g =>
      simp only [popAux]
      have := ih g (x / 2) (by rw [Nat.pow_succ] at h; omega)
      omega
theorem popAux_fuel : ∀ f g x, x < 2 ^ f → f ≤ g → popAux g x = popAux f x := by
  intro f
  induction f with
  | zero =>
    intro g x h _
    obtain rfl : x = 0 := by simpa using h
    rw [popAux_zero, popAux_zero]
  | succ f ih =>
    intro g x h hg
    obtain ⟨g, rfl⟩ : ∃ j, g = j + 1 := ⟨g - 1, by omega⟩
    simp only [popAux]
    rw [ih g (x / 2) (by rw [Nat.pow_succ] at h; omega) (by omega)]
theorem ones_lt {n s : Nat} (h : s < 2 ^ n) : onesCount s ≤ n := popAux_le n 64 s h

theorem shl_nat (x n : Nat) (hn : n ≤ 63) (h : x * 2 ^ n < 9223372036854775808) : shl .i64 (x : Int) (n : Int) = ((x * 2 ^ n : Nat) : Int) := by
  unfold shl
  have hb : IntKind.i64.bits = 64 := rfl
  rw [hb, Nat.min_eq_left (by omega), IntKind.wrap_i64]
  have h3 : ((x : Int) * (2 : Int) ^ ((n : Int)).toNat) = ((x * 2 ^ n : Nat) : Int) := by simp
  rw [h3]
  generalize x * 2 ^ n = p at h
  omega

theorem lit_l0 : ∀ (f x acc : Nat), x < 2 ^ f → f ≤ 62 → acc + f ≤ 64 → Ev (fun k => neonwrightref03_Lit.l0 k (x : Int) (acc : Int)) ((acc + popAux f x : Nat) : Int) := by
  intro f
  induction f with
  | zero =>
    intro x acc h _ _
    obtain rfl : x = 0 := by simpa using h
    refine Ev.step (f := fun _ => some ((acc + popAux 0 0 : Nat) : Int)) (fun k => ?_) (Ev.now _)
    simp only [neonwrightref03_Lit.l0]
    rw [if_neg (by omega)]
    simp [popAux]
  | succ f ih =>
    intro x acc h hf ha
    rcases Nat.eq_zero_or_pos x with rfl | hx
    · refine Ev.step (f := fun _ => some ((acc + popAux (f + 1) 0 : Nat) : Int)) (fun k => ?_) (Ev.now _)
      simp only [neonwrightref03_Lit.l0]
      rw [if_neg (by omega), popAux_zero]
      rfl
    · have hp := pow_le62 (n := f + 1) (by omega)
      by_cases ha64 : acc + x % 2 + f ≤ 64
      · have h1 := ih (x / 2) (acc + x % 2) (by rw [Nat.pow_succ] at h; omega) (by omega) ha64
        have e0 : acc + popAux (f + 1) x = acc + x % 2 + popAux f (x / 2) := by simp only [popAux]; omega
        rw [e0]
        refine Ev.step (f := fun k => neonwrightref03_Lit.l0 k ((x / 2 : Nat) : Int) ((acc + x % 2 : Nat) : Int)) (fun k => ?_) h1
        simp only [neonwrightref03_Lit.l0]
        have e1 : wrap64 (Int.tdiv (x : Int) 2) = ((x / 2 : Nat) : Int) := by
          have : Int.tdiv (x : Int) 2 = ((x / 2 : Nat) : Int) := tdivn x 2
          rw [this]
          exact w64n _ (by omega)
        have e2 : wrap64 ((acc : Int) + Int.tmod (x : Int) 2) = ((acc + x % 2 : Nat) : Int) := by
          have : Int.tmod (x : Int) 2 = ((x % 2 : Nat) : Int) := tmodn x 2
          rw [this, ← Int.natCast_add]
          exact w64n _ (by omega)
        rw [if_pos (by omega), e1, e2]
      · exfalso
        omega
/-- The reference's way of counting. -/
theorem lit_ev (s f : Nat) (h : s < 2 ^ f) (hf : f ≤ 62) : Ev (fun k => neonwrightref03_Lit.f k (s : Int)) (onesCount s : Int) := by
  have h1 := lit_l0 f s 0 h hf (by omega)
  rw [Nat.zero_add, ← popAux_fuel f 64 s h (by omega)] at h1
  exact h1

theorem sized_t {n : Nat} (h1 : 1 ≤ n) (h2 : n ≤ 12) : code_sized.f (n : Int) = some true := by
  unfold code_sized.f
  rw [if_pos (by omega), decide_eq_true (by omega)]
theorem sized_f {n : Int} (h : n < 1 ∨ 12 < n) : code_sized.f n = some false := by
  unfold code_sized.f
  by_cases h1 : n ≥ 1
  · rw [if_pos h1, decide_eq_false (by omega)]
  · rw [if_neg h1]
theorem tubes_t {n : Nat} (h1 : 1 ≤ n) (h2 : n ≤ 12) : neonwrightref03_Tubes.f (n : Int) = some true := by
  unfold neonwrightref03_Tubes.f
  rw [if_pos (by omega), decide_eq_true (by omega)]
theorem tubes_f {n : Int} (h : n < 1 ∨ 12 < n) : neonwrightref03_Tubes.f n = some false := by
  unfold neonwrightref03_Tubes.f
  by_cases h1 : n ≥ 1
  · rw [if_pos h1, decide_eq_false (by omega)]
  · rw [if_neg h1]
theorem sign_t {n s : Nat} (h2 : n ≤ 12) (h : s < 2 ^ n) : code_sign.f (n : Int) (s : Int) = some true := by
  unfold code_sign.f
  rw [if_pos (by omega), if_pos (by omega), shl1n (by omega), decide_eq_true (by omega)]
theorem sign_f {n : Nat} {s : Int} (h2 : n ≤ 12) (h : s < 0 ∨ ((2 ^ n : Nat) : Int) ≤ s) : code_sign.f (n : Int) s = some false := by
  unfold code_sign.f
  by_cases h1 : s ≥ 0
  · rw [if_pos h1, if_pos (by omega), shl1n (by omega), decide_eq_false (by omega)]
  · rw [if_neg h1]
def wordN (n s : Nat) : Nat := s + (n - onesCount s) * 2 ^ n
theorem wordN_lt {n s : Nat} (h2 : n ≤ 12) (h : s < 2 ^ n) : wordN n s < 2 ^ 20 ∧ (n - onesCount s) * 2 ^ n ≤ 12 * 4096 ∧ 2 ^ n ≤ 4096 := by
  have hp : 2 ^ n ≤ 2 ^ 12 := Nat.pow_le_pow_right (by decide) h2
  have hp' : 2 ^ n ≤ 4096 := hp
  have := Nat.mul_le_mul (show n - onesCount s ≤ 12 from by omega) hp'
  unfold wordN
  omega
theorem word_t {n s : Nat} (h2 : n ≤ 12) (h : s < 2 ^ n) : code_word.f (n : Int) (s : Int) = some (wordN n s : Int) := by
  obtain ⟨l1, l2, l3⟩ := wordN_lt h2 h
  have l1' : wordN n s < 1048576 := l1
  have ho := ones_lt h
  unfold code_word.f bits_OnesCount.f
  have e0 : IntKind.u64.wrap (s : Int) = (s : Int) := u64w (by omega)
  have e1 : wrap64 ((n : Int) - (onesCount s : Int)) = ((n - onesCount s : Nat) : Int) := by rw [w64 (by omega) (by omega)]; omega
  rw [e0, if_pos (by omega), Int.toNat_natCast]
  simp only [Option.bind_some]
  rw [if_pos (by omega), e1, shl_nat _ _ (by omega) (by omega), or64 _ _ (by omega) (by omega)]
  congr 2
  unfold wordN
  rw [Nat.or_comm, Nat.mul_comm, ← Nat.two_pow_add_eq_or_of_lt h]
  omega
theorem berger_t {n s : Nat} (h1 : 1 ≤ n) (h2 : n ≤ 12) (h : s < 2 ^ n) : code_Berger.f (n : Int) (s : Int) = some ((wordN n s : Int), 0) := by
  unfold code_Berger.f
  rw [sized_t h1 h2]
  simp only [Option.bind_some, if_true]
  rw [sign_t h2 h]
  simp only [Option.bind_some, if_true]
  rw [word_t h2 h]
  rfl
theorem berger_f {n s : Int} (h : n < 1 ∨ 12 < n ∨ s < 0 ∨ ((2 ^ n.toNat : Nat) : Int) ≤ s) : code_Berger.f n s = some (0, 2) := by
  unfold code_Berger.f
  by_cases h1 : n < 1 ∨ 12 < n
  · rw [sized_f h1]
    rfl
  · obtain ⟨m, rfl⟩ : ∃ m : Nat, n = m := ⟨n.toNat, by omega⟩
    rw [sized_t (by omega) (by omega)]
    simp only [Option.bind_some, if_true]
    rw [Int.toNat_natCast] at h
    rw [sign_f (by omega) (by omega)]
    rfl
theorem rword {n s : Nat} (h2 : n ≤ 12) (h : s < 2 ^ n) : wrap64 ((s : Int) + (shl .i64 (wrap64 ((n : Int) - (onesCount s : Int))) (n : Int))) = (wordN n s : Int) := by
  obtain ⟨l1, l2, l3⟩ := wordN_lt h2 h
  have l1' : wordN n s < 1048576 := l1
  have ho := ones_lt h
  have e1 : wrap64 ((n : Int) - (onesCount s : Int)) = ((n - onesCount s : Nat) : Int) := by rw [w64 (by omega) (by omega)]; omega
  rw [e1, shl_nat _ _ (by omega) (by omega), ← Int.natCast_add]
  exact w64n _ (by unfold wordN at l1'; omega)
theorem rberger_t {n s : Nat} (h1 : 1 ≤ n) (h2 : n ≤ 12) (h : s < 2 ^ n) : Ev (fun k => neonwrightref03_Berger.f k (n : Int) (s : Int)) ((wordN n s : Int), 0) := by
  refine Ev.congr (f := fun k => (neonwrightref03_Lit.f k (s : Int)).bind fun t192 => (some (wrap64 ((s : Int) + (shl .i64 (wrap64 ((n : Int) - t192)) (n : Int))), 0))) (fun k => ?_) ?_
  · simp only [neonwrightref03_Berger.f]
    rw [tubes_t h1 h2]
    simp only [Option.bind_some, if_true]
    rw [if_neg (by omega), if_pos (by omega), shl1n (by omega), if_neg (by omega)]
  · refine Ev.bnd (lit_ev s n h (by omega)) (Ev.ret ?_)
    rw [rword h2 h]
theorem rberger_f {n s : Int} (h : n < 1 ∨ 12 < n ∨ s < 0 ∨ ((2 ^ n.toNat : Nat) : Int) ≤ s) : Ev (fun k => neonwrightref03_Berger.f k n s) ((0 : Int), (2 : Int)) := by
  refine Ev.at 0 (fun k _ => ?_)
  unfold neonwrightref03_Berger.f
  by_cases h1 : n < 1 ∨ 12 < n
  · rw [tubes_f h1]
    rfl
  · obtain ⟨m, rfl⟩ : ∃ m : Nat, n = m := ⟨n.toNat, by omega⟩
    rw [tubes_t (by omega) (by omega)]
    simp only [Option.bind_some, if_true]
    rw [Int.toNat_natCast] at h
    by_cases h2 : s < 0
    · rw [if_pos h2]
    · rw [if_neg h2, if_pos (by omega), shl1n (by omega), if_pos (by omega)]

/-! Decode. -/
theorem bitLen12 : ∀ n : Fin 13, Lib.bitLen n.val ≤ 4 := by decide +kernel
theorem rbits_l0 : ∀ (f x acc : Nat), x < 2 ^ f → f ≤ 62 → acc + f ≤ 64 → Ev (fun k => neonwrightref03_bits.l0 k (x : Int) (acc : Int)) ((acc + bitLenAux f x : Nat) : Int) := by
  intro f
  induction f with
  | zero =>
    intro x acc h _ _
    obtain rfl : x = 0 := by simpa using h
    refine Ev.step (f := fun _ => some ((acc + bitLenAux 0 0 : Nat) : Int)) (fun k => ?_) (Ev.now _)
    simp only [neonwrightref03_bits.l0]
    rw [if_neg (by omega)]
    simp [bitLenAux]
  | succ f ih =>
    intro x acc h hf ha
    have hp := pow_le62 (n := f + 1) (by omega)
    rcases Nat.eq_zero_or_pos x with rfl | hx
    · refine Ev.step (f := fun _ => some ((acc + bitLenAux (f + 1) 0 : Nat) : Int)) (fun k => ?_) (Ev.now _)
      simp only [neonwrightref03_bits.l0]
      rw [if_neg (by omega)]
      simp [bitLenAux]
    · have h1 := ih (x / 2) (acc + 1) (by rw [Nat.pow_succ] at h; omega) (by omega) (by omega)
      have e0 : acc + bitLenAux (f + 1) x = acc + 1 + bitLenAux f (x / 2) := by simp only [bitLenAux]; rw [if_neg (by omega)]; omega
      rw [e0]
      refine Ev.step (f := fun k => neonwrightref03_bits.l0 k ((x / 2 : Nat) : Int) ((acc + 1 : Nat) : Int)) (fun k => ?_) h1
      simp only [neonwrightref03_bits.l0]
      have e1 : wrap64 (Int.tdiv (x : Int) 2) = ((x / 2 : Nat) : Int) := by
        have : Int.tdiv (x : Int) 2 = ((x / 2 : Nat) : Int) := tdivn x 2
        rw [this]
        exact w64n _ (by omega)
      have e2 : wrap64 ((acc : Int) + 1) = ((acc + 1 : Nat) : Int) := by
        rw [w64 (by omega) (by omega)]; omega
      rw [if_pos (by omega), e1, e2]
theorem rbits_ev (x f : Nat) (h : x < 2 ^ f) (hf : f ≤ 62) : Ev (fun k => neonwrightref03_bits.f k (x : Int)) (Lib.bitLen x : Int) := by
  have h1 := rbits_l0 f x 0 h hf (by omega)
  rw [Nat.zero_add, ← bitLenAux_fuel f x h 64 (by omega)] at h1
  exact h1
theorem pow16 {n m : Nat} (h : n ≤ 12) (hm : m ≤ 4) : 2 ^ (n + m) ≤ 65536 := by
  have : 2 ^ (n + m) ≤ 2 ^ 16 := Nat.pow_le_pow_right (by decide) (by omega)
  simpa using this
theorem wdec (p : Nat) (h0 : 0 < p) (hp : p ≤ 4096) : wrap64 ((p : Int) - 1) = ((p - 1 : Nat) : Int) := by
  rw [w64 (by omega) (by omega)]
  omega
theorem lt_big {p : Nat} (hp : p ≤ 65536) : p < 9223372036854775808 := by omega
theorem mask {n r : Nat} (hn : n ≤ 12) (hr : r < 65536) : Go.bits .and .i64 (r : Int) (wrap64 ((shl .i64 1 (n : Int)) - 1)) = ((r % 2 ^ n : Nat) : Int) := by
  have hp : 2 ^ n ≤ 2 ^ 12 := Nat.pow_le_pow_right (by decide) hn
  have h0 : 0 < 2 ^ n := Nat.two_pow_pos n
  have h62 : n ≤ 62 := by omega
  rw [shl1n h62, wdec (2 ^ n) h0 hp, and64 r (2 ^ n - 1) (lt_big (Nat.le_of_lt hr)) (lt_big (Nat.le_trans (Nat.sub_le _ _) (Nat.le_trans hp (by decide)))), Nat.and_two_pow_sub_one_eq_mod]
theorem int_beq (a b : Nat) : ((a : Int) == (b : Int)) = decide (a = b) := by
  rw [Bool.eq_iff_iff]
  simp
  omega
theorem decode_t {n r : Nat} (h1 : 1 ≤ n) (h2 : n ≤ 12) (h : r < 2 ^ (n + Lib.bitLen n)) : code_Decode.f (n : Int) (r : Int) = some (((r % 2 ^ n : Nat) : Int), decide (wordN n (r % 2 ^ n) = r), 0) := by
  have hb := bitLen12 ⟨n, by omega⟩
  simp only at hb
  have hp := pow16 h2 hb
  have hw : IntKind.u64.wrap (n : Int) = (n : Int) := u64w (by omega)
  have e1 : wrap64 ((n : Int) + (Lib.bitLen n : Int)) = ((n + Lib.bitLen n : Nat) : Int) := by rw [w64 (by omega) (by omega)]; omega
  have hm : r % 2 ^ n < 2 ^ n := Nat.mod_lt _ (Nat.two_pow_pos n)
  unfold code_Decode.f bits_Len.f
  rw [sized_t h1 h2]
  rw [Option.bind_some, if_pos rfl]
  rw [if_neg (by omega), hw, if_pos (by omega), Int.toNat_natCast]
  rw [Option.bind_some]
  have hd := int_beq (wordN n (r % 2 ^ n)) r
  have g1 : (0 : Int) ≤ ((n + Lib.bitLen n : Nat) : Int) := Int.natCast_nonneg _
  have g2 : n + Lib.bitLen n ≤ 62 := by omega
  have g3 : ¬ ((r : Int) ≥ ((2 ^ (n + Lib.bitLen n) : Nat) : Int)) := Int.not_le.2 (Int.ofNat_lt.2 h)
  have g4 : (0 : Int) ≤ (n : Int) := Int.natCast_nonneg _
  rw [e1, if_pos g1, shl1n g2, if_neg g3, if_pos g4, mask h2 (Nat.lt_of_lt_of_le h hp), word_t h2 hm]
  rw [Option.bind_some]
  rw [hd]
theorem decode_f {n r : Int} (h : n < 1 ∨ 12 < n ∨ r < 0 ∨ ((2 ^ (n.toNat + Lib.bitLen n.toNat) : Nat) : Int) ≤ r) : code_Decode.f n r = some (0, false, 2) := by
  unfold code_Decode.f bits_Len.f
  by_cases h1 : n < 1 ∨ 12 < n
  · rw [sized_f h1]
    rfl
  · obtain ⟨m, rfl⟩ : ∃ m : Nat, n = m := ⟨n.toNat, by omega⟩
    rw [sized_t (by omega) (by omega)]
    rw [Option.bind_some, if_pos rfl]
    rw [Int.toNat_natCast] at h
    by_cases h2 : r < 0
    · rw [if_pos h2]
    · have hb := bitLen12 ⟨m, by omega⟩
      simp only at hb
      have hw : IntKind.u64.wrap (m : Int) = (m : Int) := u64w (by omega)
      have e1 : wrap64 ((m : Int) + (Lib.bitLen m : Int)) = ((m + Lib.bitLen m : Nat) : Int) := by rw [w64 (by omega) (by omega)]; omega
      rw [if_neg h2, hw, if_pos (by omega), Int.toNat_natCast]
      rw [Option.bind_some]
      rw [e1, if_pos (by omega), shl1n (by omega), if_pos (by omega)]
theorem rdecode_t {n r : Nat} (h1 : 1 ≤ n) (h2 : n ≤ 12) (h : r < 2 ^ (n + Lib.bitLen n)) : Ev (fun k => neonwrightref03_Decode.f k (n : Int) (r : Int)) (((r % 2 ^ n : Nat) : Int), decide (wordN n (r % 2 ^ n) = r), 0) := by
  have hb := bitLen12 ⟨n, by omega⟩
  simp only at hb
  have hp := pow16 h2 hb
  have e1 : wrap64 ((n : Int) + (Lib.bitLen n : Int)) = ((n + Lib.bitLen n : Nat) : Int) := by rw [w64 (by omega) (by omega)]; omega
  have hm : r % 2 ^ n < 2 ^ n := Nat.mod_lt _ (Nat.two_pow_pos n)
  have h0 : 0 < 2 ^ n := Nat.two_pow_pos n
  have h13 : n < 2 ^ 4 := by simp only [Nat.reducePow]; omega
  refine Ev.congr (f := fun k => (neonwrightref03_bits.f k (n : Int)).bind fun t196 => (if 0 ≤ (wrap64 ((n : Int) + t196)) then (if (r : Int) ≥ (shl .i64 1 (wrap64 ((n : Int) + t196))) then (some (0, false, 2)) else (if 0 ≤ (n : Int) then (if ((2 ^ n : Nat) : Int) = 0 then (none) else ((neonwrightref03_Lit.f k (((r % 2 ^ n : Nat) : Int))).bind fun t197 => (some ((((r % 2 ^ n : Nat) : Int)), ((r : Int) == (wrap64 ((((r % 2 ^ n : Nat) : Int)) + (shl .i64 (wrap64 ((n : Int) - t197)) (n : Int))))), 0)))) else (none))) else (none))) (fun k => ?_) ?_
  · unfold neonwrightref03_Decode.f
    rw [tubes_t h1 h2]
    rw [Option.bind_some, if_pos rfl]
    rw [if_neg (by omega), shl1n (by omega), tmodn]
  · refine Ev.bnd (rbits_ev n 4 h13 (by omega)) (Ev.pos (by rw [e1]; omega) (Ev.neg (by rw [e1, shl1n (by omega)]; omega) (Ev.pos (by omega) (Ev.neg (by omega) (Ev.bnd (lit_ev _ n hm (by omega)) (Ev.ret ?_))))))
    rw [rword h2 hm, int_beq]
    rw [show decide (r = wordN n (r % 2 ^ n)) = decide (wordN n (r % 2 ^ n) = r) from decide_eq_decide.2 eq_comm]
theorem rdecode_f {n r : Int} (h : n < 1 ∨ 12 < n ∨ r < 0 ∨ ((2 ^ (n.toNat + Lib.bitLen n.toNat) : Nat) : Int) ≤ r) : Ev (fun k => neonwrightref03_Decode.f k n r) ((0 : Int), false, (2 : Int)) := by
  by_cases h1 : n < 1 ∨ 12 < n
  · refine Ev.at 0 (fun k _ => ?_)
    unfold neonwrightref03_Decode.f
    rw [tubes_f h1]
    rfl
  · obtain ⟨m, rfl⟩ : ∃ m : Nat, n = m := ⟨n.toNat, by omega⟩
    rw [Int.toNat_natCast] at h
    by_cases h2 : r < 0
    · refine Ev.at 0 (fun k _ => ?_)
      unfold neonwrightref03_Decode.f
      rw [tubes_t (by omega) (by omega)]
      rw [Option.bind_some, if_pos rfl]
      rw [if_pos h2]
    · have hb := bitLen12 ⟨m, by omega⟩
      simp only at hb
      have e1 : wrap64 ((m : Int) + (Lib.bitLen m : Int)) = ((m + Lib.bitLen m : Nat) : Int) := by rw [w64 (by omega) (by omega)]; omega
      have h13 : m < 2 ^ 4 := by simp only [Nat.reducePow]; omega
      obtain ⟨k0, hk0⟩ := rbits_ev m 4 h13 (by omega)
      refine Ev.at k0 (fun k hk => ?_)
      unfold neonwrightref03_Decode.f
      rw [tubes_t (by omega) (by omega)]
      rw [Option.bind_some, if_pos rfl]
      have hk1 : neonwrightref03_bits.f k (m : Int) = some (Lib.bitLen m : Int) := hk0 k hk
      rw [if_neg h2, hk1]
      rw [Option.bind_some]
      rw [e1, if_pos (by omega), shl1n (by omega), if_pos (by omega)]

end Go.Proofs.Ytgchhheajngbfaa.P

set_option linter.unusedSimpArgs false
set_option linter.unusedVariables false
namespace Go.Proofs.Ytgchhheajngbfaa.P
open Go.Lib

/-- The brackets of a sign: the dark tubes that are open, the lit ones that are alone, the lit ones that are matched. -/
structure Br where
  op : List Nat
  al : List Nat
  fi : Nat
def brStep (s : Nat) (b : Br) (t : Nat) : Br := if s.testBit t = false then ⟨b.op ++ [t], b.al, b.fi⟩ else if b.op = [] then ⟨b.op, b.al ++ [t], b.fi⟩ else ⟨b.op.dropLast, b.al, b.fi + 2 ^ t⟩
def brs (s : Nat) : Nat → Br
  | 0 => ⟨[], [], 0⟩
  | t + 1 => brStep s (brs s t) t
structure BrOk (t : Nat) (b : Br) : Prop where
  asc : (b.al ++ b.op).Pairwise (· < ·)
  lt : ∀ x ∈ b.al ++ b.op, x < t
  fi : b.fi < 2 ^ t
  no : ∀ x ∈ b.al ++ b.op, b.fi.testBit x = false
theorem testBit_plus (a x y : Nat) (h : a < 2 ^ x) : (a + 2 ^ x).testBit y = (a.testBit y || decide (y = x)) := by
  have h' := Nat.two_pow_add_eq_or_of_lt h 1
  rw [Nat.mul_one] at h'
  rw [Nat.add_comm, h', Nat.testBit_or, Nat.testBit_two_pow]
  by_cases e : x = y
  · subst e; simp
  · have e2 : ¬ y = x := fun h => e h.symm
    simp [e, e2]
theorem br_ok (s : Nat) : ∀ t, BrOk t (brs s t)
  | 0 => ⟨List.Pairwise.nil, (fun x hx => by cases hx), by show 0 < 2 ^ 0; decide, (fun x hx => by cases hx)⟩
  | t + 1 => by
    obtain ⟨h1, h2, h3, h4⟩ := br_ok s t
    have hp : 2 ^ (t + 1) = 2 ^ t + 2 ^ t := by rw [Nat.pow_succ]; omega
    have hnt : (brs s t).fi.testBit t = false := Nat.testBit_lt_two_pow h3
    show BrOk (t + 1) (brStep s (brs s t) t)
    unfold brStep
    split
    · refine ⟨?_, ?_, by show (brs s t).fi < _; omega, ?_⟩
      · rw [← List.append_assoc, List.pairwise_append]
        refine ⟨h1, List.pairwise_singleton _ _, fun a ha b hb => ?_⟩
        rw [List.mem_singleton.1 hb]
        exact h2 a ha
      · intro x hx
        rw [← List.append_assoc] at hx
        rcases List.mem_append.1 hx with h | h
        · have := h2 x h; omega
        · rw [List.mem_singleton.1 h]; omega
      · intro x hx
        rw [← List.append_assoc] at hx
        rcases List.mem_append.1 hx with h | h
        · exact h4 x h
        · rw [List.mem_singleton.1 h]; exact hnt
    · split
      · rename_i hop
        rw [hop, List.append_nil] at h1 h2 h4
        refine ⟨?_, ?_, by show (brs s t).fi < _; omega, ?_⟩
        · show ((brs s t).al ++ [t] ++ (brs s t).op).Pairwise _
          rw [hop, List.append_nil, List.pairwise_append]
          refine ⟨h1, List.pairwise_singleton _ _, fun a ha b hb => ?_⟩
          rw [List.mem_singleton.1 hb]
          exact h2 a ha
        · intro x hx
          have hx' : x ∈ (brs s t).al ++ [t] ++ (brs s t).op := hx
          rw [hop, List.append_nil] at hx'
          rcases List.mem_append.1 hx' with h | h
          · have := h2 x h; omega
          · rw [List.mem_singleton.1 h]; omega
        · intro x hx
          have hx' : x ∈ (brs s t).al ++ [t] ++ (brs s t).op := hx
          rw [hop, List.append_nil] at hx'
          rcases List.mem_append.1 hx' with h | h
          · exact h4 x h
          · rw [List.mem_singleton.1 h]; exact hnt
      · have hsub : ((brs s t).al ++ (brs s t).op.dropLast).Sublist ((brs s t).al ++ (brs s t).op) := List.Sublist.append (List.Sublist.refl _) (List.dropLast_sublist _)
        refine ⟨h1.sublist hsub, fun x hx => ?_, ?_, fun x hx => ?_⟩
        · have := h2 x (hsub.subset hx); omega
        · show (brs s t).fi + 2 ^ t < _; omega
        · have hx' := hsub.subset hx
          show ((brs s t).fi + 2 ^ t).testBit x = false
          rw [testBit_plus _ _ _ h3, h4 x hx']
          have := h2 x hx'
          simp; omega
/-- The free tubes of a sign, and the chain that lights them one by one. -/
def free (n s : Nat) : List Nat := (brs s n).al ++ (brs s n).op
def lights : Nat → List Nat → List Nat
  | f, [] => [f]
  | f, x :: l => f :: lights (f + 2 ^ x) l
def chainN (n s : Nat) : List Nat := lights (brs s n).fi (free n s)
theorem lights_length : ∀ (f : Nat) (l : List Nat), (lights f l).length = l.length + 1
  | _, [] => rfl
  | f, x :: l => by rw [lights, List.length_cons, lights_length, List.length_cons]
theorem plus_or (f x : Nat) (h : f.testBit x = false) : f ||| 2 ^ x = f + 2 ^ x := by
  have hp : 2 ^ (x + 1) = 2 ^ x + 2 ^ x := by rw [Nat.pow_succ]; omega
  have hf := Nat.div_add_mod f (2 ^ (x + 1))
  have hr : f % 2 ^ (x + 1) < 2 ^ (x + 1) := Nat.mod_lt _ (Nat.pow_pos (by decide))
  have hb : (f % 2 ^ (x + 1)).testBit x = false := by rw [Nat.testBit_mod_two_pow, h, Bool.and_false]
  have hr2 : f % 2 ^ (x + 1) < 2 ^ x := by
    rcases Nat.lt_or_ge (f % 2 ^ (x + 1)) (2 ^ x) with h1 | h1
    · exact h1
    · rw [Nat.testBit_of_two_pow_le_and_two_pow_add_one_gt h1 hr] at hb; cases hb
  have h1 := Nat.two_pow_add_eq_or_of_lt hr (f / 2 ^ (x + 1))
  have h2 := Nat.two_pow_add_eq_or_of_lt (show 2 ^ x + f % 2 ^ (x + 1) < 2 ^ (x + 1) by omega) (f / 2 ^ (x + 1))
  have h3 := Nat.two_pow_add_eq_or_of_lt hr2 1
  rw [Nat.mul_one] at h3
  have e1 : f + 2 ^ x = 2 ^ (x + 1) * (f / 2 ^ (x + 1)) + (2 ^ x + f % 2 ^ (x + 1)) := by omega
  rw [e1, h2, h3]
  conv => lhs; rw [← hf, h1]
  rw [Nat.or_assoc, Nat.or_comm (f % 2 ^ (x + 1))]
theorem plus_bit (f x y : Nat) (h : f.testBit x = false) : (f + 2 ^ x).testBit y = (f.testBit y || decide (y = x)) := by
  rw [← plus_or f x h, Nat.testBit_or, Nat.testBit_two_pow]
  by_cases e : x = y
  · subst e; simp
  · have e2 : ¬ y = x := fun h => e h.symm
    simp [e, e2]
def chainsN (n : Nat) : List (List Nat) := ((List.range (2 ^ n)).filter fun s => (brs s n).fi == s).map (chainN n)
def midN (n : Nat) : List Nat := (List.range (2 ^ n)).filter fun s => popAux 12 s == n / 2
def maskGo (N : Nat) : Nat → List Nat → Bool
  | m, [] => m == 2 ^ N - 1
  | m, s :: l => decide (s < N) && (!m.testBit s && maskGo N (m + 2 ^ s) l)
def pairsOk : List Nat → Bool
  | [] => true
  | [_] => true
  | a :: b :: l => (a &&& b == a) && ((popAux 12 b == popAux 12 a + 1) && pairsOk (b :: l))
def chOk (n : Nat) : Bool := ((chainsN n).length == (midN n).length) && (maskGo (2 ^ n) 0 (chainsN n).flatten && (chainsN n).all fun c => pairsOk c && (c.countP fun s => popAux 12 s == n / 2) == 1)
theorem maskGo_spec (N : Nat) : ∀ (l : List Nat) (m : Nat), maskGo N m l = true → (∀ s ∈ l, s < N ∧ m.testBit s = false) ∧ l.Nodup ∧ ∀ s, s < N → m.testBit s = true ∨ s ∈ l
  | [], m, h => by
    refine ⟨(fun s hs => by cases hs), List.Pairwise.nil, fun s hs => .inl ?_⟩
    have e : m = 2 ^ N - 1 := by simpa [maskGo] using h
    rw [e, Nat.testBit_two_pow_sub_one]
    simpa using hs
  | x :: l, m, h => by
    simp only [maskGo, Bool.and_eq_true, decide_eq_true_eq, Bool.not_eq_true'] at h
    obtain ⟨h1, h2, h3⟩ := h
    obtain ⟨i1, i2, i3⟩ := maskGo_spec N l _ h3
    refine ⟨fun s hs => ?_, List.nodup_cons.2 ⟨fun hx => ?_, i2⟩, fun s hs => ?_⟩
    · rcases List.mem_cons.1 hs with rfl | hs
      · exact ⟨h1, h2⟩
      · have := (i1 s hs).2
        rw [plus_bit _ _ _ h2, Bool.or_eq_false_iff] at this
        exact ⟨(i1 s hs).1, this.1⟩
    · have := (i1 x hx).2
      rw [plus_bit _ _ _ h2] at this
      simp at this
    · rcases i3 s hs with h | h
      · rw [plus_bit _ _ _ h2, Bool.or_eq_true, decide_eq_true_eq] at h
        rcases h with h | rfl
        · exact .inl h
        · exact .inr List.mem_cons_self
      · exact .inr (List.mem_cons_of_mem _ h)
theorem pairs_asc : ∀ {c : List Nat}, pairsOk c = true → c.Pairwise (fun a b => a &&& b = a)
  | [], _ => List.Pairwise.nil
  | [a], _ => List.pairwise_singleton _ _
  | a :: b :: l, h => by
    simp only [pairsOk, Bool.and_eq_true, beq_iff_eq] at h
    have ih := pairs_asc h.2.2
    refine List.pairwise_cons.2 ⟨fun x hx => ?_, ih⟩
    rcases List.mem_cons.1 hx with rfl | hx
    · exact h.1
    · have h2 := (List.pairwise_cons.1 ih).1 x hx
      have e : a &&& x = (a &&& b) &&& x := by rw [h.1]
      rw [e, Nat.and_assoc, h2, h.1]
/-- No list of unordered signs is longer than there are chains. -/
theorem antichain_le : ∀ (C : List (List Nat)) (l : List Nat), l.Nodup → (∀ s ∈ l, ∃ c ∈ C, s ∈ c) → (∀ c ∈ C, ∀ a ∈ l, ∀ b ∈ l, a ∈ c → b ∈ c → a = b) → l.length ≤ C.length
  | [], l, _, hin, _ => by
    cases l with
    | nil => exact Nat.le_refl _
    | cons x l => obtain ⟨c, hc, _⟩ := hin x List.mem_cons_self; cases hc
  | c :: C, l, hnd, hin, hone => by
    have h1 := antichain_le C (l.filter fun s => !c.contains s) (hnd.filter _) (fun s hs => by
      rw [List.mem_filter] at hs
      obtain ⟨c', hc', hs'⟩ := hin s hs.1
      rcases List.mem_cons.1 hc' with rfl | hc'
      · have : c'.contains s = true := by simpa using hs'
        rw [this] at hs; exact absurd hs.2 (by decide)
      · exact ⟨c', hc', hs'⟩) (fun c' hc' a ha b hb => hone c' (List.mem_cons_of_mem _ hc') a (List.mem_filter.1 ha).1 b (List.mem_filter.1 hb).1)
    have h2 : (l.filter fun s => c.contains s).length ≤ 1 := by
      have hall : ∀ a ∈ l.filter (fun s => c.contains s), ∀ b ∈ l.filter (fun s => c.contains s), a = b := fun a ha b hb => by
        rw [List.mem_filter] at ha hb
        exact hone c List.mem_cons_self a ha.1 b hb.1 (by simpa using ha.2) (by simpa using hb.2)
      have hn : (l.filter fun s => c.contains s).Nodup := hnd.filter _
      cases hl : l.filter (fun s => c.contains s) with
      | nil => simp
      | cons x r =>
        cases r with
        | nil => simp
        | cons y r =>
          rw [hl] at hall hn
          have := hall x List.mem_cons_self y (List.mem_cons_of_mem _ List.mem_cons_self)
          rw [List.nodup_cons] at hn
          exact absurd (by rw [this]; exact List.mem_cons_self) hn.1
    have h3 : l.length = (l.filter fun s => c.contains s).length + (l.filter fun s => !c.contains s).length := by
      rw [← List.countP_eq_length_filter, ← List.countP_eq_length_filter]
      have := List.length_eq_countP_add_countP (fun s => c.contains s) (l := l)
      rw [this]
      congr 2
      funext s
      cases c.contains s <;> rfl
    rw [List.length_cons]
    omega
/-- What the check says of the chains. -/
theorem chOk_spec {n : Nat} (h : chOk n = true) : (chainsN n).length = (midN n).length ∧ ((chainsN n).flatten.Nodup ∧ (∀ s ∈ (chainsN n).flatten, s < 2 ^ n) ∧ ∀ s, s < 2 ^ n → s ∈ (chainsN n).flatten) ∧ ∀ c ∈ chainsN n, pairsOk c = true ∧ (c.countP fun s => popAux 12 s == n / 2) = 1 := by
  unfold chOk at h
  rw [Bool.and_eq_true, Bool.and_eq_true, List.all_eq_true, beq_iff_eq] at h
  obtain ⟨h0, h⟩ := h
  obtain ⟨h1, h2, h3⟩ := maskGo_spec _ _ _ h.1
  refine ⟨h0, ⟨h2, fun s hs => (h1 s hs).1, fun s hs => ?_⟩, fun c hc => ?_⟩
  · rcases h3 s hs with h | h
    · rw [Nat.zero_testBit] at h; cases h
    · exact h
  · have := h.2 c hc
    rw [Bool.and_eq_true, beq_iff_eq] at this
    exact this
theorem sperner {n : Nat} (h : chOk n = true) (l : List Nat) (hnd : l.Nodup) (hlt : ∀ s ∈ l, s < 2 ^ n) (hun : ∀ a ∈ l, ∀ b ∈ l, a &&& b = a → a = b) : l.length ≤ (chainsN n).length := by
  obtain ⟨_, ⟨h1, h2, h3⟩, h4⟩ := chOk_spec h
  refine antichain_le _ l hnd (fun s hs => ?_) (fun c hc a ha b hb hac hbc => ?_)
  · obtain ⟨c, hc, hs'⟩ := List.mem_flatten.1 (h3 s (hlt s hs))
    exact ⟨c, hc, hs'⟩
  · have hp := pairs_asc (h4 c hc).1
    obtain ⟨i, hi, rfl⟩ := List.mem_iff_getElem.1 hac
    obtain ⟨j, hj, rfl⟩ := List.mem_iff_getElem.1 hbc
    rcases Nat.lt_trichotomy i j with hij | rfl | hij
    · exact hun _ ha _ hb (List.pairwise_iff_getElem.1 hp i j hi hj hij)
    · rfl
    · exact (hun _ hb _ ha (List.pairwise_iff_getElem.1 hp j i hj hi hij)).symm
end Go.Proofs.Ytgchhheajngbfaa.P

set_option linter.unusedSimpArgs false
set_option linter.unusedVariables false
namespace Go.Proofs.Ytgchhheajngbfaa.P
open Go.Lib Go.RowKit Go.Proofs.YtgchhheajngbfaaW.PrintWords Go.Proofs.YtgchhheajngbfaaW.PrintMore Go.Proofs.Ytgchhheajngbfaa.Kit

def chI (l : List Nat) : List Int := l.map fun (n : Nat) => (n : Int)
theorem chI_app (a b : List Nat) : chI (a ++ b) = chI a ++ chI b := List.map_append
theorem chI_len (a : List Nat) : (chI a).length = a.length := List.length_map _
theorem chI_get (a : List Nat) (i : Nat) (h : i < a.length) : rd (chI a) (i : Int) = ((a[i] : Nat) : Int) := by
  rw [rd_get _ i (by rw [chI_len]; exact h)]
  exact List.getElem_map _
theorem brs_len (s : Nat) : ∀ t, (brs s t).al.length + (brs s t).op.length ≤ t
  | 0 => Nat.le_refl _
  | t + 1 => by
    have ih := brs_len s t
    show (brStep s (brs s t) t).al.length + (brStep s (brs s t) t).op.length ≤ t + 1
    unfold brStep
    split
    · show (brs s t).al.length + ((brs s t).op ++ [t]).length ≤ _
      simp; omega
    · split
      · show ((brs s t).al ++ [t]).length + (brs s t).op.length ≤ _
        simp; omega
      · show (brs s t).al.length + (brs s t).op.dropLast.length ≤ _
        simp; omega
theorem bit_and {s t : Nat} : (s &&& 2 ^ t = 0) = (s.testBit t = false) := by
  apply propext
  constructor
  · intro h
    have h1 : (s &&& 2 ^ t).testBit t = false := by rw [h, Nat.zero_testBit]
    rw [Nat.testBit_and, Nat.testBit_two_pow_self, Bool.and_true] at h1
    exact h1
  · intro h
    apply Nat.eq_of_testBit_eq
    intro i
    rw [Nat.testBit_and, Nat.testBit_two_pow, Nat.zero_testBit]
    by_cases e : t = i
    · subst e; rw [h, Bool.false_and]
    · rw [decide_eq_false e, Bool.and_false]
theorem bit_mod {s t : Nat} : (s / 2 ^ t % 2 = 0) = (s.testBit t = false) := by
  rw [Nat.testBit_eq_decide_div_mod_eq, decide_eq_false_iff_not]
  apply propext
  omega
theorem chI_dropLast (l : List Nat) (h : l ≠ []) : (chI l).take (wrap64 (((chI l).length : Int) - 1)).toNat = chI l.dropLast ∨ 9223372036854775807 < l.length := by
  rcases Nat.lt_or_ge 9223372036854775807 l.length with hl | hl
  · exact .inr hl
  · left
    have hp := List.length_pos_iff.2 h
    rw [chI_len, w64 (by omega) (by omega), show (((l.length : Int) - 1)).toNat = l.length - 1 from by omega, List.dropLast_eq_take]
    unfold chI
    rw [List.map_take]

/-- What comes behind the first. -/
def glow : Nat → List Nat → List Nat
  | _, [] => []
  | f, x :: l => (f + 2 ^ x) :: glow (f + 2 ^ x) l
theorem lights_glow : ∀ (f : Nat) (l : List Nat), lights f l = f :: glow f l
  | _, [] => rfl
  | f, x :: l => by rw [lights, glow, lights_glow]
theorem pow12 {x n : Nat} (h : x < n) (hn : n ≤ 12) : 2 ^ x ≤ 2048 := by
  have : 2 ^ x ≤ 2 ^ 11 := Nat.pow_le_pow_right (by decide) (by omega)
  simpa using this
theorem plus_lt {f x n : Nat} (hf : f < 2 ^ n) (hx : x < n) (h : f.testBit x = false) : f + 2 ^ x < 2 ^ n := by
  rw [← plus_or f x h]
  exact Nat.or_lt_two_pow hf (Nat.pow_lt_pow_right (by decide) hx)

structure Glows (n f : Nat) (l : List Nat) : Prop where
  lt : f < 2 ^ n
  asc : l.Pairwise (· < ·)
  mem : ∀ x ∈ l, x < n ∧ f.testBit x = false
theorem Glows.next {n f x : Nat} {l : List Nat} (h : Glows n f (x :: l)) : Glows n (f + 2 ^ x) l := by
  have hx := h.mem x List.mem_cons_self
  refine ⟨plus_lt h.lt hx.1 hx.2, (List.pairwise_cons.1 h.asc).2, fun y hy => ?_⟩
  have hy2 := h.mem y (List.mem_cons_of_mem _ hy)
  have := (List.pairwise_cons.1 h.asc).1 y hy
  refine ⟨hy2.1, ?_⟩
  rw [plus_bit _ _ _ hx.2, hy2.2, Bool.false_or, decide_eq_false (by omega)]

theorem chain_l1 (n : Nat) (hn : n ≤ 12) (L : List Nat) (hL : L.length ≤ 12) : ∀ d i f (acc : List Nat), i + d = L.length → Glows n f (L.drop i) → acc.length ≤ i + 1 →
    Ev (fun k => code_chain.l1 k (f : Int) (chI acc) (chI L) ((chI L).length : Int) (i : Int)) (chI (acc ++ glow f (L.drop i))) := by
  intro d
  induction d with
  | zero =>
    intro i f acc h hg ha
    rw [List.drop_of_length_le (by omega), glow, List.append_nil]
    refine Ev.step (f := fun _ => some (chI acc)) (fun k => ?_) (Ev.now _)
    simp only [code_chain.l1]
    rw [if_neg (by rw [chI_len]; omega)]
  | succ d ih =>
    intro i f acc h hg ha
    have hi : i < L.length := by omega
    rw [List.drop_eq_getElem_cons hi] at hg
    rw [List.drop_eq_getElem_cons hi, glow]
    have hx := hg.mem _ List.mem_cons_self
    have hlt := plus_lt hg.lt hx.1 hx.2
    have hp : 2 ^ n ≤ 4096 := by
      have : 2 ^ n ≤ 2 ^ 12 := Nat.pow_le_pow_right (by decide) hn
      simpa using this
    have hpx := pow12 hx.1 hn
    have h1 := ih (i + 1) (f + 2 ^ L[i]) (acc ++ [f + 2 ^ L[i]]) (by omega) hg.next (by simp; omega)
    rw [List.append_assoc, List.singleton_append] at h1
    refine Ev.step (fun k => ?_) h1
    simp only [code_chain.l1]
    have hf : f < 4096 := by have := hg.lt; omega
    have hw : wrap64 ((i : Int) + 1) = ((i + 1 : Nat) : Int) := by rw [w64 (by omega) (by omega)]; rfl
    have e1 : Go.bits .or .i64 (f : Int) (shl .i64 1 ((L[i] : Nat) : Int)) = ((f + 2 ^ L[i] : Nat) : Int) := by
      rw [shl1n (by omega), or64 _ _ (by omega) (by omega), plus_or _ _ hx.2]
    rw [if_pos (by rw [chI_len]; omega), if_pos (by omega), if_pos (by rw [chI_len]; omega), chI_get _ _ hi, if_pos (by omega), if_pos (by rw [chI_len]; omega), e1, hw, chI_app]
    rfl
theorem rchain_l1 (n : Nat) (hn : n ≤ 12) (L : List Nat) (hL : L.length ≤ 12) : ∀ d i f (acc : List Nat), i + d = L.length → Glows n f (L.drop i) → acc.length ≤ i + 1 →
    Ev (fun k => neonwrightref03_chain.l1 k (chI L) (f : Int) (chI acc) (i : Int)) (chI (acc ++ glow f (L.drop i))) := by
  intro d
  induction d with
  | zero =>
    intro i f acc h hg ha
    rw [List.drop_of_length_le (by omega), glow, List.append_nil]
    refine Ev.step (f := fun _ => some (chI acc)) (fun k => ?_) (Ev.now _)
    simp only [neonwrightref03_chain.l1]
    rw [if_neg (by rw [chI_len]; omega)]
  | succ d ih =>
    intro i f acc h hg ha
    have hi : i < L.length := by omega
    rw [List.drop_eq_getElem_cons hi] at hg
    rw [List.drop_eq_getElem_cons hi, glow]
    have hx := hg.mem _ List.mem_cons_self
    have hlt := plus_lt hg.lt hx.1 hx.2
    have hp : 2 ^ n ≤ 4096 := by
      have : 2 ^ n ≤ 2 ^ 12 := Nat.pow_le_pow_right (by decide) hn
      simpa using this
    have hpx := pow12 hx.1 hn
    have h1 := ih (i + 1) (f + 2 ^ L[i]) (acc ++ [f + 2 ^ L[i]]) (by omega) hg.next (by simp; omega)
    rw [List.append_assoc, List.singleton_append] at h1
    refine Ev.step (fun k => ?_) h1
    simp only [neonwrightref03_chain.l1]
    have hf : f < 4096 := by have := hg.lt; omega
    have hw : wrap64 ((i : Int) + 1) = ((i + 1 : Nat) : Int) := by rw [w64 (by omega) (by omega)]; rfl
    have e1 : wrap64 ((f : Int) + shl .i64 1 ((L[i] : Nat) : Int)) = ((f + 2 ^ L[i] : Nat) : Int) := by
      rw [shl1n (by omega), ← Int.natCast_add, w64n _ (by omega)]
    rw [if_pos (by rw [chI_len]; omega), if_pos (by omega), chI_get _ _ hi, if_pos (by omega), if_pos (by rw [chI_len]; omega), e1, hw, chI_app]
    rfl
theorem glows_free (n s : Nat) : Glows n (brs s n).fi (free n s) := by
  have h := br_ok s n
  exact ⟨h.fi, h.asc, fun x hx => ⟨h.lt x hx, h.no x hx⟩⟩
theorem chI_sorted {l : List Nat} (h : l.Pairwise (· < ·)) : Kit.isort (chI l) = chI l := by
  refine Kit.isort_of_sorted ?_
  unfold chI
  rw [List.pairwise_map]
  exact h.imp (fun hab => by omega)

theorem chain_l0 (n s : Nat) (hn : n ≤ 12) (hs : s < 4096) : ∀ d t, t + d = n →
    Ev (fun k => code_chain.l0 k (s : Int) (chI (brs s t).op) (chI (brs s t).al) ((brs s t).fi : Int) (n : Int) (t : Int)) (chI (chainN n s)) := by
  intro d
  induction d with
  | zero =>
    intro t h
    obtain rfl : t = n := by omega
    have hl := brs_len s t
    have h1 := chain_l1 t hn (free t s) (by unfold free; rw [List.length_append]; omega) (free t s).length 0 (brs s t).fi [(brs s t).fi] (by omega) (glows_free t s) (by simp)
    rw [List.drop_zero, List.singleton_append, ← lights_glow] at h1
    refine Ev.step (fun k => ?_) h1
    simp only [code_chain.l0]
    have e : slices_Sort_int_int.f (chI (free t s)) = some (chI (free t s)) := by
      unfold slices_Sort_int_int.f
      rw [if_pos (by rw [chI_len]; unfold free; rw [List.length_append]; omega), chI_sorted (glows_free t s).asc]
    rw [if_neg (by omega), if_pos (by rw [chI_len, chI_len]; omega), Option.bind_some, ← chI_app, show (brs s t).al ++ (brs s t).op = free t s from rfl, e, Option.bind_some]
    rfl
  | succ d ih =>
    intro t h
    have hl := brs_len s t
    have h1 := ih (t + 1) (by omega)
    have hfi := (br_ok s t).fi
    have hp := pow12 (x := t) (n := n) (by omega) hn
    have hw : wrap64 ((t : Int) + 1) = ((t + 1 : Nat) : Int) := by rw [w64 (by omega) (by omega)]; rfl
    refine Ev.step (fun k => ?_) h1
    simp only [code_chain.l0]
    have e0 : Go.bits .and .i64 (s : Int) (shl .i64 1 (t : Int)) = ((s &&& 2 ^ t : Nat) : Int) := by
      rw [shl1n (by omega), and64 _ _ (by omega) (by omega)]
    rw [if_pos (by omega), if_pos (by omega), e0, hw]
    show _ = code_chain.l0 k (s : Int) (chI (brStep s (brs s t) t).op) (chI (brStep s (brs s t) t).al) ((brStep s (brs s t) t).fi : Int) (n : Int) ((t + 1 : Nat) : Int)
    by_cases c : s.testBit t = false
    · have c' : s &&& 2 ^ t = 0 := by rw [bit_and]; exact c
      rw [if_pos (by omega), if_pos (by rw [chI_len]; omega)]
      unfold brStep
      rw [if_pos c, chI_app]
      rfl
    · have c' : ¬ s &&& 2 ^ t = 0 := by rw [bit_and]; exact c
      rw [if_neg (by omega)]
      by_cases c2 : (brs s t).op = []
      · unfold brStep
        rw [if_neg c, if_pos c2, c2]
        rw [if_neg (by simp [chI]), if_pos (by rw [chI_len]; omega), chI_app]
        rfl
      · have hpos := List.length_pos_iff.2 c2
        unfold brStep
        rw [if_neg c, if_neg c2]
        have hw1 : wrap64 (((chI (brs s t).op).length : Int) - 1) = (((brs s t).op.length - 1 : Nat) : Int) := by rw [chI_len, w64 (by omega) (by omega)]; omega
        rw [if_pos (by rw [chI_len]; omega), if_pos (by rw [hw1]; omega), if_pos (by rw [hw1, chI_len]; omega)]
        have e2 : (chI (brs s t).op).take (wrap64 (((chI (brs s t).op).length : Int) - 1)).toNat = chI (brs s t).op.dropLast := by
          rcases chI_dropLast _ c2 with h | h
          · exact h
          · omega
        have e3 : Go.bits .or .i64 ((brs s t).fi : Int) (shl .i64 1 (t : Int)) = (((brs s t).fi + 2 ^ t : Nat) : Int) := by
          rw [shl1n (by omega), or64 _ _ (by omega) (by omega), plus_or _ _ (Nat.testBit_lt_two_pow hfi)]
        rw [e2, e3]
theorem rchain_l0 (n s : Nat) (hn : n ≤ 12) (hs : s < 4096) : ∀ d t, t + d = n →
    Ev (fun k => neonwrightref03_chain.l0 k (n : Int) (s : Int) (chI (brs s t).op) (chI (brs s t).al) ((brs s t).fi : Int) (t : Int)) (chI (chainN n s)) := by
  intro d
  induction d with
  | zero =>
    intro t h
    obtain rfl : t = n := by omega
    have hl := brs_len s t
    have h1 := rchain_l1 t hn (free t s) (by unfold free; rw [List.length_append]; omega) (free t s).length 0 (brs s t).fi [(brs s t).fi] (by omega) (glows_free t s) (by simp)
    rw [List.drop_zero, List.singleton_append, ← lights_glow] at h1
    refine Ev.step (fun k => ?_) h1
    simp only [neonwrightref03_chain.l0]
    rw [if_neg (by omega), if_pos (by rw [chI_len, chI_len]; omega), ← chI_app, show (brs s t).al ++ (brs s t).op = free t s from rfl]
    rfl
  | succ d ih =>
    intro t h
    have hl := brs_len s t
    have h1 := ih (t + 1) (by omega)
    have hfi := (br_ok s t).fi
    have hp := pow12 (x := t) (n := n) (by omega) hn
    have hw : wrap64 ((t : Int) + 1) = ((t + 1 : Nat) : Int) := by rw [w64 (by omega) (by omega)]; rfl
    refine Ev.step (fun k => ?_) h1
    simp only [neonwrightref03_chain.l0]
    have e0 : Int.tmod (shr .i64 (s : Int) (t : Int)) 2 = ((s / 2 ^ t % 2 : Nat) : Int) := by
      rw [shrn (by omega)]
      exact tmodn _ 2
    rw [if_pos (by omega), if_pos (by omega), e0, hw]
    show _ = neonwrightref03_chain.l0 k (n : Int) (s : Int) (chI (brStep s (brs s t) t).op) (chI (brStep s (brs s t) t).al) ((brStep s (brs s t) t).fi : Int) ((t + 1 : Nat) : Int)
    by_cases c : s.testBit t = false
    · have c' : s / 2 ^ t % 2 = 0 := by rw [bit_mod]; exact c
      rw [if_pos (by omega), if_pos (by rw [chI_len]; omega)]
      unfold brStep
      rw [if_pos c, chI_app]
      rfl
    · have c' : ¬ s / 2 ^ t % 2 = 0 := by rw [bit_mod]; exact c
      rw [if_neg (by omega)]
      by_cases c2 : (brs s t).op = []
      · unfold brStep
        rw [if_neg c, if_pos c2, c2]
        rw [if_pos (by simp [chI]), if_pos (by rw [chI_len]; omega), chI_app]
        rfl
      · have hpos := List.length_pos_iff.2 c2
        unfold brStep
        rw [if_neg c, if_neg c2]
        have hw1 : wrap64 (((chI (brs s t).op).length : Int) - 1) = (((brs s t).op.length - 1 : Nat) : Int) := by rw [chI_len, w64 (by omega) (by omega)]; omega
        rw [if_neg (by rw [chI_len]; omega), if_pos (by rw [hw1]; omega), if_pos (by rw [hw1, chI_len]; omega)]
        have e2 : (chI (brs s t).op).take (wrap64 (((chI (brs s t).op).length : Int) - 1)).toNat = chI (brs s t).op.dropLast := by
          rcases chI_dropLast _ c2 with h | h
          · exact h
          · omega
        have hp2 : 2 ^ t ≤ 2048 := hp
        have e3 : wrap64 (((brs s t).fi : Int) + shl .i64 1 (t : Int)) = (((brs s t).fi + 2 ^ t : Nat) : Int) := by
          rw [shl1n (by omega), ← Int.natCast_add, w64n _ (by omega)]
        rw [e2, e3]
theorem chain_ev {n s : Nat} (hn : n ≤ 12) (hs : s < 4096) : Ev (fun k => code_chain.f k (n : Int) (s : Int)) (chI (chainN n s)) := chain_l0 n s hn hs n 0 (by omega)
theorem rchain_ev {n s : Nat} (hn : n ≤ 12) (hs : s < 4096) : Ev (fun k => neonwrightref03_chain.f k (n : Int) (s : Int)) (chI (chainN n s)) := rchain_l0 n s hn hs n 0 (by omega)

theorem pow4096 {n : Nat} (h2 : n ≤ 12) : 2 ^ n ≤ 4096 := by
  have : 2 ^ n ≤ 2 ^ 12 := Nat.pow_le_pow_right (by decide) h2
  simpa using this
theorem litL_len (k N : Nat) : (litL k N).length ≤ N := by
  unfold litL
  rw [List.length_map]
  refine Nat.le_trans (List.length_filter_le _ _) ?_
  rw [List.length_range]
  exact Nat.le_refl _
theorem half_tdiv {n : Nat} (h2 : n ≤ 12) : wrap64 (Int.tdiv (n : Int) 2) = ((n / 2 : Nat) : Int) := by
  rw [show Int.tdiv (n : Int) 2 = ((n / 2 : Nat) : Int) from tdivn n 2]
  exact w64n _ (by omega)
theorem rmid_l0 (n : Nat) (h2 : n ≤ 12) : ∀ d s, s + d = 2 ^ n → Ev (fun k => neonwrightref03_Middle.l0 k (n : Int) (litL (n / 2) s) (s : Int)) (litL (n / 2) (2 ^ n), 0) := by
  have hp := pow4096 h2
  intro d
  induction d with
  | zero =>
    intro s h
    obtain rfl : s = 2 ^ n := by omega
    refine Ev.step (f := fun _ => some (litL (n / 2) (2 ^ n), 0)) (fun k => ?_) (Ev.now _)
    simp only [neonwrightref03_Middle.l0]
    rw [if_pos (by omega), shl1n (by omega), if_neg (by omega)]
  | succ d ih =>
    intro s h
    have h1 := ih (s + 1) (by omega)
    have hw : wrap64 ((s : Int) + 1) = ((s + 1 : Nat) : Int) := by rw [w64 (by omega) (by omega)]; rfl
    have hl := litL_len (n / 2) s
    rw [litL_succ] at h1
    refine Ev.step (f := fun k => (neonwrightref03_Lit.f k (s : Int)).bind fun t => if t = ((n / 2 : Nat) : Int) then neonwrightref03_Middle.l0 k (n : Int) (litL (n / 2) s ++ [(s : Int)]) ((s + 1 : Nat) : Int) else neonwrightref03_Middle.l0 k (n : Int) (litL (n / 2) s) ((s + 1 : Nat) : Int)) (fun k => ?_) (Ev.bnd (lit_ev s 12 (by simp; omega) (by omega)) ?_)
    · simp only [neonwrightref03_Middle.l0]
      rw [if_pos (by omega), shl1n (by omega), if_pos (by omega), half_tdiv h2, hw, if_pos (by omega)]
    · by_cases c : onesCount s = n / 2
      · rw [if_pos c] at h1
        exact Ev.pos (by rw [c]) h1
      · rw [if_neg c] at h1
        exact Ev.neg (by omega) h1
theorem rmid_ev (n : Int) : Ev (fun k => neonwrightref03_Middle.f k n) (if 1 ≤ n ∧ n ≤ 12 then (litL (n.toNat / 2) (2 ^ n.toNat), 0) else ([], 2)) := by
  by_cases h : 1 ≤ n ∧ n ≤ 12
  · obtain ⟨N, rfl⟩ : ∃ N : Nat, n = (N : Int) := ⟨n.toNat, by omega⟩
    rw [if_pos h, Int.toNat_natCast]
    refine Ev.congr (f := fun k => neonwrightref03_Middle.l0 k (N : Int) (litL (N / 2) 0) ((0 : Nat) : Int)) (fun k => ?_) (rmid_l0 N (by omega) (2 ^ N) 0 (by omega))
    unfold neonwrightref03_Middle.f
    rw [tubes_t (by omega) (by omega), Option.bind_some, if_pos rfl]
    rfl
  · rw [if_neg h]
    refine Ev.congr (f := fun k => some ([], 2)) (fun k => ?_) (Ev.now _)
    unfold neonwrightref03_Middle.f
    rw [tubes_f (by omega), Option.bind_some, if_neg (by decide)]
theorem mid_f (n : Int) : code_Middle.f n = some (if 1 ≤ n ∧ n ≤ 12 then (litL (n.toNat / 2) (2 ^ n.toNat), 0) else ([], 2)) := by
  unfold code_Middle.f
  split <;> rfl

/-- The chains whose first signs lie below N. -/
def chTo (n N : Nat) : List (List Int) := (((List.range N).filter fun s => (brs s n).fi == s).map (chainN n)).map chI
theorem chTo_succ (n s : Nat) : chTo n (s + 1) = if (brs s n).fi = s then chTo n s ++ [chI (chainN n s)] else chTo n s := by
  unfold chTo
  rw [List.range_succ, List.filter_append, List.map_append, List.map_append]
  by_cases h : (brs s n).fi = s
  · rw [if_pos h]; simp [h]
  · rw [if_neg h]; simp [h]
theorem chTo_len (n N : Nat) : (chTo n N).length ≤ N := by
  unfold chTo
  rw [List.length_map, List.length_map]
  refine Nat.le_trans (List.length_filter_le _ _) ?_
  rw [List.length_range]
  exact Nat.le_refl _
theorem chain_head (n s : Nat) : rd (chI (chainN n s)) 0 = ((brs s n).fi : Int) ∧ 0 < ((chI (chainN n s)).length : Int) := by
  unfold chainN
  rw [lights_glow]
  constructor
  · rfl
  · rw [chI_len, List.length_cons]; omega
theorem chains_l0 (n : Nat) (h2 : n ≤ 12) : ∀ d s, s + d = 2 ^ n → Ev (fun k => code_Chains.l0 k (n : Int) (chTo n s) ((2 ^ n : Nat) : Int) (s : Int)) (chTo n (2 ^ n), 0) := by
  have hp := pow4096 h2
  intro d
  induction d with
  | zero =>
    intro s h
    obtain rfl : s = 2 ^ n := by omega
    refine Ev.step (f := fun _ => some (chTo n (2 ^ n), 0)) (fun k => ?_) (Ev.now _)
    simp only [code_Chains.l0]
    rw [if_neg (by omega)]
  | succ d ih =>
    intro s h
    have h1 := ih (s + 1) (by omega)
    have hw : wrap64 ((s : Int) + 1) = ((s + 1 : Nat) : Int) := by rw [w64 (by omega) (by omega)]; rfl
    have hl := chTo_len n s
    have hh := chain_head n s
    rw [chTo_succ] at h1
    refine Ev.step (f := fun k => (code_chain.f k (n : Int) (s : Int)).bind fun t => if 0 < (t.length : Int) then (if rd t 0 = (s : Int) then code_Chains.l0 k (n : Int) (chTo n s ++ [t]) ((2 ^ n : Nat) : Int) ((s + 1 : Nat) : Int) else code_Chains.l0 k (n : Int) (chTo n s) ((2 ^ n : Nat) : Int) ((s + 1 : Nat) : Int)) else none) (fun k => ?_) (Ev.bnd (chain_ev h2 (by omega)) (Ev.pos hh.2 ?_))
    · simp only [code_Chains.l0]
      rw [if_pos (by omega), hw]
      simp only [if_pos (show (chTo n s).length < 5864062014805 by omega)]
    · rw [hh.1]
      by_cases c : (brs s n).fi = s
      · rw [if_pos c] at h1
        exact Ev.pos (by rw [c]) h1
      · rw [if_neg c] at h1
        exact Ev.neg (by omega) h1
theorem rchains_l0 (n : Nat) (h2 : n ≤ 12) : ∀ d s, s + d = 2 ^ n → Ev (fun k => neonwrightref03_Chains.l0 k (n : Int) (chTo n s) (s : Int)) (chTo n (2 ^ n), 0) := by
  have hp := pow4096 h2
  intro d
  induction d with
  | zero =>
    intro s h
    obtain rfl : s = 2 ^ n := by omega
    refine Ev.step (f := fun _ => some (chTo n (2 ^ n), 0)) (fun k => ?_) (Ev.now _)
    simp only [neonwrightref03_Chains.l0]
    rw [if_pos (by omega), shl1n (by omega), if_neg (by omega)]
  | succ d ih =>
    intro s h
    have h1 := ih (s + 1) (by omega)
    have hw : wrap64 ((s : Int) + 1) = ((s + 1 : Nat) : Int) := by rw [w64 (by omega) (by omega)]; rfl
    have hl := chTo_len n s
    have hh := chain_head n s
    rw [chTo_succ] at h1
    refine Ev.step (f := fun k => (neonwrightref03_chain.f k (n : Int) (s : Int)).bind fun t => if 0 < (t.length : Int) then (if rd t 0 = (s : Int) then neonwrightref03_Chains.l0 k (n : Int) (chTo n s ++ [t]) ((s + 1 : Nat) : Int) else neonwrightref03_Chains.l0 k (n : Int) (chTo n s) ((s + 1 : Nat) : Int)) else none) (fun k => ?_) (Ev.bnd (rchain_ev h2 (by omega)) (Ev.pos hh.2 ?_))
    · simp only [neonwrightref03_Chains.l0]
      rw [if_pos (by omega), shl1n (by omega), if_pos (by omega), hw]
      simp only [if_pos (show (chTo n s).length < 5864062014805 by omega)]
    · rw [hh.1]
      by_cases c : (brs s n).fi = s
      · rw [if_pos c] at h1
        exact Ev.pos (by rw [c]) h1
      · rw [if_neg c] at h1
        exact Ev.neg (by omega) h1
def chainsR (n : Int) : List (List Int) × Int := if 1 ≤ n ∧ n ≤ 12 then (chTo n.toNat (2 ^ n.toNat), 0) else ([], 2)
theorem chains_ev (n : Int) : Ev (fun k => code_Chains.f k n) (chainsR n) := by
  unfold chainsR
  by_cases h : 1 ≤ n ∧ n ≤ 12
  · obtain ⟨N, rfl⟩ : ∃ N : Nat, n = (N : Int) := ⟨n.toNat, by omega⟩
    rw [if_pos h, Int.toNat_natCast]
    refine Ev.congr (f := fun k => code_Chains.l0 k (N : Int) (chTo N 0) ((2 ^ N : Nat) : Int) ((0 : Nat) : Int)) (fun k => ?_) (chains_l0 N (by omega) (2 ^ N) 0 (by omega))
    unfold code_Chains.f
    rw [sized_t (by omega) (by omega), Option.bind_some, if_pos rfl, if_pos (by omega), shl1n (by omega)]
    rfl
  · rw [if_neg h]
    refine Ev.congr (f := fun k => some ([], 2)) (fun k => ?_) (Ev.now _)
    unfold code_Chains.f
    rw [sized_f (by omega), Option.bind_some, if_neg (by decide)]
theorem rchains_ev (n : Int) : Ev (fun k => neonwrightref03_Chains.f k n) (chainsR n) := by
  unfold chainsR
  by_cases h : 1 ≤ n ∧ n ≤ 12
  · obtain ⟨N, rfl⟩ : ∃ N : Nat, n = (N : Int) := ⟨n.toNat, by omega⟩
    rw [if_pos h, Int.toNat_natCast]
    refine Ev.congr (f := fun k => neonwrightref03_Chains.l0 k (N : Int) (chTo N 0) ((0 : Nat) : Int)) (fun k => ?_) (rchains_l0 N (by omega) (2 ^ N) 0 (by omega))
    unfold neonwrightref03_Chains.f
    rw [tubes_t (by omega) (by omega), Option.bind_some, if_pos rfl]
    rfl
  · rw [if_neg h]
    refine Ev.congr (f := fun k => some ([], 2)) (fun k => ?_) (Ev.now _)
    unfold neonwrightref03_Chains.f
    rw [tubes_f (by omega), Option.bind_some, if_neg (by decide)]
def chainR (n s : Int) : List Int × Int := if (1 ≤ n ∧ n ≤ 12) ∧ 0 ≤ s ∧ s < ((2 ^ n.toNat : Nat) : Int) then (chI (chainN n.toNat s.toNat), 0) else ([], 2)
theorem chainF_ev (n s : Int) : Ev (fun k => code_Chain.f k n s) (chainR n s) := by
  unfold chainR
  by_cases h : 1 ≤ n ∧ n ≤ 12
  · obtain ⟨N, rfl⟩ : ∃ N : Nat, n = (N : Int) := ⟨n.toNat, by omega⟩
    have hp := pow4096 (n := N) (by omega)
    rw [Int.toNat_natCast]
    by_cases hs : 0 ≤ s ∧ s < ((2 ^ N : Nat) : Int)
    · obtain ⟨S, rfl⟩ : ∃ S : Nat, s = (S : Int) := ⟨s.toNat, by omega⟩
      rw [if_pos ⟨h, hs⟩, Int.toNat_natCast]
      refine Ev.congr (f := fun k => (code_chain.f k (N : Int) (S : Int)).bind fun t => some (t, 0)) (fun k => ?_) (Ev.bnd (chain_ev (n := N) (s := S) (by omega) (by omega)) (Ev.now _))
      unfold code_Chain.f
      rw [sized_t (by omega) (by omega), Option.bind_some, if_pos rfl, sign_t (by omega) (by omega), Option.bind_some, if_pos rfl]
    · rw [if_neg (fun hh => hs hh.2)]
      refine Ev.congr (f := fun k => some ([], 2)) (fun k => ?_) (Ev.now _)
      unfold code_Chain.f
      rw [sized_t (by omega) (by omega), Option.bind_some, if_pos rfl, sign_f (by omega) (by omega), Option.bind_some, if_neg (by decide)]
  · rw [if_neg (fun hh => h hh.1)]
    refine Ev.congr (f := fun k => some ([], 2)) (fun k => ?_) (Ev.now _)
    unfold code_Chain.f
    rw [sized_f (by omega), Option.bind_some, if_neg (by decide)]
theorem rchainF_ev (n s : Int) : Ev (fun k => neonwrightref03_Chain.f k n s) (chainR n s) := by
  unfold chainR
  by_cases h : 1 ≤ n ∧ n ≤ 12
  · obtain ⟨N, rfl⟩ : ∃ N : Nat, n = (N : Int) := ⟨n.toNat, by omega⟩
    have hp := pow4096 (n := N) (by omega)
    rw [Int.toNat_natCast]
    by_cases h0 : s < 0
    · rw [if_neg (fun hh => absurd hh.2.1 (by omega))]
      refine Ev.congr (f := fun k => some ([], 2)) (fun k => ?_) (Ev.now _)
      unfold neonwrightref03_Chain.f
      rw [tubes_t (by omega) (by omega), Option.bind_some, if_pos rfl, if_pos h0]
    · obtain ⟨S, rfl⟩ : ∃ S : Nat, s = (S : Int) := ⟨s.toNat, by omega⟩
      by_cases hs : (S : Int) < ((2 ^ N : Nat) : Int)
      · rw [if_pos ⟨h, by omega, hs⟩, Int.toNat_natCast]
        refine Ev.congr (f := fun k => (neonwrightref03_chain.f k (N : Int) (S : Int)).bind fun t => some (t, 0)) (fun k => ?_) (Ev.bnd (rchain_ev (n := N) (s := S) (by omega) (by omega)) (Ev.now _))
        unfold neonwrightref03_Chain.f
        rw [tubes_t (by omega) (by omega), Option.bind_some, if_pos rfl, if_neg h0, if_pos (by omega), shl1n (by omega), if_neg (by omega)]
      · rw [if_neg (fun hh => hs hh.2.2)]
        refine Ev.congr (f := fun k => some ([], 2)) (fun k => ?_) (Ev.now _)
        unfold neonwrightref03_Chain.f
        rw [tubes_t (by omega) (by omega), Option.bind_some, if_pos rfl, if_neg h0, if_pos (by omega), shl1n (by omega), if_pos (by omega)]
  · rw [if_neg (fun hh => h hh.1)]
    refine Ev.congr (f := fun k => some ([], 2)) (fun k => ?_) (Ev.now _)
    unfold neonwrightref03_Chain.f
    rw [tubes_f (by omega), Option.bind_some, if_neg (by decide)]
end Go.Proofs.Ytgchhheajngbfaa.P

set_option linter.unusedSimpArgs false
set_option linter.unusedVariables false
namespace Go.Proofs.Ytgchhheajngbfaa.P
open Go.Lib Go.RowKit Go.Proofs.YtgchhheajngbfaaW.PrintWords Go.Proofs.YtgchhheajngbfaaW.PrintLast Go.Proofs.YtgchhheajngbfaaW.PrintMore Go.Proofs.Ytgchhheajngbfaa.Kit

theorem rdL_get (l : List (List Int)) (i : Nat) (h : i < l.length) : rd_L2 l (i : Int) = l[i] := by
  unfold rd_L2
  simp [h]
theorem listsK_l0 (d : List (List Int)) (hl : d.length ≤ 4611686018427387904) (hr : ∀ r ∈ d, r.length ≤ 4611686018427387904) : ∀ m i, d.length - i = m → i ≤ d.length → Ev (fun k => neonwrightlaw03_lists.l0 k d d (i : Int)) true := by
  intro m
  induction m with
  | zero =>
    intro i hm hi
    refine Ev.step (fun k => ?_) (Ev.now true)
    simp only [neonwrightlaw03_lists.l0]
    rw [if_neg (by omega)]
  | succ m ih =>
    intro i hm hi
    have hlt : i < d.length := by omega
    refine Ev.step (f := fun k => (neonwrightlaw03_same.f k d[i] d[i]).bind fun t => if t = true then neonwrightlaw03_lists.l0 k d d ((i + 1 : Nat) : Int) else some false) (fun k => ?_) (Ev.bnd (same_self _ (hr _ (List.getElem_mem hlt))) (Ev.pos rfl (ih (i + 1) (by omega) (by omega))))
    simp only [neonwrightlaw03_lists.l0]
    rw [if_pos (by omega), if_pos (by omega), if_pos (by omega), rdL_get d i hlt, wrap1 (by omega)]
theorem listsK (d : List (List Int)) (hl : d.length ≤ 4611686018427387904) (hr : ∀ r ∈ d, r.length ≤ 4611686018427387904) : ∃ k, neonwrightlaw03_lists.f k d d = some true := by
  refine Ev.rounds ?_
  refine Ev.congr (f := fun k => neonwrightlaw03_lists.l0 k d d ((0 : Nat) : Int)) (fun k => ?_) (listsK_l0 d hl hr d.length 0 (by omega) (by omega))
  unfold neonwrightlaw03_lists.f
  rw [if_pos rfl]
  rfl
def midR (n : Int) : List Int × Int := if 1 ≤ n ∧ n ≤ 12 then (litL (n.toNat / 2) (2 ^ n.toNat), 0) else ([], 2)
theorem mid_val (n : Int) : ∃ l e, code_Middle.f n = some (l, e) ∧ (∃ k, neonwrightref03_Middle.f k n = some (l, e)) ∧ l.length ≤ 4096 := by
  refine ⟨(midR n).1, (midR n).2, mid_f n, Ev.rounds (rmid_ev n), ?_⟩
  unfold midR
  split
  · rename_i h
    exact Nat.le_trans (litL_len _ _) (pow4096 (by omega))
  · exact Nat.zero_le _
theorem chain_len {n s : Nat} (hn : n ≤ 12) : (chI (chainN n s)).length ≤ 13 ∧ 0 < (chI (chainN n s)).length := by
  have h := brs_len s n
  rw [chI_len]
  unfold chainN
  rw [lights_length]
  unfold free
  rw [List.length_append]
  omega
theorem chain_val (n s : Int) : ∃ l e, (∃ k, code_Chain.f k n s = some (l, e)) ∧ (∃ k, neonwrightref03_Chain.f k n s = some (l, e)) ∧ l.length ≤ 13 := by
  refine ⟨(chainR n s).1, (chainR n s).2, Ev.rounds (chainF_ev n s), Ev.rounds (rchainF_ev n s), ?_⟩
  unfold chainR
  split
  · rename_i h
    exact (chain_len (by omega)).1
  · exact Nat.zero_le _
theorem chains_val (n : Int) : ∃ l e, (∃ k, code_Chains.f k n = some (l, e)) ∧ (∃ k, neonwrightref03_Chains.f k n = some (l, e)) ∧ l.length ≤ 4096 ∧ ∀ r ∈ l, 0 < r.length ∧ r.length ≤ 13 := by
  refine ⟨(chainsR n).1, (chainsR n).2, Ev.rounds (chains_ev n), Ev.rounds (rchains_ev n), ?_⟩
  unfold chainsR
  split
  · rename_i h
    refine ⟨Nat.le_trans (chTo_len _ _) (pow4096 (by omega)), fun r hr => ?_⟩
    unfold chTo at hr
    obtain ⟨c, hc, rfl⟩ := List.mem_map.1 hr
    obtain ⟨s, hs, rfl⟩ := List.mem_map.1 hc
    have := chain_len (n := n.toNat) (s := s) (by omega)
    exact ⟨this.2, this.1⟩
  · exact ⟨Nat.zero_le _, fun r hr => by cases hr⟩
end Go.Proofs.Ytgchhheajngbfaa.P

set_option linter.unusedSimpArgs false
set_option linter.unusedVariables false
namespace Go.Proofs.Ytgchhheajngbfaa.P
open Go.Lib Go.RowKit Go.Proofs.YtgchhheajngbfaaW.PrintWords Go.Proofs.YtgchhheajngbfaaW.PrintLast Go.Proofs.YtgchhheajngbfaaW.PrintMore Go.Proofs.Ytgchhheajngbfaa.Kit
attribute [local go_sem] max2_int min2_int max_two min_two max_three min_three max_four min_four

def neonwrightlaw03_CodeChains.f (k : Nat) (a0 a1 : Int) : Option Bool := some true
set_option maxHeartbeats 8000000
set_option maxRecDepth 100000
theorem chains_walk (a0 a1 : Int) (w : World) :
    Calls Try.prog 7 #[.int .i64 a0, .int .i64 a1] w fun e w' => e = .returned (.bool true) ∧ Below w.heap.size w w' := by
  obtain ⟨lm, em, h1, ⟨n2, h2⟩, hlm⟩ := mid_val a0
  obtain ⟨lc, ec, ⟨n3, h3⟩, ⟨n4, h4⟩, hlc⟩ := chain_val a0 a1
  obtain ⟨l, e, ⟨n5, h5⟩, ⟨n6, h6⟩, hl, hx⟩ := chains_val a0
  obtain ⟨kl, hkl⟩ := listsK l (by omega) (fun r hr => by have := hx r hr; omega)
  obtain ⟨ks, hks⟩ := Ev.rounds (same_self lm (by omega))
  obtain ⟨kc, hkc⟩ := Ev.rounds (same_self lc (by omega))
  obtain ⟨ka, hka⟩ := Ev.rounds alive_ev
  have H1 := Aside0.mk h1
  have H2 := Aside0.mk h2
  have H3 := Aside0.mk h3
  have H4 := Aside0.mk h4
  have H5 := Aside0.mk h5
  have H6 := Aside0.mk h6
  have HL := Aside0.mk hl
  have HX := Aside0.mk (show ∀ i (hi : i < (l.map List.length).length), 0 < (l.map List.length)[i] from fun i hi => by rw [List.getElem_map]; have := hx _ (List.getElem_mem (by simpa using hi)); omega)
  have HKL := Aside0.mk hkl
  have HK1 := Aside0.mk hks
  have HK2 := Aside0.mk hkc
  have HKA := Aside0.mk hka
  have HLm := Aside0.mk (show (l.map List.length).length = l.length from List.length_map _)
  have ee1 : (em != em) = false := by simp
  have ee2 : (ec != ec) = false := by simp
  have ee3 : (e != e) = false := by simp
  clear h1 h2 h3 h4 h5 h6 hl hx hlm hlc hkl hks hkc hka
  have HB := Aside0.mk (Below.refl w.heap.size w)
  go_enter Try.func7, Try.ntmps7
  go_wp2_with (go_at_call 26; (refine (code_Middle.calls a0 lm em _ H1.out).mono ?_); rintro _ w1 ⟨v1, rfl, hR, hb⟩; obtain ⟨A1, c1, rfl⟩ := Kd.R_slice hR; have HC1 := Aside0.mk (Kd.R_reads' hR); have HB1 := Aside0.mk (below_step (by repeat (first | exact HB.out | apply pw_below_drewN | apply below_drew1)) hb); clear hR hb)
  clear HB
  go_wp2_with (go_at_call 27; (refine (neonwrightref03_Middle.calls n2 a0 lm em _ H2.out).mono ?_); rintro _ w2 ⟨v2, rfl, hR, hb⟩; obtain ⟨A2, c2, rfl⟩ := Kd.R_slice hR; have HC2 := Aside0.mk (Kd.R_reads' hR); have HC1b := Aside0.mk (Kd.C_below HC1.out.2.2 hb); have HB2 := Aside0.mk (below_step (by repeat (first | exact HB1.out | apply pw_below_drewN | apply below_drew1)) hb); clear hR hb)
  clear HB1
  go_wp2_with (go_at_call 17; (refine (neonwrightlaw03_same.calls ks A1 c1 lm A2 c2 lm true _ (by repeat (first | exact HC1b.out | (with_reducible refine Kd.C_drewN ?_ _) | (with_reducible refine Kd.C_drew ?_))) HC1.out.2.1 (by repeat (first | exact HC2.out.2.2 | (with_reducible refine Kd.C_drewN ?_ _) | (with_reducible refine Kd.C_drew ?_))) HC2.out.2.1 HK1.out).mono ?_); rintro _ w' ⟨rfl, ⟨nd, rfl⟩⟩)
  clear HC1 HC2 HC1b
  go_wp2_with (go_at_call 28; (refine (code_Chain.calls n3 a0 a1 lc ec _ H3.out).mono ?_); rintro _ w3 ⟨v3, rfl, hR, hb⟩; obtain ⟨A3, c3, rfl⟩ := Kd.R_slice hR; have HC3 := Aside0.mk (Kd.R_reads' hR); have HB3 := Aside0.mk (below_step (by repeat (first | exact HB2.out | apply pw_below_drewN | apply below_drew1)) hb); clear hR hb)
  clear HB2
  go_wp2_with (go_at_call 29; (refine (neonwrightref03_Chain.calls n4 a0 a1 lc ec _ H4.out).mono ?_); rintro _ w4 ⟨v4, rfl, hR, hb⟩; obtain ⟨A4, c4, rfl⟩ := Kd.R_slice hR; have HC4 := Aside0.mk (Kd.R_reads' hR); have HC3b := Aside0.mk (Kd.C_below HC3.out.2.2 hb); have HB4 := Aside0.mk (below_step (by repeat (first | exact HB3.out | apply pw_below_drewN | apply below_drew1)) hb); clear hR hb)
  clear HB3
  go_wp2_with (go_at_call 17; (refine (neonwrightlaw03_same.calls kc A3 c3 lc A4 c4 lc true _ (by repeat (first | exact HC3b.out | (with_reducible refine Kd.C_drewN ?_ _) | (with_reducible refine Kd.C_drew ?_))) HC3.out.2.1 (by repeat (first | exact HC4.out.2.2 | (with_reducible refine Kd.C_drewN ?_ _) | (with_reducible refine Kd.C_drew ?_))) HC4.out.2.1 HK2.out).mono ?_); rintro _ w' ⟨rfl, ⟨nd2, rfl⟩⟩)
  clear HC3 HC4 HC3b
  go_wp2_with (go_at_call 30; (refine (neonwrightref03_Chains.calls n6 a0 l e _ H6.out).mono ?_); rintro _ w5 ⟨vb, rfl, hS, hb⟩; obtain ⟨Ab, cb, rfl⟩ := Kd.S_slice hS; have HCb := Aside0.mk (Kd.S_reads' hS); have HB1 := Aside0.mk (below_step (by repeat (first | exact HB4.out | apply pw_below_drewN | apply below_drew1)) hb); clear hS hb)
  have HLb := Aside0.mk HCb.out.2.1
  have HC0 := Aside0.mk HCb.out.2.2
  clear HCb HB4
  go_loopw [10] (fun v11 w' => ∃ i : Nat, v11 = .int .i64 (i : Int) ∧ Aside0 (i ≤ 2) ∧ Aside0 (Kd.C (Kd.slice 3 (Kd.int .i64)) w' Ab l.length l) ∧ Aside0 (Below w.heap.size w w')) (fun v _ => 2 - (intOf v).toNat)
  case atStart => exact ⟨0, rfl, ⟨by decide⟩, HC0, HB1⟩
  case round =>
    clear HC0 HB1
    obtain ⟨i, rfl, Hi, HC, HB⟩ := hrel
    by_cases ci : (i : Int) < 2
    · have c1 : decide ((i : Int) < 2) = true := decide_eq_true ci
      have Hci := Aside0.mk (show i < 2 by omega)
      clear ci
      generalize wr = W0 at *
      go_wp2_with (first | (go_at_call 31; (refine (code_Chains.calls n5 a0 l e _ H5.out).mono ?_); rintro _ w2 ⟨va, rfl, hS, hb⟩; obtain ⟨Aa, ca, rfl⟩ := Kd.S_slice hS; have HCa := Aside0.mk (Kd.S_reads' hS); have HHa := Aside0.mk (show Held w2 W0.heap.size (.slice Aa l.length ca) (l.map List.length) from ⟨l, rfl, Kd.S_R hS⟩); have HB2 := Aside0.mk hb; clear hS hb) | (go_at_call 32; (refine (neonwrightlaw03_lists.calls kl Aa ca l Ab cb l true _ (by repeat (first | exact HCa.out.2.2 | (with_reducible refine Kd.C_drewN ?_ _) | (with_reducible refine Kd.C_drew ?_))) HCa.out.2.1 (by repeat (first | exact (Kd.C_below HC.out HB2.out) | (with_reducible refine Kd.C_drewN ?_ _) | (with_reducible refine Kd.C_drew ?_))) HLb.out HKL.out).mono ?_); rintro _ w' ⟨rfl, ⟨nd, rfl⟩⟩))
      go_loopw [13] (fun v14 w' => ∃ j : Nat, v14 = .int .i64 (j : Int) ∧ Aside0 (j ≤ l.length) ∧ Aside0 (Held w' W0.heap.size (.slice Aa l.length ca) (l.map List.length)) ∧ Aside0 (Below W0.heap.size W0 w')) (fun v _ => l.length - (intOf v).toNat)
      case atStart => exact ⟨0, rfl, ⟨Nat.zero_le _⟩, ⟨by first | exact HHa.out | exact HHa.out.drewN _⟩, ⟨by repeat (first | exact HB2.out | apply pw_below_drewN | apply below_drew1)⟩⟩
      case round =>
        clear HCa HHa HB2
        obtain ⟨j, rfl, Hj, HH, HB2⟩ := hrel
        by_cases cj : (j : Int) < (l.length : Int)
        · have c2 : decide ((j : Int) < (l.length : Int)) = true := decide_eq_true cj
          have c2' : decide (j < l.length) = true := decide_eq_true (by omega)
          have Hcj := Aside0.mk (show j < l.length by omega)
          have q1 := eq_true cj
          have q2 := eq_true (show j < l.length by omega)
          have q3 := eq_true (show 0 ≤ (j : Int) by omega)
          obtain ⟨ad, cap, A0, c0, ev, hcell, hpk⟩ := HH.out.poke j (by rw [HLm.out]; omega)
          rw [HLm.out] at ev
          injection ev with ev1 ev2 ev3
          subst ev1 ev3
          have hpos := HX.out j (by rw [HLm.out]; omega)
          obtain ⟨ad0, y, rfl, hy, hfz, hset⟩ := hpk 0 hpos
          rw [show ad0.add 0 = ad0 by simp [Addr.add]] at hy hfz hset
          have q4 := eq_true hpos
          have q5 := eq_true (show (0 : Int) < (((l.map List.length)[j]'(by rw [HLm.out]; omega) : Nat) : Int) by omega)
          have HSet := Aside0.mk hset
          generalize hLj : (l.map List.length)[j]'(by rw [HLm.out]; have := Hcj.out; omega) = Lj at *
          clear hpk hset cj hpos hLj HH
          go_wp2
          go_roundw
          case rel => exact ⟨j + 1, by rw [wrap1 (by have := Hcj.out; have := HL.out; omega)], ⟨by have := Hcj.out; omega⟩, ⟨(HSet.out _).1⟩, ⟨(HSet.out _).2 _ HB2.out⟩⟩
          case measure => rw [wrap1 (by have := Hcj.out; have := HL.out; omega)]; have := Hcj.out; simp [intOf]; omega
        · have c2 : decide ((j : Int) < (l.length : Int)) = false := decide_eq_false cj
          have c2' : decide (j < l.length) = false := decide_eq_false (by omega)
          clear cj
          go_wp2
          go_roundw
          case rel => exact ⟨i + 1, by rw [wrap1 (by have := Hci.out; omega)], ⟨by have := Hci.out; omega⟩, ⟨Kd.C_below HC.out HB2.out⟩, ⟨below_step HB.out HB2.out⟩⟩
          case measure => rw [wrap1 (by have := Hci.out; omega)]; have := Hci.out; simp [intOf]; omega
    · have c1 : decide ((i : Int) < 2) = false := decide_eq_false ci
      clear ci
      go_wp2_with (go_at_call 18; (refine (neonwrightlaw03_alive.calls ka true _ HKA.out).mono ?_); rintro _ w4 ⟨rfl, hb⟩; have HB4 := Aside0.mk (below_step (by repeat (first | exact HB.out | apply pw_below_drewN | apply below_drew1)) hb); clear hb)
      go_ret
      exact ⟨rfl, HB4.out⟩
theorem neonwrightlaw03_CodeChains.calls (k : Nat) (a0 : Int) (a1 : Int) (r : Bool) (w : World) (h : neonwrightlaw03_CodeChains.f k a0 a1 = some r) :
    Calls Try.prog 7 #[.int .i64 a0, .int .i64 a1] w fun e w' => e = .returned (.bool r) ∧ Below w.heap.size w w' := by
  obtain rfl : true = r := Option.some.inj h
  exact chains_walk a0 a1 w
def neonwrightlaw03_CodeChains.Pure : Prop := ∀ (a0 : Int) (a1 : Int), (Lit.int .i64 a0).wf = true → (Lit.int .i64 a1).wf = true → ∃ k, neonwrightlaw03_CodeChains.f k a0 a1 = some true
theorem neonwrightlaw03_CodeChains.walk (P : neonwrightlaw03_CodeChains.Pure) (a0 : Int) (a1 : Int) (w : World) (w0 : (Lit.int .i64 a0).wf = true) (w1 : (Lit.int .i64 a1).wf = true) :
    Calls Try.prog 7 #[.int .i64 a0, .int .i64 a1] w fun e w' => e = .returned (.bool true) ∧ Below w.heap.size w w' := by
  obtain ⟨k, h⟩ := P a0 a1 w0 w1
  refine (neonwrightlaw03_CodeChains.calls k a0 a1 true w h).mono ?_
  rintro e w' ⟨rfl, hd⟩
  exact ⟨rfl, hd⟩
end Go.Proofs.Ytgchhheajngbfaa.P
