/- Several texts of this session in one file, in build order: Pf20, Pf52, Pf22, Berger, Unord, Cover, Shadow, Bin, Init, SpN, Pf46, Pf15, Pf17, Pf57, Pf31, Pf32. -/
import Derived.Test.YtgchhheajngbfaaJCodeSperner1
import Derived.Lib.BitFns
import Derived.Laws.Entries
import Derived.Laws.BitsLemmas
namespace Go.Proofs.Ytgchhheajngbfaa.P
open Go.RowKit Go.Proofs.YtgchhheajngbfaaW.PrintWords Go.Proofs.YtgchhheajngbfaaW.PrintLast Go.Proofs.YtgchhheajngbfaaW.PrintMore
attribute [local go_sem] max2_int min2_int max_two min_two max_three min_three max_four min_four   -- for this text's walks alone
set_option linter.unusedVariables false
set_option linter.unusedSimpArgs false

/-! ### neonwrightref03_Berger: function 20 -/
def neonwrightref03_Berger.f (k : Nat) (a0 : Int) (a1 : Int) : Option (Int × Int) := (neonwrightref03_Tubes.f a0).bind fun t190 => (if t190 = true then (if a1 < 0 then (some (0, 2)) else (if 0 ≤ a0 then (if a1 ≥ (shl .i64 1 a0) then (some (0, 2)) else ((neonwrightref03_Lit.f k a1).bind fun t191 => (some (wrap64 (a1 + (shl .i64 (wrap64 (a0 - t191)) a0)), 0)))) else (none))) else (some (0, 2)))
theorem neonwrightref03_Berger.mono : ∀ a0 a1 k, LeO (neonwrightref03_Berger.f k a0 a1) (neonwrightref03_Berger.f (k + 1) a0 a1) := by
  intro a0 a1 k
  unfold neonwrightref03_Berger.f
  repeat' first
      | (with_reducible exact neonwrightref03_Lit.mono _ _)
      | (with_reducible exact LeO.refl _)
      | (with_reducible exact LeO.none _)
      | (with_reducible refine LeO.ite ?_ ?_)
      | (with_reducible refine LeO.bind ?_ (fun _ => ?_))
      | exact neonwrightref03_Lit.mono _ _
      | exact LeO.none _
      | refine LeO.ite ?_ ?_
      | refine LeO.bind ?_ (fun _ => ?_)
set_option maxHeartbeats 8000000 in
set_option maxRecDepth 100000 in
theorem neonwrightref03_Berger.calls (k : Nat) (a0 : Int) (a1 : Int) (r1 : Int) (r2 : Int) (w : World) (h : neonwrightref03_Berger.f k a0 a1 = some (r1, r2)) :
    Calls Try.prog 20 #[.int .i64 a0, .int .i64 a1] w fun e w' => e = .returned (.tuple #[.int .i64 r1, .int .i64 r2]) ∧ Drawn0 w w' := by
  have H : ((neonwrightref03_Tubes.f a0).bind fun t190 => (if t190 = true then (if a1 < 0 then (some (0, 2)) else (if 0 ≤ a0 then (if a1 ≥ (shl .i64 1 a0) then (some (0, 2)) else ((neonwrightref03_Lit.f k a1).bind fun t191 => (some (wrap64 (a1 + (shl .i64 (wrap64 (a0 - t191)) a0)), 0)))) else (none))) else (some (0, 2)))) = some (r1, r2) := h
  clear h
  replace H := Option.bind_eq_some_iff.mp H
  obtain ⟨t190, A30, H⟩ := H
  replace H : (if t190 = true then (if a1 < 0 then (some (0, 2)) else (if 0 ≤ a0 then (if a1 ≥ (shl .i64 1 a0) then (some (0, 2)) else ((neonwrightref03_Lit.f k a1).bind fun t191 => (some (wrap64 (a1 + (shl .i64 (wrap64 (a0 - t191)) a0)), 0)))) else (none))) else (some (0, 2))) = some (r1, r2) := H
  have A3 := Aside0.mk A30
  clear A30
  by_cases c4 : t190 = true
  · subst c4
    have H1 : (if a1 < 0 then (some (0, 2)) else (if 0 ≤ a0 then (if a1 ≥ (shl .i64 1 a0) then (some (0, 2)) else ((neonwrightref03_Lit.f k a1).bind fun t191 => (some (wrap64 (a1 + (shl .i64 (wrap64 (a0 - t191)) a0)), 0)))) else (none))) = some (r1, r2) := by rw [if_pos rfl] at H; exact H
    clear H
    have H := H1
    clear H1
    by_cases c5 : a1 < 0
    · rw [if_pos c5] at H
      have c5b0 : decide (a1 < 0) = true := decide_eq_true c5
      clear c5
      simp only [Option.some.injEq, Prod.mk.injEq] at H
      obtain ⟨rfl, rfl⟩ := H
      go_enter Try.func20, Try.ntmps20
      go_wp2_with (first | ((with_reducible refine gate_callee (f := 50) rfl ?_); refine goesL_ (some 7) rfl rfl Try.func50 (by kernel_rfl) rfl #[.int .i64 a0] rfl (by (try simp only [List.map_toArray, List.map_cons, List.map_nil]); first | done | rfl | (simp only [List.length_drop, List.length_take]; rfl)) ?_; (with_reducible refine (neonwrightref03_Tubes.calls a0 true _ A3.out).mono ?_); rintro e w' ⟨rfl, ⟨nd, rfl⟩⟩; refine ⟨_, rfl, ?_⟩))
      go_ret2
      exact ⟨by first | rfl | (simp; done) | (simp [*]; done), by repeat (first | exact Drawn0.refl _ | apply Drawn0.step)⟩
    · rw [if_neg c5] at H
      have c5b0 : decide (a1 < 0) = false := decide_eq_false c5
      clear c5
      by_cases c6 : 0 ≤ a0
      · rw [if_pos c6] at H
        have c6b0 := eq_true c6
        have c6b1 : decide (0 ≤ a0) = true := decide_eq_true c6
        clear c6
        obtain ⟨ji7, hji7⟩ : ∃ j_ : Int, (shl .i64 1 a0) = j_ := ⟨_, rfl⟩
        replace H : (if a1 ≥ (ji7) then (some (0, 2)) else ((neonwrightref03_Lit.f k a1).bind fun t191 => (some (wrap64 (a1 + (shl .i64 (wrap64 (a0 - t191)) a0)), 0)))) = some (r1, r2) := by first | (rw [hji7] at H; exact H) | (simp only [hji7] at H ⊢; exact H)
        (try rw [hji7] at A3)
        have hji7_ : (IntKind.i64.wrap (1 * 2 ^ min a0.toNat 64)) = ji7 := hji7
        have hji7z : a0 ≤ 64 → (IntKind.i64.wrap (1 * 2 ^ a0.toNat)) = ji7 := shl_small hji7
        have hji7u : (IntKind.i64.wrap (2 ^ min a0.toNat 64)) = ji7 := by have h_ := hji7_; rw [Int.one_mul] at h_; exact h_
        have hji7v : a0 ≤ 64 → (IntKind.i64.wrap (2 ^ a0.toNat)) = ji7 := fun hle_ => by have h_ := hji7z hle_; rw [Int.one_mul] at h_; exact h_
        have hji7y : (wrap64 (1 * 2 ^ min a0.toNat 64)) = ji7 := (i64_w _).symm.trans hji7_
        have hji7x : a0 ≤ 64 → (wrap64 (1 * 2 ^ a0.toNat)) = ji7 := fun h_ => (i64_w _).symm.trans (hji7z h_)
        by_cases c8 : a1 ≥ (ji7)
        · rw [if_pos c8] at H
          have c8b0 : decide ((ji7) ≤ a1) = true := decide_eq_true c8
          clear c8
          simp only [Option.some.injEq, Prod.mk.injEq] at H
          obtain ⟨rfl, rfl⟩ := H
          go_enter Try.func20, Try.ntmps20
          go_wp2_with (first | ((with_reducible refine gate_callee (f := 50) rfl ?_); refine goesL_ (some 7) rfl rfl Try.func50 (by kernel_rfl) rfl #[.int .i64 a0] rfl (by (try simp only [List.map_toArray, List.map_cons, List.map_nil]); first | done | rfl | (simp only [List.length_drop, List.length_take]; rfl)) ?_; (with_reducible refine (neonwrightref03_Tubes.calls a0 true _ A3.out).mono ?_); rintro e w' ⟨rfl, ⟨nd, rfl⟩⟩; refine ⟨_, rfl, ?_⟩))
          go_ret2
          exact ⟨by first | rfl | (simp; done) | (simp only [← hji7] <;> (first | rfl | simp)) | (simp [*]; done), by repeat (first | exact Drawn0.refl _ | apply Drawn0.step)⟩
        · rw [if_neg c8] at H
          have c8b0 : decide ((ji7) ≤ a1) = false := decide_eq_false c8
          clear c8
          replace H := Option.bind_eq_some_iff.mp H
          obtain ⟨t191, A90, H⟩ := H
          replace H : (some (wrap64 (a1 + (shl .i64 (wrap64 (a0 - t191)) a0)), 0)) = some (r1, r2) := H
          have A9 := Aside0.mk A90
          clear A90
          have c10b0 := eq_true (of_decide_eq_true (by first | (with_reducible assumption) | assumption) : 0 ≤ a0)
          obtain ⟨ji11, hji11⟩ : ∃ j_ : Int, (shl .i64 (wrap64 (a0 - t191)) a0) = j_ := ⟨_, rfl⟩
          replace H : (some (wrap64 (a1 + (ji11)), 0)) = some (r1, r2) := by first | (rw [hji11] at H; exact H) | (simp only [hji11] at H ⊢; exact H)
          (try rw [hji11] at A3)
          (try rw [hji11] at A9)
          have hji11_ : (IntKind.i64.wrap ((wrap64 (a0 - t191)) * 2 ^ min a0.toNat 64)) = ji11 := hji11
          have hji11z : a0 ≤ 64 → (IntKind.i64.wrap ((wrap64 (a0 - t191)) * 2 ^ a0.toNat)) = ji11 := shl_small hji11
          have hji11y : (wrap64 ((wrap64 (a0 - t191)) * 2 ^ min a0.toNat 64)) = ji11 := (i64_w _).symm.trans hji11_
          have hji11x : a0 ≤ 64 → (wrap64 ((wrap64 (a0 - t191)) * 2 ^ a0.toNat)) = ji11 := fun h_ => (i64_w _).symm.trans (hji11z h_)
          simp only [Option.some.injEq, Prod.mk.injEq] at H
          obtain ⟨rfl, rfl⟩ := H
          go_enter Try.func20, Try.ntmps20
          go_wp2_with (first | ((with_reducible refine gate_callee (f := 50) rfl ?_); refine goesL_ (some 7) rfl rfl Try.func50 (by kernel_rfl) rfl #[.int .i64 a0] rfl (by (try simp only [List.map_toArray, List.map_cons, List.map_nil]); first | done | rfl | (simp only [List.length_drop, List.length_take]; rfl)) ?_; (with_reducible refine (neonwrightref03_Tubes.calls a0 true _ A3.out).mono ?_); rintro e w' ⟨rfl, ⟨nd, rfl⟩⟩; refine ⟨_, rfl, ?_⟩) | ((with_reducible refine gate_callee (f := 35) rfl ?_); refine goesL_ (some 22) rfl rfl Try.func35 (by kernel_rfl) rfl #[.int .i64 a1] rfl (by (try simp only [List.map_toArray, List.map_cons, List.map_nil]); first | done | rfl | (simp only [List.length_drop, List.length_take]; rfl)) ?_; (with_reducible refine (neonwrightref03_Lit.calls k a1 t191 _ A9.out).mono ?_); rintro e w' ⟨rfl, ⟨nd, rfl⟩⟩; refine ⟨_, rfl, ?_⟩))
          go_ret2
          exact ⟨by first | rfl | (simp; done) | (simp only [← hji7, ← hji11] <;> (first | rfl | simp)) | (simp [*]; done), by repeat (first | exact Drawn0.refl _ | apply Drawn0.step)⟩
      · rw [if_neg c6] at H
        exact absurd H (by simp)
  · replace c4 := Bool.eq_false_iff.mpr c4
    subst c4
    have H1 : (some (0, 2)) = some (r1, r2) := by rw [if_neg (show ¬ (false = true) by decide)] at H; exact H
    clear H
    have H := H1
    clear H1
    simp only [Option.some.injEq, Prod.mk.injEq] at H
    obtain ⟨rfl, rfl⟩ := H
    go_enter Try.func20, Try.ntmps20
    go_wp2_with (first | ((with_reducible refine gate_callee (f := 50) rfl ?_); refine goesL_ (some 7) rfl rfl Try.func50 (by kernel_rfl) rfl #[.int .i64 a0] rfl (by (try simp only [List.map_toArray, List.map_cons, List.map_nil]); first | done | rfl | (simp only [List.length_drop, List.length_take]; rfl)) ?_; (with_reducible refine (neonwrightref03_Tubes.calls a0 false _ A3.out).mono ?_); rintro e w' ⟨rfl, ⟨nd, rfl⟩⟩; refine ⟨_, rfl, ?_⟩))
    go_ret2
    exact ⟨by first | rfl | (simp; done) | (simp [*]; done), by repeat (first | exact Drawn0.refl _ | apply Drawn0.step)⟩

end Go.Proofs.Ytgchhheajngbfaa.P

namespace Go.Proofs.Ytgchhheajngbfaa.P
open Go.RowKit Go.Proofs.YtgchhheajngbfaaW.PrintWords Go.Proofs.YtgchhheajngbfaaW.PrintLast Go.Proofs.YtgchhheajngbfaaW.PrintMore
attribute [local go_sem] max2_int min2_int max_two min_two max_three min_three max_four min_four   -- for this text's walks alone
set_option linter.unusedVariables false
set_option linter.unusedSimpArgs false

/-! ### neonwrightref03_bits: function 52 -/
def neonwrightref03_bits.l0 : Nat → Int → Int → Option (Int)
  | 0, _, _ => none
  | k + 1, x0, x3 => if x0 > 0 then (neonwrightref03_bits.l0 k (wrap64 (Int.tdiv x0 2)) (wrap64 (x3 + 1))) else (some x3)
def neonwrightref03_bits.f (k : Nat) (a0 : Int) : Option (Int) := neonwrightref03_bits.l0 k a0 0
theorem neonwrightref03_bits.mono_l : ∀ k, (∀ y0 y1, LeO (neonwrightref03_bits.l0 k y0 y1) (neonwrightref03_bits.l0 (k + 1) y0 y1))
  | 0 => fun _ _ r h => by simp [neonwrightref03_bits.l0] at h
  | k + 1 => by
    have ih0 := neonwrightref03_bits.mono_l k
    · intro y0 y1
      unfold neonwrightref03_bits.l0
      repeat' first
      | (with_reducible exact ih0 _ _)
      | (with_reducible exact LeO.refl _)
      | (with_reducible exact LeO.none _)
      | (with_reducible refine LeO.ite ?_ ?_)
      | (with_reducible refine LeO.bind ?_ (fun _ => ?_))
      | exact ih0 _ _
      | exact LeO.none _
      | refine LeO.ite ?_ ?_
      | refine LeO.bind ?_ (fun _ => ?_)
theorem neonwrightref03_bits.mono : ∀ a0 k, LeO (neonwrightref03_bits.f k a0) (neonwrightref03_bits.f (k + 1) a0) := by
  intro a0 k
  have ih0 := neonwrightref03_bits.mono_l k
  unfold neonwrightref03_bits.f
  repeat' first
      | (with_reducible exact ih0 _ _)
      | (with_reducible exact LeO.refl _)
      | (with_reducible exact LeO.none _)
      | (with_reducible refine LeO.ite ?_ ?_)
      | (with_reducible refine LeO.bind ?_ (fun _ => ?_))
      | exact ih0 _ _
      | exact LeO.none _
      | refine LeO.ite ?_ ?_
      | refine LeO.bind ?_ (fun _ => ?_)
set_option maxHeartbeats 8000000 in
set_option maxRecDepth 100000 in
theorem neonwrightref03_bits.calls (k : Nat) (a0 : Int) (r : Int) (w : World) (h : neonwrightref03_bits.f k a0 = some r) :
    Calls Try.prog 52 #[.int .i64 a0] w fun e w' => e = .returned (.int .i64 r) ∧ Drawn0 w w' := by
  have H : (neonwrightref03_bits.l0 k a0 0) = some r := h
  clear h
  have H' := Aside0.mk H
  clear H
  go_enter Try.func52, Try.ntmps52
  go_wp2
  go_loopg [0, 3] k (fun kq v0 v3 w' => ∃ (x0_1 : Int) (x3_1 : Int), v0 = .int .i64 x0_1 ∧ v3 = .int .i64 x3_1 ∧ Aside0 (neonwrightref03_bits.l0 kq x0_1 x3_1 = some r) ∧ Aside0 (kq ≤ k) ∧ Drawn0 w w')
  case atStart => exact ⟨(a0), (0), (by first | rfl | (simp; done) | (simp [*]; done)), (by first | rfl | (simp; done) | (simp [*]; done)), H', ⟨Nat.le_refl _⟩, by repeat (first | exact Drawn0.refl _ | apply Drawn0.step)⟩
  case round =>
    clear H'
    obtain ⟨x0_1, x3_1, rfl, rfl, HA, HK1, ⟨m1, rfl⟩⟩ := hrel
    cases gk with
    | zero => exact absurd HA.out (by simp [neonwrightref03_bits.l0])
    | succ k1 =>
      have H := HA.out
      clear HA
      simp only [neonwrightref03_bits.l0] at H
      by_cases c2 : x0_1 > 0
      · rw [if_pos c2] at H
        have c2b0 : decide (0 < x0_1) = true := decide_eq_true c2
        clear c2
        have H' := Aside0.mk H
        clear H
        go_wp2
        go_roundg k1
        case measure => have := HK1.out; omega
        case rel => exact ⟨(wrap64 (Int.tdiv x0_1 2)), (wrap64 (x3_1 + 1)), (by first | rfl | (simp; done) | (simp [*]; done)), (by first | rfl | (simp; done) | (simp [*]; done)), H', ⟨by have := HK1.out; omega⟩, by repeat (first | exact Drawn0.refl _ | apply Drawn0.step)⟩
      · rw [if_neg c2] at H
        have c2b0 : decide (0 < x0_1) = false := decide_eq_false c2
        clear c2
        obtain rfl := Option.some.inj H
        go_wp2
        go_ret
        exact ⟨by first | rfl | (simp; done) | (simp [*]; done), by repeat (first | exact Drawn0.refl _ | apply Drawn0.step)⟩

end Go.Proofs.Ytgchhheajngbfaa.P

namespace Go.Proofs.Ytgchhheajngbfaa.P
open Go.RowKit Go.Proofs.YtgchhheajngbfaaW.PrintWords Go.Proofs.YtgchhheajngbfaaW.PrintLast Go.Proofs.YtgchhheajngbfaaW.PrintMore
attribute [local go_sem] max2_int min2_int max_two min_two max_three min_three max_four min_four   -- for this text's walks alone
set_option linter.unusedVariables false
set_option linter.unusedSimpArgs false

/-! ### neonwrightref03_Decode: function 22 -/
def neonwrightref03_Decode.f (k : Nat) (a0 : Int) (a1 : Int) : Option (Int × Bool × Int) := (neonwrightref03_Tubes.f a0).bind fun t195 => (if t195 = true then (if a1 < 0 then (some (0, false, 2)) else ((neonwrightref03_bits.f k a0).bind fun t196 => (if 0 ≤ (wrap64 (a0 + t196)) then (if a1 ≥ (shl .i64 1 (wrap64 (a0 + t196))) then (some (0, false, 2)) else (if 0 ≤ a0 then (if (shl .i64 1 a0) = 0 then (none) else ((neonwrightref03_Lit.f k (Int.tmod a1 (shl .i64 1 a0))).bind fun t197 => (some (Int.tmod a1 (shl .i64 1 a0), (a1 == (wrap64 ((Int.tmod a1 (shl .i64 1 a0)) + (shl .i64 (wrap64 (a0 - t197)) a0)))), 0)))) else (none))) else (none)))) else (some (0, false, 2)))
theorem neonwrightref03_Decode.mono : ∀ a0 a1 k, LeO (neonwrightref03_Decode.f k a0 a1) (neonwrightref03_Decode.f (k + 1) a0 a1) := by
  intro a0 a1 k
  unfold neonwrightref03_Decode.f
  repeat' first
      | (with_reducible exact neonwrightref03_Lit.mono _ _)
      | (with_reducible exact neonwrightref03_bits.mono _ _)
      | (with_reducible exact LeO.refl _)
      | (with_reducible exact LeO.none _)
      | (with_reducible refine LeO.ite ?_ ?_)
      | (with_reducible refine LeO.bind ?_ (fun _ => ?_))
      | exact neonwrightref03_Lit.mono _ _
      | exact neonwrightref03_bits.mono _ _
      | exact LeO.none _
      | refine LeO.ite ?_ ?_
      | refine LeO.bind ?_ (fun _ => ?_)
set_option maxHeartbeats 8000000 in
set_option maxRecDepth 100000 in
theorem neonwrightref03_Decode.calls (k : Nat) (a0 : Int) (a1 : Int) (r1 : Int) (r2 : Bool) (r3 : Int) (w : World) (h : neonwrightref03_Decode.f k a0 a1 = some (r1, r2, r3)) :
    Calls Try.prog 22 #[.int .i64 a0, .int .i64 a1] w fun e w' => e = .returned (.tuple #[.int .i64 r1, .bool r2, .int .i64 r3]) ∧ Drawn0 w w' := by
  have H : ((neonwrightref03_Tubes.f a0).bind fun t195 => (if t195 = true then (if a1 < 0 then (some (0, false, 2)) else ((neonwrightref03_bits.f k a0).bind fun t196 => (if 0 ≤ (wrap64 (a0 + t196)) then (if a1 ≥ (shl .i64 1 (wrap64 (a0 + t196))) then (some (0, false, 2)) else (if 0 ≤ a0 then (if (shl .i64 1 a0) = 0 then (none) else ((neonwrightref03_Lit.f k (Int.tmod a1 (shl .i64 1 a0))).bind fun t197 => (some (Int.tmod a1 (shl .i64 1 a0), (a1 == (wrap64 ((Int.tmod a1 (shl .i64 1 a0)) + (shl .i64 (wrap64 (a0 - t197)) a0)))), 0)))) else (none))) else (none)))) else (some (0, false, 2)))) = some (r1, r2, r3) := h
  clear h
  replace H := Option.bind_eq_some_iff.mp H
  obtain ⟨t195, A30, H⟩ := H
  replace H : (if t195 = true then (if a1 < 0 then (some (0, false, 2)) else ((neonwrightref03_bits.f k a0).bind fun t196 => (if 0 ≤ (wrap64 (a0 + t196)) then (if a1 ≥ (shl .i64 1 (wrap64 (a0 + t196))) then (some (0, false, 2)) else (if 0 ≤ a0 then (if (shl .i64 1 a0) = 0 then (none) else ((neonwrightref03_Lit.f k (Int.tmod a1 (shl .i64 1 a0))).bind fun t197 => (some (Int.tmod a1 (shl .i64 1 a0), (a1 == (wrap64 ((Int.tmod a1 (shl .i64 1 a0)) + (shl .i64 (wrap64 (a0 - t197)) a0)))), 0)))) else (none))) else (none)))) else (some (0, false, 2))) = some (r1, r2, r3) := H
  have A3 := Aside0.mk A30
  clear A30
  by_cases c4 : t195 = true
  · subst c4
    have H1 : (if a1 < 0 then (some (0, false, 2)) else ((neonwrightref03_bits.f k a0).bind fun t196 => (if 0 ≤ (wrap64 (a0 + t196)) then (if a1 ≥ (shl .i64 1 (wrap64 (a0 + t196))) then (some (0, false, 2)) else (if 0 ≤ a0 then (if (shl .i64 1 a0) = 0 then (none) else ((neonwrightref03_Lit.f k (Int.tmod a1 (shl .i64 1 a0))).bind fun t197 => (some (Int.tmod a1 (shl .i64 1 a0), (a1 == (wrap64 ((Int.tmod a1 (shl .i64 1 a0)) + (shl .i64 (wrap64 (a0 - t197)) a0)))), 0)))) else (none))) else (none)))) = some (r1, r2, r3) := by rw [if_pos rfl] at H; exact H
    clear H
    have H := H1
    clear H1
    by_cases c5 : a1 < 0
    · rw [if_pos c5] at H
      have c5b0 : decide (a1 < 0) = true := decide_eq_true c5
      clear c5
      simp only [Option.some.injEq, Prod.mk.injEq] at H
      obtain ⟨rfl, rfl, rfl⟩ := H
      go_enter Try.func22, Try.ntmps22
      go_wp2_with (first | (go_at_call 50; (with_reducible refine (neonwrightref03_Tubes.calls a0 true _ A3.out).mono ?_); rintro e w' ⟨rfl, ⟨nd, rfl⟩⟩; (try first | exact ⟨rfl, _, World.drewN_drewN _ _ _⟩ | exact ⟨rfl, _, Eq.trans (World.drewN_drewN _ _ _) (congrArg (World.drewN _) (Nat.add_assoc _ _ _))⟩)))
      repeat (go_quiet (first | (go_at_call 50; (with_reducible refine (neonwrightref03_Tubes.calls a0 true _ A3.out).mono ?_); rintro e w' ⟨rfl, ⟨nd, rfl⟩⟩; (try first | exact ⟨rfl, _, World.drewN_drewN _ _ _⟩ | exact ⟨rfl, _, Eq.trans (World.drewN_drewN _ _ _) (congrArg (World.drewN _) (Nat.add_assoc _ _ _))⟩))); try go_wp2_with (first | (go_at_call 50; (with_reducible refine (neonwrightref03_Tubes.calls a0 true _ A3.out).mono ?_); rintro e w' ⟨rfl, ⟨nd, rfl⟩⟩; (try first | exact ⟨rfl, _, World.drewN_drewN _ _ _⟩ | exact ⟨rfl, _, Eq.trans (World.drewN_drewN _ _ _) (congrArg (World.drewN _) (Nat.add_assoc _ _ _))⟩))))
      go_ret3
      exact ⟨by first | rfl | (simp; done) | (simp [*]; done), by repeat (first | exact Drawn0.refl _ | apply Drawn0.step)⟩
    · rw [if_neg c5] at H
      have c5b0 : decide (a1 < 0) = false := decide_eq_false c5
      clear c5
      replace H := Option.bind_eq_some_iff.mp H
      obtain ⟨t196, A60, H⟩ := H
      replace H : (if 0 ≤ (wrap64 (a0 + t196)) then (if a1 ≥ (shl .i64 1 (wrap64 (a0 + t196))) then (some (0, false, 2)) else (if 0 ≤ a0 then (if (shl .i64 1 a0) = 0 then (none) else ((neonwrightref03_Lit.f k (Int.tmod a1 (shl .i64 1 a0))).bind fun t197 => (some (Int.tmod a1 (shl .i64 1 a0), (a1 == (wrap64 ((Int.tmod a1 (shl .i64 1 a0)) + (shl .i64 (wrap64 (a0 - t197)) a0)))), 0)))) else (none))) else (none)) = some (r1, r2, r3) := H
      have A6 := Aside0.mk A60
      clear A60
      obtain ⟨ji7, hji7⟩ : ∃ j_ : Int, (wrap64 (a0 + t196)) = j_ := ⟨_, rfl⟩
      replace H : (if 0 ≤ (ji7) then (if a1 ≥ (shl .i64 1 (ji7)) then (some (0, false, 2)) else (if 0 ≤ a0 then (if (shl .i64 1 a0) = 0 then (none) else ((neonwrightref03_Lit.f k (Int.tmod a1 (shl .i64 1 a0))).bind fun t197 => (some (Int.tmod a1 (shl .i64 1 a0), (a1 == (wrap64 ((Int.tmod a1 (shl .i64 1 a0)) + (shl .i64 (wrap64 (a0 - t197)) a0)))), 0)))) else (none))) else (none)) = some (r1, r2, r3) := by first | (rw [hji7] at H; exact H) | (simp only [hji7] at H ⊢; exact H)
      (try rw [hji7] at A3)
      (try rw [hji7] at A6)
      have hji7w : (IntKind.i64.wrap (a0 + t196)) = ji7 := (i64_w _).trans hji7
      by_cases c8 : 0 ≤ (ji7)
      · rw [if_pos c8] at H
        have c8b0 := eq_true c8
        have c8b1 : decide (0 ≤ (ji7)) = true := decide_eq_true c8
        clear c8
        obtain ⟨ji9, hji9⟩ : ∃ j_ : Int, (shl .i64 1 (ji7)) = j_ := ⟨_, rfl⟩
        replace H : (if a1 ≥ (ji9) then (some (0, false, 2)) else (if 0 ≤ a0 then (if (shl .i64 1 a0) = 0 then (none) else ((neonwrightref03_Lit.f k (Int.tmod a1 (shl .i64 1 a0))).bind fun t197 => (some (Int.tmod a1 (shl .i64 1 a0), (a1 == (wrap64 ((Int.tmod a1 (shl .i64 1 a0)) + (shl .i64 (wrap64 (a0 - t197)) a0)))), 0)))) else (none))) = some (r1, r2, r3) := by first | (rw [hji9] at H; exact H) | (simp only [hji9] at H ⊢; exact H)
        (try rw [hji9] at A3)
        (try rw [hji9] at A6)
        have hji9_ : (IntKind.i64.wrap (1 * 2 ^ min (ji7).toNat 64)) = ji9 := hji9
        have hji9z : (ji7) ≤ 64 → (IntKind.i64.wrap (1 * 2 ^ (ji7).toNat)) = ji9 := shl_small hji9
        have hji9u : (IntKind.i64.wrap (2 ^ min (ji7).toNat 64)) = ji9 := by have h_ := hji9_; rw [Int.one_mul] at h_; exact h_
        have hji9v : (ji7) ≤ 64 → (IntKind.i64.wrap (2 ^ (ji7).toNat)) = ji9 := fun hle_ => by have h_ := hji9z hle_; rw [Int.one_mul] at h_; exact h_
        have hji9y : (wrap64 (1 * 2 ^ min (ji7).toNat 64)) = ji9 := (i64_w _).symm.trans hji9_
        have hji9x : (ji7) ≤ 64 → (wrap64 (1 * 2 ^ (ji7).toNat)) = ji9 := fun h_ => (i64_w _).symm.trans (hji9z h_)
        by_cases c10 : a1 ≥ (ji9)
        · rw [if_pos c10] at H
          have c10b0 : decide ((ji9) ≤ a1) = true := decide_eq_true c10
          clear c10
          simp only [Option.some.injEq, Prod.mk.injEq] at H
          obtain ⟨rfl, rfl, rfl⟩ := H
          go_enter Try.func22, Try.ntmps22
          go_wp2_with (first | (go_at_call 50; (with_reducible refine (neonwrightref03_Tubes.calls a0 true _ A3.out).mono ?_); rintro e w' ⟨rfl, ⟨nd, rfl⟩⟩; (try first | exact ⟨rfl, _, World.drewN_drewN _ _ _⟩ | exact ⟨rfl, _, Eq.trans (World.drewN_drewN _ _ _) (congrArg (World.drewN _) (Nat.add_assoc _ _ _))⟩)) | (go_at_call 52; (with_reducible refine (neonwrightref03_bits.calls k a0 t196 _ A6.out).mono ?_); rintro e w' ⟨rfl, ⟨nd, rfl⟩⟩; (try first | exact ⟨rfl, _, World.drewN_drewN _ _ _⟩ | exact ⟨rfl, _, Eq.trans (World.drewN_drewN _ _ _) (congrArg (World.drewN _) (Nat.add_assoc _ _ _))⟩)))
          repeat (go_quiet (first | (go_at_call 50; (with_reducible refine (neonwrightref03_Tubes.calls a0 true _ A3.out).mono ?_); rintro e w' ⟨rfl, ⟨nd, rfl⟩⟩; (try first | exact ⟨rfl, _, World.drewN_drewN _ _ _⟩ | exact ⟨rfl, _, Eq.trans (World.drewN_drewN _ _ _) (congrArg (World.drewN _) (Nat.add_assoc _ _ _))⟩)) | (go_at_call 52; (with_reducible refine (neonwrightref03_bits.calls k a0 t196 _ A6.out).mono ?_); rintro e w' ⟨rfl, ⟨nd, rfl⟩⟩; (try first | exact ⟨rfl, _, World.drewN_drewN _ _ _⟩ | exact ⟨rfl, _, Eq.trans (World.drewN_drewN _ _ _) (congrArg (World.drewN _) (Nat.add_assoc _ _ _))⟩))); try go_wp2_with (first | (go_at_call 50; (with_reducible refine (neonwrightref03_Tubes.calls a0 true _ A3.out).mono ?_); rintro e w' ⟨rfl, ⟨nd, rfl⟩⟩; (try first | exact ⟨rfl, _, World.drewN_drewN _ _ _⟩ | exact ⟨rfl, _, Eq.trans (World.drewN_drewN _ _ _) (congrArg (World.drewN _) (Nat.add_assoc _ _ _))⟩)) | (go_at_call 52; (with_reducible refine (neonwrightref03_bits.calls k a0 t196 _ A6.out).mono ?_); rintro e w' ⟨rfl, ⟨nd, rfl⟩⟩; (try first | exact ⟨rfl, _, World.drewN_drewN _ _ _⟩ | exact ⟨rfl, _, Eq.trans (World.drewN_drewN _ _ _) (congrArg (World.drewN _) (Nat.add_assoc _ _ _))⟩))))
          go_ret3
          exact ⟨by first | rfl | (simp; done) | (simp only [← hji7, ← hji9] <;> (first | rfl | simp)) | (simp [*]; done), by repeat (first | exact Drawn0.refl _ | apply Drawn0.step)⟩
        · rw [if_neg c10] at H
          have c10b0 : decide ((ji9) ≤ a1) = false := decide_eq_false c10
          clear c10
          by_cases c11 : 0 ≤ a0
          · rw [if_pos c11] at H
            have c11b0 := eq_true c11
            have c11b1 : decide (0 ≤ a0) = true := decide_eq_true c11
            clear c11
            obtain ⟨ji12, hji12⟩ : ∃ j_ : Int, (shl .i64 1 a0) = j_ := ⟨_, rfl⟩
            replace H : (if (ji12) = 0 then (none) else ((neonwrightref03_Lit.f k (Int.tmod a1 (ji12))).bind fun t197 => (some (Int.tmod a1 (ji12), (a1 == (wrap64 ((Int.tmod a1 (ji12)) + (shl .i64 (wrap64 (a0 - t197)) a0)))), 0)))) = some (r1, r2, r3) := by first | (rw [hji12] at H; exact H) | (simp only [hji12] at H ⊢; exact H)
            (try rw [hji12] at A3)
            (try rw [hji12] at A6)
            have hji12_ : (IntKind.i64.wrap (1 * 2 ^ min a0.toNat 64)) = ji12 := hji12
            have hji12z : a0 ≤ 64 → (IntKind.i64.wrap (1 * 2 ^ a0.toNat)) = ji12 := shl_small hji12
            have hji12u : (IntKind.i64.wrap (2 ^ min a0.toNat 64)) = ji12 := by have h_ := hji12_; rw [Int.one_mul] at h_; exact h_
            have hji12v : a0 ≤ 64 → (IntKind.i64.wrap (2 ^ a0.toNat)) = ji12 := fun hle_ => by have h_ := hji12z hle_; rw [Int.one_mul] at h_; exact h_
            have hji12y : (wrap64 (1 * 2 ^ min a0.toNat 64)) = ji12 := (i64_w _).symm.trans hji12_
            have hji12x : a0 ≤ 64 → (wrap64 (1 * 2 ^ a0.toNat)) = ji12 := fun h_ => (i64_w _).symm.trans (hji12z h_)
            by_cases c13 : (ji12) = 0
            · rw [if_pos c13] at H
              exact absurd H (by simp)
            · rw [if_neg c13] at H
              have c13b0 : ((ji12) == 0) = false := beq_eq_false_iff_ne.mpr c13
              have c13b1 : ((ji12) != 0) = true := bne_iff_ne.mpr c13
              replace H := Option.bind_eq_some_iff.mp H
              obtain ⟨t197, A140, H⟩ := H
              replace H : (some (Int.tmod a1 (ji12), (a1 == (wrap64 ((Int.tmod a1 (ji12)) + (shl .i64 (wrap64 (a0 - t197)) a0)))), 0)) = some (r1, r2, r3) := H
              have A14 := Aside0.mk A140
              clear A140
              have c15b0 := eq_true (of_decide_eq_true (by first | (with_reducible assumption) | assumption) : 0 ≤ a0)
              obtain ⟨ji16, hji16⟩ : ∃ j_ : Int, (shl .i64 (wrap64 (a0 - t197)) a0) = j_ := ⟨_, rfl⟩
              replace H : (some (Int.tmod a1 (ji12), (a1 == (wrap64 ((Int.tmod a1 (ji12)) + (ji16)))), 0)) = some (r1, r2, r3) := by first | (rw [hji16] at H; exact H) | (simp only [hji16] at H ⊢; exact H)
              (try rw [hji16] at A3)
              (try rw [hji16] at A6)
              (try rw [hji16] at A14)
              have hji16_ : (IntKind.i64.wrap ((wrap64 (a0 - t197)) * 2 ^ min a0.toNat 64)) = ji16 := hji16
              have hji16z : a0 ≤ 64 → (IntKind.i64.wrap ((wrap64 (a0 - t197)) * 2 ^ a0.toNat)) = ji16 := shl_small hji16
              have hji16y : (wrap64 ((wrap64 (a0 - t197)) * 2 ^ min a0.toNat 64)) = ji16 := (i64_w _).symm.trans hji16_
              have hji16x : a0 ≤ 64 → (wrap64 ((wrap64 (a0 - t197)) * 2 ^ a0.toNat)) = ji16 := fun h_ => (i64_w _).symm.trans (hji16z h_)
              simp only [Option.some.injEq, Prod.mk.injEq] at H
              obtain ⟨rfl, rfl, rfl⟩ := H
              go_enter Try.func22, Try.ntmps22
              go_wp2_with (first | (go_at_call 50; (with_reducible refine (neonwrightref03_Tubes.calls a0 true _ A3.out).mono ?_); rintro e w' ⟨rfl, ⟨nd, rfl⟩⟩; (try first | exact ⟨rfl, _, World.drewN_drewN _ _ _⟩ | exact ⟨rfl, _, Eq.trans (World.drewN_drewN _ _ _) (congrArg (World.drewN _) (Nat.add_assoc _ _ _))⟩)) | (go_at_call 52; (with_reducible refine (neonwrightref03_bits.calls k a0 t196 _ A6.out).mono ?_); rintro e w' ⟨rfl, ⟨nd, rfl⟩⟩; (try first | exact ⟨rfl, _, World.drewN_drewN _ _ _⟩ | exact ⟨rfl, _, Eq.trans (World.drewN_drewN _ _ _) (congrArg (World.drewN _) (Nat.add_assoc _ _ _))⟩)) | (go_at_call 35; (with_reducible refine (neonwrightref03_Lit.calls k (Int.tmod a1 (ji12)) t197 _ A14.out).mono ?_); rintro e w' ⟨rfl, ⟨nd, rfl⟩⟩; (try first | exact ⟨rfl, _, World.drewN_drewN _ _ _⟩ | exact ⟨rfl, _, Eq.trans (World.drewN_drewN _ _ _) (congrArg (World.drewN _) (Nat.add_assoc _ _ _))⟩)))
              repeat (go_quiet (first | (go_at_call 50; (with_reducible refine (neonwrightref03_Tubes.calls a0 true _ A3.out).mono ?_); rintro e w' ⟨rfl, ⟨nd, rfl⟩⟩; (try first | exact ⟨rfl, _, World.drewN_drewN _ _ _⟩ | exact ⟨rfl, _, Eq.trans (World.drewN_drewN _ _ _) (congrArg (World.drewN _) (Nat.add_assoc _ _ _))⟩)) | (go_at_call 52; (with_reducible refine (neonwrightref03_bits.calls k a0 t196 _ A6.out).mono ?_); rintro e w' ⟨rfl, ⟨nd, rfl⟩⟩; (try first | exact ⟨rfl, _, World.drewN_drewN _ _ _⟩ | exact ⟨rfl, _, Eq.trans (World.drewN_drewN _ _ _) (congrArg (World.drewN _) (Nat.add_assoc _ _ _))⟩)) | (go_at_call 35; (with_reducible refine (neonwrightref03_Lit.calls k (Int.tmod a1 (ji12)) t197 _ A14.out).mono ?_); rintro e w' ⟨rfl, ⟨nd, rfl⟩⟩; (try first | exact ⟨rfl, _, World.drewN_drewN _ _ _⟩ | exact ⟨rfl, _, Eq.trans (World.drewN_drewN _ _ _) (congrArg (World.drewN _) (Nat.add_assoc _ _ _))⟩))); try go_wp2_with (first | (go_at_call 50; (with_reducible refine (neonwrightref03_Tubes.calls a0 true _ A3.out).mono ?_); rintro e w' ⟨rfl, ⟨nd, rfl⟩⟩; (try first | exact ⟨rfl, _, World.drewN_drewN _ _ _⟩ | exact ⟨rfl, _, Eq.trans (World.drewN_drewN _ _ _) (congrArg (World.drewN _) (Nat.add_assoc _ _ _))⟩)) | (go_at_call 52; (with_reducible refine (neonwrightref03_bits.calls k a0 t196 _ A6.out).mono ?_); rintro e w' ⟨rfl, ⟨nd, rfl⟩⟩; (try first | exact ⟨rfl, _, World.drewN_drewN _ _ _⟩ | exact ⟨rfl, _, Eq.trans (World.drewN_drewN _ _ _) (congrArg (World.drewN _) (Nat.add_assoc _ _ _))⟩)) | (go_at_call 35; (with_reducible refine (neonwrightref03_Lit.calls k (Int.tmod a1 (ji12)) t197 _ A14.out).mono ?_); rintro e w' ⟨rfl, ⟨nd, rfl⟩⟩; (try first | exact ⟨rfl, _, World.drewN_drewN _ _ _⟩ | exact ⟨rfl, _, Eq.trans (World.drewN_drewN _ _ _) (congrArg (World.drewN _) (Nat.add_assoc _ _ _))⟩))))
              go_ret3
              exact ⟨by first | rfl | (simp; done) | (simp only [← hji7, ← hji9, ← hji12, ← hji16] <;> (first | rfl | simp)) | (simp [*]; done), by repeat (first | exact Drawn0.refl _ | apply Drawn0.step)⟩
          · rw [if_neg c11] at H
            exact absurd H (by simp)
      · rw [if_neg c8] at H
        exact absurd H (by simp)
  · replace c4 := Bool.eq_false_iff.mpr c4
    subst c4
    have H1 : (some (0, false, 2)) = some (r1, r2, r3) := by rw [if_neg (show ¬ (false = true) by decide)] at H; exact H
    clear H
    have H := H1
    clear H1
    simp only [Option.some.injEq, Prod.mk.injEq] at H
    obtain ⟨rfl, rfl, rfl⟩ := H
    go_enter Try.func22, Try.ntmps22
    go_wp2_with (first | (go_at_call 50; (with_reducible refine (neonwrightref03_Tubes.calls a0 false _ A3.out).mono ?_); rintro e w' ⟨rfl, ⟨nd, rfl⟩⟩; (try first | exact ⟨rfl, _, World.drewN_drewN _ _ _⟩ | exact ⟨rfl, _, Eq.trans (World.drewN_drewN _ _ _) (congrArg (World.drewN _) (Nat.add_assoc _ _ _))⟩)))
    repeat (go_quiet (first | (go_at_call 50; (with_reducible refine (neonwrightref03_Tubes.calls a0 false _ A3.out).mono ?_); rintro e w' ⟨rfl, ⟨nd, rfl⟩⟩; (try first | exact ⟨rfl, _, World.drewN_drewN _ _ _⟩ | exact ⟨rfl, _, Eq.trans (World.drewN_drewN _ _ _) (congrArg (World.drewN _) (Nat.add_assoc _ _ _))⟩))); try go_wp2_with (first | (go_at_call 50; (with_reducible refine (neonwrightref03_Tubes.calls a0 false _ A3.out).mono ?_); rintro e w' ⟨rfl, ⟨nd, rfl⟩⟩; (try first | exact ⟨rfl, _, World.drewN_drewN _ _ _⟩ | exact ⟨rfl, _, Eq.trans (World.drewN_drewN _ _ _) (congrArg (World.drewN _) (Nat.add_assoc _ _ _))⟩))))
    go_ret3
    exact ⟨by first | rfl | (simp; done) | (simp [*]; done), by repeat (first | exact Drawn0.refl _ | apply Drawn0.step)⟩

end Go.Proofs.Ytgchhheajngbfaa.P

set_option linter.unusedSimpArgs false
set_option linter.unusedVariables false
namespace Go.Proofs.Ytgchhheajngbfaa.P
open Go.RowKit Go.Proofs.YtgchhheajngbfaaW.PrintWords Go.Proofs.YtgchhheajngbfaaW.PrintMore Go.Proofs.Ytgchhheajngbfaa.Kit Go.Lib

theorem popAux_zero : ∀ k, popAux k 0 = 0 := by
  intro k
  induction k with
  | zero => rfl
  | succ k ih => simp only [popAux]; simpa using ih
theorem popAux_le : ∀ f g x, x < 2 ^ f → popAux g x ≤ f := by
  intro f
  induction f with
  | zero =>
    intro g x h
    obtain rfl : x = 0 := by simpa using h
    rw [popAux_zero]
    exact Nat.le_refl _
  | succ f ih =>
    intro g x h
    cases g with
    | zero => exact Nat.zero_le _
    | succ g =>
      simp only [popAux]
      have := ih g (x / 2) (by rw [Nat.pow_succ] at h; omega)
      omega
theorem popAux_fuel : ∀ f g x, x < 2 ^ f → f ≤ g → popAux g x = popAux f x := by
  intro f
  induction f with
  | zero =>
    intro g x h _
    obtain rfl : x = 0 := by simpa using h
    rw [popAux_zero, popAux_zero]
  | succ f ih =>
    intro g x h hg
    obtain ⟨g, rfl⟩ : ∃ j, g = j + 1 := ⟨g - 1, by omega⟩
    simp only [popAux]
    rw [ih g (x / 2) (by rw [Nat.pow_succ] at h; omega) (by omega)]
theorem ones_lt {n s : Nat} (h : s < 2 ^ n) : onesCount s ≤ n := popAux_le n 64 s h

theorem shl_nat (x n : Nat) (hn : n ≤ 63) (h : x * 2 ^ n < 9223372036854775808) : shl .i64 (x : Int) (n : Int) = ((x * 2 ^ n : Nat) : Int) := by
  unfold shl
  have hb : IntKind.i64.bits = 64 := rfl
  rw [hb, Nat.min_eq_left (by omega), IntKind.wrap_i64]
  have h3 : ((x : Int) * (2 : Int) ^ ((n : Int)).toNat) = ((x * 2 ^ n : Nat) : Int) := by simp
  rw [h3]
  generalize x * 2 ^ n = p at h
  omega

theorem lit_l0 : ∀ (f x acc : Nat), x < 2 ^ f → f ≤ 62 → acc + f ≤ 64 → Ev (fun k => neonwrightref03_Lit.l0 k (x : Int) (acc : Int)) ((acc + popAux f x : Nat) : Int) := by
  intro f
  induction f with
  | zero =>
    intro x acc h _ _
    obtain rfl : x = 0 := by simpa using h
    refine Ev.step (f := fun _ => some ((acc + popAux 0 0 : Nat) : Int)) (fun k => ?_) (Ev.now _)
    simp only [neonwrightref03_Lit.l0]
    rw [if_neg (by omega)]
    simp [popAux]
  | succ f ih =>
    intro x acc h hf ha
    rcases Nat.eq_zero_or_pos x with rfl | hx
    · refine Ev.step (f := fun _ => some ((acc + popAux (f + 1) 0 : Nat) : Int)) (fun k => ?_) (Ev.now _)
      simp only [neonwrightref03_Lit.l0]
      rw [if_neg (by omega), popAux_zero]
      rfl
    · have hp := pow_le62 (n := f + 1) (by omega)
      by_cases ha64 : acc + x % 2 + f ≤ 64
      · have h1 := ih (x / 2) (acc + x % 2) (by rw [Nat.pow_succ] at h; omega) (by omega) ha64
        have e0 : acc + popAux (f + 1) x = acc + x % 2 + popAux f (x / 2) := by simp only [popAux]; omega
        rw [e0]
        refine Ev.step (f := fun k => neonwrightref03_Lit.l0 k ((x / 2 : Nat) : Int) ((acc + x % 2 : Nat) : Int)) (fun k => ?_) h1
        simp only [neonwrightref03_Lit.l0]
        have e1 : wrap64 (Int.tdiv (x : Int) 2) = ((x / 2 : Nat) : Int) := by
          have : Int.tdiv (x : Int) 2 = ((x / 2 : Nat) : Int) := tdivn x 2
          rw [this]
          exact w64n _ (by omega)
        have e2 : wrap64 ((acc : Int) + Int.tmod (x : Int) 2) = ((acc + x % 2 : Nat) : Int) := by
          have : Int.tmod (x : Int) 2 = ((x % 2 : Nat) : Int) := tmodn x 2
          rw [this, ← Int.natCast_add]
          exact w64n _ (by omega)
        rw [if_pos (by omega), e1, e2]
      · exfalso
        omega
/-- The reference's way of counting. -/
theorem lit_ev (s f : Nat) (h : s < 2 ^ f) (hf : f ≤ 62) : Ev (fun k => neonwrightref03_Lit.f k (s : Int)) (onesCount s : Int) := by
  have h1 := lit_l0 f s 0 h hf (by omega)
  rw [Nat.zero_add, ← popAux_fuel f 64 s h (by omega)] at h1
  exact h1

theorem sized_t {n : Nat} (h1 : 1 ≤ n) (h2 : n ≤ 12) : code_sized.f (n : Int) = some true := by
  unfold code_sized.f
  rw [if_pos (by omega), decide_eq_true (by omega)]
theorem sized_f {n : Int} (h : n < 1 ∨ 12 < n) : code_sized.f n = some false := by
  unfold code_sized.f
  by_cases h1 : n ≥ 1
  · rw [if_pos h1, decide_eq_false (by omega)]
  · rw [if_neg h1]
theorem tubes_t {n : Nat} (h1 : 1 ≤ n) (h2 : n ≤ 12) : neonwrightref03_Tubes.f (n : Int) = some true := by
  unfold neonwrightref03_Tubes.f
  rw [if_pos (by omega), decide_eq_true (by omega)]
theorem tubes_f {n : Int} (h : n < 1 ∨ 12 < n) : neonwrightref03_Tubes.f n = some false := by
  unfold neonwrightref03_Tubes.f
  by_cases h1 : n ≥ 1
  · rw [if_pos h1, decide_eq_false (by omega)]
  · rw [if_neg h1]
theorem sign_t {n s : Nat} (h2 : n ≤ 12) (h : s < 2 ^ n) : code_sign.f (n : Int) (s : Int) = some true := by
  unfold code_sign.f
  rw [if_pos (by omega), if_pos (by omega), shl1n (by omega), decide_eq_true (by omega)]
theorem sign_f {n : Nat} {s : Int} (h2 : n ≤ 12) (h : s < 0 ∨ ((2 ^ n : Nat) : Int) ≤ s) : code_sign.f (n : Int) s = some false := by
  unfold code_sign.f
  by_cases h1 : s ≥ 0
  · rw [if_pos h1, if_pos (by omega), shl1n (by omega), decide_eq_false (by omega)]
  · rw [if_neg h1]
def wordN (n s : Nat) : Nat := s + (n - onesCount s) * 2 ^ n
theorem wordN_lt {n s : Nat} (h2 : n ≤ 12) (h : s < 2 ^ n) : wordN n s < 2 ^ 20 ∧ (n - onesCount s) * 2 ^ n ≤ 12 * 4096 ∧ 2 ^ n ≤ 4096 := by
  have hp : 2 ^ n ≤ 2 ^ 12 := Nat.pow_le_pow_right (by decide) h2
  have hp' : 2 ^ n ≤ 4096 := hp
  have := Nat.mul_le_mul (show n - onesCount s ≤ 12 from by omega) hp'
  unfold wordN
  omega
theorem word_t {n s : Nat} (h2 : n ≤ 12) (h : s < 2 ^ n) : code_word.f (n : Int) (s : Int) = some (wordN n s : Int) := by
  obtain ⟨l1, l2, l3⟩ := wordN_lt h2 h
  have l1' : wordN n s < 1048576 := l1
  have ho := ones_lt h
  unfold code_word.f bits_OnesCount.f
  have e0 : IntKind.u64.wrap (s : Int) = (s : Int) := u64w (by omega)
  have e1 : wrap64 ((n : Int) - (onesCount s : Int)) = ((n - onesCount s : Nat) : Int) := by rw [w64 (by omega) (by omega)]; omega
  rw [e0, if_pos (by omega), Int.toNat_natCast]
  simp only [Option.bind_some]
  rw [if_pos (by omega), e1, shl_nat _ _ (by omega) (by omega), or64 _ _ (by omega) (by omega)]
  congr 2
  unfold wordN
  rw [Nat.or_comm, Nat.mul_comm, ← Nat.two_pow_add_eq_or_of_lt h]
  omega
theorem berger_t {n s : Nat} (h1 : 1 ≤ n) (h2 : n ≤ 12) (h : s < 2 ^ n) : code_Berger.f (n : Int) (s : Int) = some ((wordN n s : Int), 0) := by
  unfold code_Berger.f
  rw [sized_t h1 h2]
  simp only [Option.bind_some, if_true]
  rw [sign_t h2 h]
  simp only [Option.bind_some, if_true]
  rw [word_t h2 h]
  rfl
theorem berger_f {n s : Int} (h : n < 1 ∨ 12 < n ∨ s < 0 ∨ ((2 ^ n.toNat : Nat) : Int) ≤ s) : code_Berger.f n s = some (0, 2) := by
  unfold code_Berger.f
  by_cases h1 : n < 1 ∨ 12 < n
  · rw [sized_f h1]
    rfl
  · obtain ⟨m, rfl⟩ : ∃ m : Nat, n = m := ⟨n.toNat, by omega⟩
    rw [sized_t (by omega) (by omega)]
    simp only [Option.bind_some, if_true]
    rw [Int.toNat_natCast] at h
    rw [sign_f (by omega) (by omega)]
    rfl
theorem rword {n s : Nat} (h2 : n ≤ 12) (h : s < 2 ^ n) : wrap64 ((s : Int) + (shl .i64 (wrap64 ((n : Int) - (onesCount s : Int))) (n : Int))) = (wordN n s : Int) := by
  obtain ⟨l1, l2, l3⟩ := wordN_lt h2 h
  have l1' : wordN n s < 1048576 := l1
  have ho := ones_lt h
  have e1 : wrap64 ((n : Int) - (onesCount s : Int)) = ((n - onesCount s : Nat) : Int) := by rw [w64 (by omega) (by omega)]; omega
  rw [e1, shl_nat _ _ (by omega) (by omega), ← Int.natCast_add]
  exact w64n _ (by unfold wordN at l1'; omega)
theorem rberger_t {n s : Nat} (h1 : 1 ≤ n) (h2 : n ≤ 12) (h : s < 2 ^ n) : Ev (fun k => neonwrightref03_Berger.f k (n : Int) (s : Int)) ((wordN n s : Int), 0) := by
  refine Ev.congr (f := fun k => (neonwrightref03_Lit.f k (s : Int)).bind fun t192 => (some (wrap64 ((s : Int) + (shl .i64 (wrap64 ((n : Int) - t192)) (n : Int))), 0))) (fun k => ?_) ?_
  · simp only [neonwrightref03_Berger.f]
    rw [tubes_t h1 h2]
    simp only [Option.bind_some, if_true]
    rw [if_neg (by omega), if_pos (by omega), shl1n (by omega), if_neg (by omega)]
  · refine Ev.bnd (lit_ev s n h (by omega)) (Ev.ret ?_)
    rw [rword h2 h]
theorem rberger_f {n s : Int} (h : n < 1 ∨ 12 < n ∨ s < 0 ∨ ((2 ^ n.toNat : Nat) : Int) ≤ s) : Ev (fun k => neonwrightref03_Berger.f k n s) ((0 : Int), (2 : Int)) := by
  refine Ev.at 0 (fun k _ => ?_)
  unfold neonwrightref03_Berger.f
  by_cases h1 : n < 1 ∨ 12 < n
  · rw [tubes_f h1]
    rfl
  · obtain ⟨m, rfl⟩ : ∃ m : Nat, n = m := ⟨n.toNat, by omega⟩
    rw [tubes_t (by omega) (by omega)]
    simp only [Option.bind_some, if_true]
    rw [Int.toNat_natCast] at h
    by_cases h2 : s < 0
    · rw [if_pos h2]
    · rw [if_neg h2, if_pos (by omega), shl1n (by omega), if_pos (by omega)]

/-! Decode. -/
theorem bitLen12 : ∀ n : Fin 13, Lib.bitLen n.val ≤ 4 := by decide +kernel
theorem rbits_l0 : ∀ (f x acc : Nat), x < 2 ^ f → f ≤ 62 → acc + f ≤ 64 → Ev (fun k => neonwrightref03_bits.l0 k (x : Int) (acc : Int)) ((acc + bitLenAux f x : Nat) : Int) := by
  intro f
  induction f with
  | zero =>
    intro x acc h _ _
    obtain rfl : x = 0 := by simpa using h
    refine Ev.step (f := fun _ => some ((acc + bitLenAux 0 0 : Nat) : Int)) (fun k => ?_) (Ev.now _)
    simp only [neonwrightref03_bits.l0]
    rw [if_neg (by omega)]
    simp [bitLenAux]
  | succ f ih =>
    intro x acc h hf ha
    have hp := pow_le62 (n := f + 1) (by omega)
    rcases Nat.eq_zero_or_pos x with rfl | hx
    · refine Ev.step (f := fun _ => some ((acc + bitLenAux (f + 1) 0 : Nat) : Int)) (fun k => ?_) (Ev.now _)
      simp only [neonwrightref03_bits.l0]
      rw [if_neg (by omega)]
      simp [bitLenAux]
    · have h1 := ih (x / 2) (acc + 1) (by rw [Nat.pow_succ] at h; omega) (by omega) (by omega)
      have e0 : acc + bitLenAux (f + 1) x = acc + 1 + bitLenAux f (x / 2) := by simp only [bitLenAux]; rw [if_neg (by omega)]; omega
      rw [e0]
      refine Ev.step (f := fun k => neonwrightref03_bits.l0 k ((x / 2 : Nat) : Int) ((acc + 1 : Nat) : Int)) (fun k => ?_) h1
      simp only [neonwrightref03_bits.l0]
      have e1 : wrap64 (Int.tdiv (x : Int) 2) = ((x / 2 : Nat) : Int) := by
        have : Int.tdiv (x : Int) 2 = ((x / 2 : Nat) : Int) := tdivn x 2
        rw [this]
        exact w64n _ (by omega)
      have e2 : wrap64 ((acc : Int) + 1) = ((acc + 1 : Nat) : Int) := by
        rw [w64 (by omega) (by omega)]; omega
      rw [if_pos (by omega), e1, e2]
theorem rbits_ev (x f : Nat) (h : x < 2 ^ f) (hf : f ≤ 62) : Ev (fun k => neonwrightref03_bits.f k (x : Int)) (Lib.bitLen x : Int) := by
  have h1 := rbits_l0 f x 0 h hf (by omega)
  rw [Nat.zero_add, ← bitLenAux_fuel f x h 64 (by omega)] at h1
  exact h1
theorem pow16 {n m : Nat} (h : n ≤ 12) (hm : m ≤ 4) : 2 ^ (n + m) ≤ 65536 := by
  have : 2 ^ (n + m) ≤ 2 ^ 16 := Nat.pow_le_pow_right (by decide) (by omega)
  simpa using this
theorem wdec (p : Nat) (h0 : 0 < p) (hp : p ≤ 4096) : wrap64 ((p : Int) - 1) = ((p - 1 : Nat) : Int) := by
  rw [w64 (by omega) (by omega)]
  omega
theorem lt_big {p : Nat} (hp : p ≤ 65536) : p < 9223372036854775808 := by omega
theorem mask {n r : Nat} (hn : n ≤ 12) (hr : r < 65536) : Go.bits .and .i64 (r : Int) (wrap64 ((shl .i64 1 (n : Int)) - 1)) = ((r % 2 ^ n : Nat) : Int) := by
  have hp : 2 ^ n ≤ 2 ^ 12 := Nat.pow_le_pow_right (by decide) hn
  have h0 : 0 < 2 ^ n := Nat.two_pow_pos n
  have h62 : n ≤ 62 := by omega
  rw [shl1n h62, wdec (2 ^ n) h0 hp, and64 r (2 ^ n - 1) (lt_big (Nat.le_of_lt hr)) (lt_big (Nat.le_trans (Nat.sub_le _ _) (Nat.le_trans hp (by decide)))), Nat.and_two_pow_sub_one_eq_mod]
theorem int_beq (a b : Nat) : ((a : Int) == (b : Int)) = decide (a = b) := by
  rw [Bool.eq_iff_iff]
  simp
  omega
theorem decode_t {n r : Nat} (h1 : 1 ≤ n) (h2 : n ≤ 12) (h : r < 2 ^ (n + Lib.bitLen n)) : code_Decode.f (n : Int) (r : Int) = some (((r % 2 ^ n : Nat) : Int), decide (wordN n (r % 2 ^ n) = r), 0) := by
  have hb := bitLen12 ⟨n, by omega⟩
  simp only at hb
  have hp := pow16 h2 hb
  have hw : IntKind.u64.wrap (n : Int) = (n : Int) := u64w (by omega)
  have e1 : wrap64 ((n : Int) + (Lib.bitLen n : Int)) = ((n + Lib.bitLen n : Nat) : Int) := by rw [w64 (by omega) (by omega)]; omega
  have hm : r % 2 ^ n < 2 ^ n := Nat.mod_lt _ (Nat.two_pow_pos n)
  unfold code_Decode.f bits_Len.f
  rw [sized_t h1 h2]
  rw [Option.bind_some, if_pos rfl]
  rw [if_neg (by omega), hw, if_pos (by omega), Int.toNat_natCast]
  rw [Option.bind_some]
  have hd := int_beq (wordN n (r % 2 ^ n)) r
  have g1 : (0 : Int) ≤ ((n + Lib.bitLen n : Nat) : Int) := Int.natCast_nonneg _
  have g2 : n + Lib.bitLen n ≤ 62 := by omega
  have g3 : ¬ ((r : Int) ≥ ((2 ^ (n + Lib.bitLen n) : Nat) : Int)) := Int.not_le.2 (Int.ofNat_lt.2 h)
  have g4 : (0 : Int) ≤ (n : Int) := Int.natCast_nonneg _
  rw [e1, if_pos g1, shl1n g2, if_neg g3, if_pos g4, mask h2 (Nat.lt_of_lt_of_le h hp), word_t h2 hm]
  rw [Option.bind_some]
  rw [hd]
theorem decode_f {n r : Int} (h : n < 1 ∨ 12 < n ∨ r < 0 ∨ ((2 ^ (n.toNat + Lib.bitLen n.toNat) : Nat) : Int) ≤ r) : code_Decode.f n r = some (0, false, 2) := by
  unfold code_Decode.f bits_Len.f
  by_cases h1 : n < 1 ∨ 12 < n
  · rw [sized_f h1]
    rfl
  · obtain ⟨m, rfl⟩ : ∃ m : Nat, n = m := ⟨n.toNat, by omega⟩
    rw [sized_t (by omega) (by omega)]
    rw [Option.bind_some, if_pos rfl]
    rw [Int.toNat_natCast] at h
    by_cases h2 : r < 0
    · rw [if_pos h2]
    · have hb := bitLen12 ⟨m, by omega⟩
      simp only at hb
      have hw : IntKind.u64.wrap (m : Int) = (m : Int) := u64w (by omega)
      have e1 : wrap64 ((m : Int) + (Lib.bitLen m : Int)) = ((m + Lib.bitLen m : Nat) : Int) := by rw [w64 (by omega) (by omega)]; omega
      rw [if_neg h2, hw, if_pos (by omega), Int.toNat_natCast]
      rw [Option.bind_some]
      rw [e1, if_pos (by omega), shl1n (by omega), if_pos (by omega)]
theorem rdecode_t {n r : Nat} (h1 : 1 ≤ n) (h2 : n ≤ 12) (h : r < 2 ^ (n + Lib.bitLen n)) : Ev (fun k => neonwrightref03_Decode.f k (n : Int) (r : Int)) (((r % 2 ^ n : Nat) : Int), decide (wordN n (r % 2 ^ n) = r), 0) := by
  have hb := bitLen12 ⟨n, by omega⟩
  simp only at hb
  have hp := pow16 h2 hb
  have e1 : wrap64 ((n : Int) + (Lib.bitLen n : Int)) = ((n + Lib.bitLen n : Nat) : Int) := by rw [w64 (by omega) (by omega)]; omega
  have hm : r % 2 ^ n < 2 ^ n := Nat.mod_lt _ (Nat.two_pow_pos n)
  have h0 : 0 < 2 ^ n := Nat.two_pow_pos n
  have h13 : n < 2 ^ 4 := by simp only [Nat.reducePow]; omega
  refine Ev.congr (f := fun k => (neonwrightref03_bits.f k (n : Int)).bind fun t196 => (if 0 ≤ (wrap64 ((n : Int) + t196)) then (if (r : Int) ≥ (shl .i64 1 (wrap64 ((n : Int) + t196))) then (some (0, false, 2)) else (if 0 ≤ (n : Int) then (if ((2 ^ n : Nat) : Int) = 0 then (none) else ((neonwrightref03_Lit.f k (((r % 2 ^ n : Nat) : Int))).bind fun t197 => (some ((((r % 2 ^ n : Nat) : Int)), ((r : Int) == (wrap64 ((((r % 2 ^ n : Nat) : Int)) + (shl .i64 (wrap64 ((n : Int) - t197)) (n : Int))))), 0)))) else (none))) else (none))) (fun k => ?_) ?_
  · unfold neonwrightref03_Decode.f
    rw [tubes_t h1 h2]
    rw [Option.bind_some, if_pos rfl]
    rw [if_neg (by omega), shl1n (by omega), tmodn]
  · refine Ev.bnd (rbits_ev n 4 h13 (by omega)) (Ev.pos (by rw [e1]; omega) (Ev.neg (by rw [e1, shl1n (by omega)]; omega) (Ev.pos (by omega) (Ev.neg (by omega) (Ev.bnd (lit_ev _ n hm (by omega)) (Ev.ret ?_))))))
    rw [rword h2 hm, int_beq]
    rw [show decide (r = wordN n (r % 2 ^ n)) = decide (wordN n (r % 2 ^ n) = r) from decide_eq_decide.2 eq_comm]
theorem rdecode_f {n r : Int} (h : n < 1 ∨ 12 < n ∨ r < 0 ∨ ((2 ^ (n.toNat + Lib.bitLen n.toNat) : Nat) : Int) ≤ r) : Ev (fun k => neonwrightref03_Decode.f k n r) ((0 : Int), false, (2 : Int)) := by
  by_cases h1 : n < 1 ∨ 12 < n
  · refine Ev.at 0 (fun k _ => ?_)
    unfold neonwrightref03_Decode.f
    rw [tubes_f h1]
    rfl
  · obtain ⟨m, rfl⟩ : ∃ m : Nat, n = m := ⟨n.toNat, by omega⟩
    rw [Int.toNat_natCast] at h
    by_cases h2 : r < 0
    · refine Ev.at 0 (fun k _ => ?_)
      unfold neonwrightref03_Decode.f
      rw [tubes_t (by omega) (by omega)]
      rw [Option.bind_some, if_pos rfl]
      rw [if_pos h2]
    · have hb := bitLen12 ⟨m, by omega⟩
      simp only at hb
      have e1 : wrap64 ((m : Int) + (Lib.bitLen m : Int)) = ((m + Lib.bitLen m : Nat) : Int) := by rw [w64 (by omega) (by omega)]; omega
      have h13 : m < 2 ^ 4 := by simp only [Nat.reducePow]; omega
      obtain ⟨k0, hk0⟩ := rbits_ev m 4 h13 (by omega)
      refine Ev.at k0 (fun k hk => ?_)
      unfold neonwrightref03_Decode.f
      rw [tubes_t (by omega) (by omega)]
      rw [Option.bind_some, if_pos rfl]
      have hk1 : neonwrightref03_bits.f k (m : Int) = some (Lib.bitLen m : Int) := hk0 k hk
      rw [if_neg h2, hk1]
      rw [Option.bind_some]
      rw [e1, if_pos (by omega), shl1n (by omega), if_pos (by omega)]

end Go.Proofs.Ytgchhheajngbfaa.P

set_option linter.unusedSimpArgs false
set_option linter.unusedVariables false
namespace Go.Proofs.Ytgchhheajngbfaa.P
open Go.RowKit Go.Proofs.YtgchhheajngbfaaW.PrintWords Go.Proofs.YtgchhheajngbfaaW.PrintMore Go.Proofs.Ytgchhheajngbfaa.Kit

def signsN (n : Int) (l : List Int) : Int := if 1 ≤ n ∧ n ≤ 12 then (if (l.length : Int) > 200 then 3 else if sgOk n [] l = true then 0 else 2) else 2
theorem signs_f (n : Int) (l : List Int) : code_signs.f n l = some (signsN n l) := by
  unfold code_signs.f signsN
  split
  · split
    · rfl
    · split <;> rfl
  · rfl
theorem take_has' (l : List Int) (k : Nat) (hk : k < l.length) (x : Int) : (l.take (k + 1)).contains x = ((l.take k).contains x || l[k] == x) := by
  rw [List.take_succ_eq_append_getElem hk, Bool.eq_iff_iff, List.contains_iff_mem, List.mem_append, List.mem_singleton, Bool.or_eq_true, beq_iff_eq, List.contains_iff_mem]
  constructor
  · rintro (h | h)
    · exact .inl h
    · exact .inr h.symm
  · rintro (h | h)
    · exact .inl h
    · exact .inr h.symm
theorem rsigns_l1 (n : Int) (l : List Int) (hl : l.length ≤ 300) (i : Nat) (hi : i < l.length) (R : Int) (hR : Ev (fun k => neonwrightref03_Signs.l0 k n l ((i + 1 : Nat) : Int)) R) :
    ∀ d j, j + d = i → (l.take j).contains l[i] = false → Ev (fun k => neonwrightref03_Signs.l1 k n l (i : Int) (j : Int)) (if (l.take i).contains l[i] = true then 2 else R) := by
  intro d
  induction d with
  | zero =>
    intro j h hc
    obtain rfl : j = i := by omega
    rw [hc]
    refine Ev.step (f := fun k => neonwrightref03_Signs.l0 k n l ((j + 1 : Nat) : Int)) (fun k => ?_) hR
    simp only [neonwrightref03_Signs.l1]
    rw [if_neg (by omega), w64 (x := (j : Int) + 1) (by omega) (by omega)]
    rfl
  | succ d ih =>
    intro j h hc
    have hj : j < l.length := by omega
    have hnx := take_has' l j hj l[i]
    rw [hc, Bool.false_or] at hnx
    refine Ev.step (f := fun k => if l[j] = l[i] then some 2 else neonwrightref03_Signs.l1 k n l (i : Int) ((j + 1 : Nat) : Int)) (fun k => ?_) ?_
    · simp only [neonwrightref03_Signs.l1]
      rw [if_pos (by omega), if_pos (by omega), if_pos (by omega), if_pos (by omega), if_pos (by omega), rd_get l j hj, rd_get l i hi, w64 (x := (j : Int) + 1) (by omega) (by omega)]
      rfl
    · by_cases e : l[j] = l[i]
      · refine Ev.pos e ?_
        have : (l.take i).contains l[i] = true := by
          rw [List.contains_iff_mem, List.mem_take_iff_getElem]
          exact ⟨j, by omega, e⟩
        rw [if_pos this]
        exact Ev.now _
      · refine Ev.neg e (ih (j + 1) (by omega) ?_)
        rw [hnx]
        simpa using e
theorem rsigns_l0 (n : Nat) (h2 : n ≤ 12) (l : List Int) (hl : l.length ≤ 300) : ∀ d i, i + d = l.length → Ev (fun k => neonwrightref03_Signs.l0 k (n : Int) l (i : Int)) (if sgOk n (l.take i) (l.drop i) = true then 0 else 2) := by
  intro d
  induction d with
  | zero =>
    intro i h
    rw [List.drop_of_length_le (by omega)]
    refine Ev.step (f := fun _ => some 0) (fun k => ?_) (Ev.now _)
    simp only [neonwrightref03_Signs.l0]
    rw [if_neg (by omega)]
  | succ d ih =>
    intro i h
    have hi : i < l.length := by omega
    have hin : sgIn (n : Int) l[i] = true ↔ (0 ≤ l[i] ∧ l[i] < ((2 ^ n : Nat) : Int)) := by
      unfold sgIn
      rw [Int.toNat_natCast, decide_eq_true_eq]
    rw [sgOk_at (n : Int) l i hi]
    by_cases c : sgIn (n : Int) l[i] = true
    · rw [if_pos c]
      have c' := hin.1 c
      have h1 := rsigns_l1 (n : Int) l hl i hi _ (ih (i + 1) (by omega)) i 0 (by omega) (by simp)
      have e : (if (if (l.take i).contains l[i] = true then false else sgOk (n : Int) (l.take (i + 1)) (l.drop (i + 1))) = true then (0 : Int) else 2) = (if (l.take i).contains l[i] = true then 2 else (if sgOk (n : Int) (l.take (i + 1)) (l.drop (i + 1)) = true then 0 else 2)) := by
        by_cases h3 : (l.take i).contains l[i] = true
        · rw [if_pos h3, if_pos h3]; rfl
        · rw [if_neg h3, if_neg h3]
      rw [e]
      refine Ev.step (f := fun k => neonwrightref03_Signs.j1 k (n : Int) l (i : Int) false) (fun k => ?_) (Ev.step (f := fun k => neonwrightref03_Signs.l1 k (n : Int) l (i : Int) 0) (fun k => ?_) h1)
      · simp only [neonwrightref03_Signs.l0]
        rw [if_pos (by omega), if_pos (by omega), rd_get l i hi, if_neg (by omega), if_pos (by omega), shl1n (by omega), decide_eq_false (by omega)]
      · simp only [neonwrightref03_Signs.j1]
        rfl
    · rw [if_neg c]
      have c' : ¬ (0 ≤ l[i] ∧ l[i] < ((2 ^ n : Nat) : Int)) := fun h => c (hin.2 h)
      refine Ev.step (f := fun k => neonwrightref03_Signs.j1 k (n : Int) l (i : Int) true) (fun k => ?_) (Ev.step (f := fun k => some 2) (fun k => ?_) (Ev.now _))
      · simp only [neonwrightref03_Signs.l0]
        rw [if_pos (by omega), if_pos (by omega), rd_get l i hi]
        by_cases h3 : l[i] < 0
        · rw [if_pos h3]
        · rw [if_neg h3, if_pos (by omega), shl1n (by omega), decide_eq_true (by omega)]
      · simp only [neonwrightref03_Signs.j1]
        rfl
theorem rsigns_ev (n : Int) (l : List Int) : Ev (fun k => neonwrightref03_Signs.f k n l) (signsN n l) := by
  unfold signsN
  by_cases h : 1 ≤ n ∧ n ≤ 12
  · rw [if_pos h]
    obtain ⟨m, rfl⟩ : ∃ m : Nat, n = m := ⟨n.toNat, by omega⟩
    by_cases hl : (l.length : Int) > 200
    · rw [if_pos hl]
      refine Ev.at 0 (fun k _ => ?_)
      unfold neonwrightref03_Signs.f
      rw [tubes_t (by omega) (by omega), Option.bind_some, if_pos rfl, if_pos hl]
    · rw [if_neg hl]
      have h1 := rsigns_l0 m (by omega) l (by omega) l.length 0 (by omega)
      refine Ev.congr (f := fun k => neonwrightref03_Signs.l0 k (m : Int) l 0) (fun k => ?_) (by simpa using h1)
      show neonwrightref03_Signs.f k (m : Int) l = _
      unfold neonwrightref03_Signs.f
      rw [tubes_t (by omega) (by omega), Option.bind_some, if_pos rfl, if_neg hl]
  · rw [if_neg h]
    refine Ev.at 0 (fun k _ => ?_)
    unfold neonwrightref03_Signs.f
    rw [tubes_f (by omega), Option.bind_some, if_neg (by simp)]
theorem signsN_len {n : Int} {l : List Int} (h : signsN n l = 0) : l.length ≤ 200 ∧ 1 ≤ n ∧ n ≤ 12 ∧ sgOk n [] l = true := by
  unfold signsN at h
  split at h
  · split at h
    · cases h
    · split at h
      · rename_i h1 h2 h3
        exact ⟨by omega, h1.1, h1.2, h3⟩
      · cases h
  · cases h

/-! Unordered. -/
def cov (a b : Int) : Bool := Go.bits .and .i64 a b == b
def scan2 (a i : Int) : Int → List Int → Option (List Int)
  | _, [] => none
  | j, x :: xs => if (cov a x || cov x a) = true then some [i, j] else scan2 a i (j + 1) xs
def scan1 : Int → List Int → List Int
  | _, [] => []
  | i, a :: xs => match scan2 a i (i + 1) xs with
    | some r => r
    | none => scan1 (i + 1) xs
theorem unord_l1 (l : List Int) (hl : l.length ≤ 300) (i : Nat) (hi : i < l.length) (R : List Int × Int) (hR : Ev (fun k => code_Unordered.l0 k l l (l.length : Int) ((i + 1 : Nat) : Int)) R) :
    ∀ d j, j + d = l.length → Ev (fun k => code_Unordered.l1 k l (i : Int) l[i] (j : Int) l (l.length : Int) (i : Int)) (match scan2 l[i] i j (l.drop j) with | some r => (r, 0) | none => R) := by
  intro d
  induction d with
  | zero =>
    intro j h
    rw [List.drop_of_length_le (by omega)]
    refine Ev.step (f := fun k => code_Unordered.l0 k l l (l.length : Int) ((i + 1 : Nat) : Int)) (fun k => ?_) hR
    simp only [code_Unordered.l1]
    rw [if_neg (by omega), w64 (x := (i : Int) + 1) (by omega) (by omega)]
    rfl
  | succ d ih =>
    intro j h
    have hj : j < l.length := by omega
    have h1 := ih (j + 1) (by omega)
    rw [List.drop_eq_getElem_cons hj]
    refine Ev.step (f := fun k => if cov l[i] l[j] = true then some ([(i : Int), (j : Int)], 0) else (if cov l[j] l[i] = true then some ([(i : Int), (j : Int)], 0) else code_Unordered.l1 k l (i : Int) l[i] ((j + 1 : Nat) : Int) l (l.length : Int) (i : Int))) (fun k => ?_) ?_
    · simp only [code_Unordered.l1]
      rw [if_pos (by omega), if_pos (by omega), rd_get l j hj, w64 (x := (j : Int) + 1) (by omega) (by omega)]
      rfl
    · unfold scan2
      by_cases c1 : cov l[i] l[j] = true
      · rw [if_pos (by rw [c1]; rfl)]
        exact Ev.pos c1 (Ev.now _)
      · by_cases c2 : cov l[j] l[i] = true
        · rw [if_pos (by rw [c2]; simp)]
          exact Ev.neg c1 (Ev.pos c2 (Ev.now _))
        · rw [if_neg (by simp [c1, c2])]
          exact Ev.neg c1 (Ev.neg c2 h1)
theorem unord_l0 (l : List Int) (hl : l.length ≤ 300) : ∀ d i, i + d = l.length → Ev (fun k => code_Unordered.l0 k l l (l.length : Int) (i : Int)) (scan1 i (l.drop i), 0) := by
  intro d
  induction d with
  | zero =>
    intro i h
    rw [List.drop_of_length_le (by omega)]
    refine Ev.step (f := fun _ => some ([], 0)) (fun k => ?_) (Ev.now _)
    simp only [code_Unordered.l0]
    rw [if_neg (by omega)]
  | succ d ih =>
    intro i h
    have hi : i < l.length := by omega
    have h1 := unord_l1 l hl i hi _ (ih (i + 1) (by omega)) (l.length - (i + 1)) (i + 1) (by omega)
    rw [List.drop_eq_getElem_cons hi]
    have e : scan1 (i : Int) (l[i] :: l.drop (i + 1)) = (match scan2 l[i] i (i + 1) (l.drop (i + 1)) with | some r => r | none => scan1 ((i : Int) + 1) (l.drop (i + 1))) := rfl
    refine Ev.step (f := fun k => code_Unordered.l1 k l (i : Int) l[i] ((i + 1 : Nat) : Int) l (l.length : Int) (i : Int)) (fun k => ?_) ?_
    · simp only [code_Unordered.l0]
      rw [if_pos (by omega), if_pos (by omega), if_pos (by omega), rd_get l i hi, w64 (x := (i : Int) + 1) (by omega) (by omega)]
      rfl
    · rw [e]
      have e2 : (((i + 1 : Nat)) : Int) = (i : Int) + 1 := by omega
      rw [e2] at h1
      cases hs : scan2 l[i] i ((i : Int) + 1) (l.drop (i + 1)) with
      | none => rw [hs] at h1; rw [e2]; exact h1
      | some r => rw [hs] at h1; rw [e2]; exact h1
theorem runord_l1 (l : List Int) (hl : l.length ≤ 300) (i : Nat) (hi : i < l.length) (R : List Int × Int) (hR : Ev (fun k => neonwrightref03_Unordered.l0 k l ((i + 1 : Nat) : Int)) R) :
    ∀ d j, j + d = l.length → Ev (fun k => neonwrightref03_Unordered.l1 k l (i : Int) (j : Int)) (match scan2 l[i] i j (l.drop j) with | some r => (r, 0) | none => R) := by
  intro d
  induction d with
  | zero =>
    intro j h
    rw [List.drop_of_length_le (by omega)]
    refine Ev.step (f := fun k => neonwrightref03_Unordered.l0 k l ((i + 1 : Nat) : Int)) (fun k => ?_) hR
    simp only [neonwrightref03_Unordered.l1]
    rw [if_neg (by omega), w64 (x := (i : Int) + 1) (by omega) (by omega)]
    rfl
  | succ d ih =>
    intro j h
    have hj : j < l.length := by omega
    have h1 := ih (j + 1) (by omega)
    rw [List.drop_eq_getElem_cons hj]
    refine Ev.step (f := fun k => if cov l[i] l[j] = true then some ([(i : Int), (j : Int)], 0) else (if cov l[j] l[i] = true then some ([(i : Int), (j : Int)], 0) else neonwrightref03_Unordered.l1 k l (i : Int) ((j + 1 : Nat) : Int))) (fun k => ?_) ?_
    · simp only [neonwrightref03_Unordered.l1]
      rw [if_pos (by omega), if_pos (by omega), if_pos (by omega), if_pos (by omega), rd_get l j hj, rd_get l i hi, w64 (x := (j : Int) + 1) (by omega) (by omega)]
      rfl
    · unfold scan2
      by_cases c1 : cov l[i] l[j] = true
      · rw [if_pos (by rw [c1]; rfl)]
        exact Ev.pos c1 (Ev.now _)
      · by_cases c2 : cov l[j] l[i] = true
        · rw [if_pos (by rw [c2]; simp)]
          exact Ev.neg c1 (Ev.pos c2 (Ev.now _))
        · rw [if_neg (by simp [c1, c2])]
          exact Ev.neg c1 (Ev.neg c2 h1)
theorem runord_l0 (l : List Int) (hl : l.length ≤ 300) : ∀ d i, i + d = l.length → Ev (fun k => neonwrightref03_Unordered.l0 k l (i : Int)) (scan1 i (l.drop i), 0) := by
  intro d
  induction d with
  | zero =>
    intro i h
    rw [List.drop_of_length_le (by omega)]
    refine Ev.step (f := fun _ => some ([], 0)) (fun k => ?_) (Ev.now _)
    simp only [neonwrightref03_Unordered.l0]
    rw [if_neg (by omega)]
  | succ d ih =>
    intro i h
    have hi : i < l.length := by omega
    have h1 := runord_l1 l hl i hi _ (ih (i + 1) (by omega)) (l.length - (i + 1)) (i + 1) (by omega)
    rw [List.drop_eq_getElem_cons hi]
    have e : scan1 (i : Int) (l[i] :: l.drop (i + 1)) = (match scan2 l[i] i (i + 1) (l.drop (i + 1)) with | some r => r | none => scan1 ((i : Int) + 1) (l.drop (i + 1))) := rfl
    refine Ev.step (f := fun k => neonwrightref03_Unordered.l1 k l (i : Int) ((i + 1 : Nat) : Int)) (fun k => ?_) ?_
    · simp only [neonwrightref03_Unordered.l0]
      rw [if_pos (by omega), w64 (x := (i : Int) + 1) (by omega) (by omega)]
      rfl
    · rw [e]
      have e2 : (((i + 1 : Nat)) : Int) = (i : Int) + 1 := by omega
      rw [e2] at h1
      cases hs : scan2 l[i] i ((i : Int) + 1) (l.drop (i + 1)) with
      | none => rw [hs] at h1; rw [e2]; exact h1
      | some r => rw [hs] at h1; rw [e2]; exact h1
/-- What both say. -/
def unordN (n : Int) (l : List Int) : List Int × Int := if signsN n l = 0 then (scan1 0 l, 0) else ([], signsN n l)
theorem unord_ev (n : Int) (l : List Int) : Ev (fun k => code_Unordered.f k n l) (unordN n l) := by
  unfold unordN
  refine Ev.congr (f := fun k => if signsN n l = 0 then code_Unordered.l0 k l l (l.length : Int) 0 else some ([], signsN n l)) (fun k => ?_) ?_
  · show code_Unordered.f k n l = _
    unfold code_Unordered.f
    rw [signs_f, Option.bind_some]
  · by_cases h : signsN n l = 0
    · rw [if_pos h]
      have := (signsN_len h).1
      refine Ev.pos h (by simpa using unord_l0 l (by omega) l.length 0 (by omega))
    · rw [if_neg h]
      exact Ev.neg h (Ev.now _)
theorem runord_ev (n : Int) (l : List Int) : Ev (fun k => neonwrightref03_Unordered.f k n l) (unordN n l) := by
  unfold unordN
  refine Ev.congr (f := fun k => (neonwrightref03_Signs.f k n l).bind fun t239 => (if t239 = 0 then (neonwrightref03_Unordered.l0 k l 0) else (some (([] : List Int), t239)))) (fun k => rfl) (Ev.bnd (rsigns_ev n l) ?_)
  by_cases h : signsN n l = 0
  · rw [if_pos h]
    have := (signsN_len h).1
    refine Ev.pos h (by simpa using runord_l0 l (by omega) l.length 0 (by omega))
  · rw [if_neg h]
    exact Ev.neg h (Ev.now _)
theorem scan2_short (a i : Int) : ∀ (xs : List Int) (j : Int) (r : List Int), scan2 a i j xs = some r → r.length = 2 := by
  intro xs
  induction xs with
  | nil => intro j r h; cases h
  | cons x xs ih =>
    intro j r h
    unfold scan2 at h
    split at h
    · injection h with h; rw [← h]; rfl
    · exact ih _ _ h
theorem scan1_short : ∀ (xs : List Int) (i : Int), (scan1 i xs).length ≤ 2 := by
  intro xs
  induction xs with
  | nil => intro i; exact Nat.zero_le _
  | cons x xs ih =>
    intro i
    unfold scan1
    cases h : scan2 x i (i + 1) xs with
    | none => exact ih _
    | some r => simp only; rw [scan2_short _ _ _ _ _ h]; exact Nat.le_refl _
theorem unordN_short (n : Int) (l : List Int) : (unordN n l).1.length ≤ 2 := by
  unfold unordN
  split
  · exact scan1_short _ _
  · exact Nat.zero_le _

end Go.Proofs.Ytgchhheajngbfaa.P

set_option linter.unusedSimpArgs false
set_option linter.unusedVariables false
namespace Go.Proofs.Ytgchhheajngbfaa.Kit
open Go.Lib

theorem and_half (s t : Nat) : (s &&& t) / 2 = (s / 2 &&& t / 2) := by
  have := @Nat.and_div_two_pow s t 1
  simpa using this
theorem and_low (s t : Nat) : (s &&& t) % 2 = (s % 2 &&& t % 2) := by
  have := @Nat.and_mod_two_pow s t 1
  simpa using this
theorem cover_half {s t : Nat} (h : s &&& t = t) : s / 2 &&& t / 2 = t / 2 := by rw [← and_half, h]
theorem cover_low {s t : Nat} (h : s &&& t = t) : t % 2 ≤ s % 2 := by
  have h1 := and_low s t
  rw [h] at h1
  rw [h1]
  exact Nat.and_le_left
theorem pop_cover : ∀ f s t, s &&& t = t → popAux f t ≤ popAux f s ∧ (popAux f t = popAux f s → t % 2 ^ f = s % 2 ^ f) := by
  intro f
  induction f with
  | zero => intro s t _; exact ⟨Nat.le_refl _, fun _ => by simp [Nat.mod_one]⟩
  | succ f ih =>
    intro s t h
    obtain ⟨h1, h2⟩ := ih (s / 2) (t / 2) (cover_half h)
    have h3 := cover_low h
    simp only [popAux]
    refine ⟨by omega, fun e => ?_⟩
    have h4 := h2 (by omega)
    have hs : ∀ x : Nat, x % 2 ^ (f + 1) = x % 2 + 2 * (x / 2 % 2 ^ f) := by
      intro x
      rw [Nat.pow_succ, Nat.mul_comm (2 ^ f) 2, Nat.mod_mul]
    rw [hs t, hs s, h4]
    omega
theorem ones_cover {s t : Nat} (h : s &&& t = t) : onesCount t ≤ onesCount s := (pop_cover 64 s t h).1
theorem ones_cover_eq {s t : Nat} (h : s &&& t = t) (hs : s < 2 ^ 64) (ht : t < 2 ^ 64) (e : onesCount t = onesCount s) : t = s := by
  have := (pop_cover 64 s t h).2 e
  rwa [Nat.mod_eq_of_lt hs, Nat.mod_eq_of_lt ht] at this
theorem and_parts {n s t A B : Nat} (hs : s < 2 ^ n) (ht : t < 2 ^ n) : (s + A * 2 ^ n) &&& (t + B * 2 ^ n) = (s &&& t) + (A &&& B) * 2 ^ n := by
  have hp := Nat.two_pow_pos n
  have h1 : ((s + A * 2 ^ n) &&& (t + B * 2 ^ n)) % 2 ^ n = (s &&& t) := by
    rw [Nat.and_mod_two_pow, Nat.add_mul_mod_self_right, Nat.add_mul_mod_self_right, Nat.mod_eq_of_lt hs, Nat.mod_eq_of_lt ht]
  have h2 : ((s + A * 2 ^ n) &&& (t + B * 2 ^ n)) / 2 ^ n = (A &&& B) := by
    rw [Nat.and_div_two_pow, Nat.add_mul_div_right _ _ hp, Nat.add_mul_div_right _ _ hp, Nat.div_eq_of_lt hs, Nat.div_eq_of_lt ht, Nat.zero_add, Nat.zero_add]
  have h3 := Nat.div_add_mod ((s + A * 2 ^ n) &&& (t + B * 2 ^ n)) (2 ^ n)
  rw [h1, h2, Nat.mul_comm] at h3
  omega
/-- Bits taken away: what is left is covered. -/
theorem andnot64 (x y : Nat) (hx : x < 9223372036854775808) (hy : y < 9223372036854775808) : Go.bits .andNot .i64 (x : Int) (y : Int) = ((x ^^^ (x &&& y) : Nat) : Int) := by
  have hx' : x % 2 ^ 64 = x := Nat.mod_eq_of_lt (Nat.lt_trans hx (by decide))
  have hy' : y % 2 ^ 64 = y := Nat.mod_eq_of_lt (Nat.lt_trans hy (by decide))
  have hlt : x ^^^ (x &&& y) < 2 ^ 63 := Nat.xor_lt_two_pow (by simpa using hx) (Nat.and_lt_two_pow _ (by simpa using hy))
  have hlt' : x ^^^ (x &&& y) < 9223372036854775808 := by simpa using hlt
  have e : ((BitVec.ofInt 64 (x : Int)) &&& ~~~(BitVec.ofInt 64 (y : Int))).toNat = x ^^^ (x &&& y) := by
    rw [BitVec.ofInt_natCast, BitVec.ofInt_natCast]
    apply Nat.eq_of_testBit_eq
    intro i
    rw [BitVec.testBit_toNat, BitVec.getLsbD_and, BitVec.getLsbD_not, Nat.testBit_xor, Nat.testBit_and]
    by_cases hi : i < 64
    · simp only [BitVec.getLsbD_ofNat, hi, decide_true, Bool.true_and]
      cases x.testBit i <;> cases y.testBit i <;> rfl
    · have : x.testBit i = false := Nat.testBit_lt_two_pow (Nat.lt_of_lt_of_le (Nat.lt_trans hx (by decide : 9223372036854775808 < 2 ^ 64)) (Nat.pow_le_pow_right (by decide) (by omega)))
      simp [hi, this, BitVec.getLsbD_ofNat]
  show IntKind.i64.wrap (((BitVec.ofInt 64 (x : Int)) &&& ~~~(BitVec.ofInt 64 (y : Int))).toNat : Int) = _
  rw [e, IntKind.wrap_i64]
  generalize x ^^^ (x &&& y) = p at hlt'
  omega
theorem sub_cover (x y : Nat) : x &&& (x ^^^ (x &&& y)) = x ^^^ (x &&& y) := by
  apply Nat.eq_of_testBit_eq
  intro i
  simp only [Nat.testBit_and, Nat.testBit_xor]
  cases x.testBit i <;> cases y.testBit i <;> rfl
theorem cover_le {s t : Nat} (h : s &&& t = t) : t ≤ s := by rw [← h]; exact Nat.and_le_left

end Go.Proofs.Ytgchhheajngbfaa.Kit

set_option linter.unusedSimpArgs false
set_option linter.unusedVariables false
namespace Go.Proofs.Ytgchhheajngbfaa.P
open Go.Lib Go.RowKit Go.Proofs.YtgchhheajngbfaaW.PrintWords Go.Proofs.YtgchhheajngbfaaW.PrintMore Go.Proofs.Ytgchhheajngbfaa.Kit

/-- The lowest lit tube, as a number. -/
def lowN (x : Nat) : Nat := x ^^^ (x &&& (x - 1))
theorem low_all : ((List.range 64).all fun a => (List.range 64).all fun b => decide (64 * a + b = 0) || (decide (Go.bits .and .i64 ((64 * a + b : Nat) : Int) (wrap64 (-((64 * a + b : Nat) : Int))) = (lowN (64 * a + b) : Int)) && decide (popAux 12 ((64 * a + b) &&& (64 * a + b - 1)) + 1 = popAux 12 (64 * a + b)))) = true := by decide +kernel
theorem low_at {x : Nat} (h0 : 0 < x) (h : x < 4096) : Go.bits .and .i64 (x : Int) (wrap64 (-(x : Int))) = (lowN x : Int) ∧ popAux 12 (x &&& (x - 1)) + 1 = popAux 12 x := by
  have h1 := low_all
  rw [List.all_eq_true] at h1
  have h2 := h1 (x / 64) (List.mem_range.2 (by omega))
  rw [List.all_eq_true] at h2
  have h3 := h2 (x % 64) (List.mem_range.2 (by omega))
  rw [show 64 * (x / 64) + x % 64 = x from by omega, decide_eq_false (by omega), Bool.false_or, Bool.and_eq_true] at h3
  exact ⟨of_decide_eq_true h3.1, of_decide_eq_true h3.2⟩
theorem pop12_zero {x : Nat} (h : x < 4096) (h0 : popAux 12 x = 0) : x = 0 := by
  rcases Nat.eq_zero_or_pos x with e | hp
  · exact e
  · have := (low_at hp h).2
    omega
theorem low_lt {x : Nat} (h : x < 4096) : lowN x < 4096 := Nat.xor_lt_two_pow (n := 12) h (Nat.lt_of_le_of_lt Nat.and_le_left h)
/-- The signs that come of s when one of the tubes of x goes dark. -/
def downs : Nat → Nat → Nat → List Nat
  | 0, _, _ => []
  | f + 1, s, x => if x = 0 then [] else (s ^^^ (s &&& lowN x)) :: downs f s (x &&& (x - 1))
theorem downs_len : ∀ f s x, (downs f s x).length ≤ f := by
  intro f
  induction f with
  | zero => intro s x; exact Nat.le_refl _
  | succ f ih =>
    intro s x
    unfold downs
    split
    · exact Nat.zero_le _
    · have := ih s (x &&& (x - 1))
      rw [List.length_cons]
      omega
/-- All shadows of a list, in the order in which they come. -/
def rawS (l : List Nat) : List Nat := l.flatMap fun s => downs 12 s s
theorem rawS_len (l : List Nat) : (rawS l).length ≤ 12 * l.length := by
  induction l with
  | nil => exact Nat.le_refl _
  | cons s l ih =>
    have := downs_len 12 s s
    unfold rawS at *
    rw [List.flatMap_cons, List.length_append, List.length_cons]
    omega
def intsN (l : List Nat) : List Int := l.map fun (n : Nat) => (n : Int)
theorem intsN_app (a b : List Nat) : intsN (a ++ b) = intsN a ++ intsN b := by unfold intsN; rw [List.map_append]
theorem intsN_len (a : List Nat) : (intsN a).length = a.length := by unfold intsN; rw [List.length_map]
theorem shadow_l1 (L : List Int) (i : Nat) (hi : i ≤ 200) (s : Nat) (hs : s < 4096) (R : List Int × Int) : ∀ f x (out : List Nat), popAux 12 x ≤ f → x < 4096 → out.length + f ≤ 5000 →
    Ev (fun k => code_Shadow.l0 k (intsN (out ++ downs f s x)) L (L.length : Int) ((i + 1 : Nat) : Int)) R →
    Ev (fun k => code_Shadow.l1 k (intsN out) (s : Int) (x : Int) L (L.length : Int) (i : Int)) R := by
  intro f
  induction f with
  | zero =>
    intro x out hf hx ho hR
    obtain rfl := pop12_zero hx (by omega)
    rw [show downs 0 s 0 = [] from rfl, List.append_nil] at hR
    refine Ev.step (fun k => ?_) hR
    simp only [code_Shadow.l1]
    rw [if_neg (by decide), w64 (x := (i : Int) + 1) (by omega) (by omega)]
    rfl
  | succ f ih =>
    intro x out hf hx ho hR
    by_cases h0 : x = 0
    · subst h0
      unfold downs at hR
      rw [if_pos rfl, List.append_nil] at hR
      refine Ev.step (fun k => ?_) hR
      simp only [code_Shadow.l1]
      rw [if_neg (by decide), w64 (x := (i : Int) + 1) (by omega) (by omega)]
      rfl
    · obtain ⟨e1, e2⟩ := low_at (by omega) hx
      unfold downs at hR
      rw [if_neg h0] at hR
      have hand : x &&& (x - 1) < 4096 := Nat.lt_of_le_of_lt Nat.and_le_left hx
      have hl := low_lt hx
      have h1 := ih (x &&& (x - 1)) (out ++ [s ^^^ (s &&& lowN x)]) (by omega) hand (by rw [List.length_append, List.length_singleton]; omega) (by rw [List.append_assoc]; exact hR)
      refine Ev.step (fun k => ?_) h1
      simp only [code_Shadow.l1]
      rw [if_pos (by omega), intsN_len, if_pos (by omega), e1, andnot64 s (lowN x) (by omega) (by omega), w64 (x := (x : Int) - 1) (by omega) (by omega), show (x : Int) - 1 = ((x - 1 : Nat) : Int) from by omega, and64 x (x - 1) (by omega) (by omega), intsN_app]
      rfl
/-- What Shadow gives. -/
def shadowL (l : List Nat) : List Int := Lib.compact (isort (intsN (rawS l)))
theorem shadow_l0 (l : List Nat) (hl : l.length ≤ 200) (hs : ∀ s, s ∈ l → s < 4096) : ∀ d i, l.length - i = d → i ≤ l.length →
    Ev (fun k => code_Shadow.l0 k (intsN (rawS (l.take i))) (intsN l) ((intsN l).length : Int) (i : Int)) (shadowL l, 0) := by
  intro d
  induction d with
  | zero =>
    intro i hd hi
    obtain rfl : i = l.length := by omega
    rw [List.take_length]
    have hr := rawS_len l
    refine Ev.at 1 (fun k hk => ?_)
    obtain ⟨k, rfl⟩ : ∃ j, k = j + 1 := ⟨k - 1, by omega⟩
    simp only [code_Shadow.l0]
    rw [if_neg (by rw [intsN_len]; omega)]
    unfold slices_Sort_int_int.f
    rw [if_pos (by rw [intsN_len]; omega), Option.bind_some]
    unfold slices_Compact_int_int.f
    rw [if_pos (by rw [isort_length, intsN_len]; omega), Option.bind_some]
    rfl
  | succ d ih =>
    intro i hd hi
    have hil : i < l.length := by omega
    have h1 := ih (i + 1) (by omega) (by omega)
    have hsi := hs _ (List.getElem_mem hil)
    have hr := rawS_len (l.take i)
    rw [List.length_take] at hr
    have hp := popAux_le 12 12 l[i] (by omega)
    have e : rawS (l.take (i + 1)) = rawS (l.take i) ++ downs 12 l[i] l[i] := by
      unfold rawS
      rw [List.take_succ_eq_append_getElem hil, List.flatMap_append, List.flatMap_singleton]
    rw [e] at h1
    have h2 := shadow_l1 (intsN l) i (by omega) l[i] hsi (shadowL l, 0) 12 l[i] (rawS (l.take i)) hp (by omega) (by omega) h1
    have hrd : rd (intsN l) (i : Int) = (l[i] : Int) := by rw [rd_get _ i (by rw [intsN_len]; exact hil)]; unfold intsN; rw [List.getElem_map]
    refine Ev.step (fun k => ?_) h2
    simp only [code_Shadow.l0]
    rw [if_pos (by rw [intsN_len]; omega), if_pos (by omega), if_pos (by rw [intsN_len]; omega), hrd]
theorem shadow_ev (n : Int) (l : List Nat) (h : signsN n (intsN l) = 0) (hs : ∀ s, s ∈ l → s < 4096) : Ev (fun k => code_Shadow.f k n (intsN l)) (shadowL l, 0) := by
  have hl := (signsN_len h).1
  rw [intsN_len] at hl
  refine Ev.congr (fun k => ?_) (shadow_l0 l hl hs l.length 0 (by omega) (by omega))
  unfold code_Shadow.f
  rw [signs_f, Option.bind_some, if_pos h]
  rfl
/-- How many shadows there are, told one by one: the set of those so far, and their number. -/
def cntS (p : Nat × Nat) (d : Nat) : Nat × Nat := if p.1.testBit d = true then p else (p.1 ||| 2 ^ d, p.2 + 1)
def Told (p : Nat × Nat) (l : List Nat) : Prop := ∃ D : List Nat, D.Nodup ∧ (∀ d, d ∈ D ↔ p.1.testBit d = true) ∧ (∀ d, d ∈ D ↔ d ∈ l) ∧ p.2 = D.length
theorem told_step {p : Nat × Nat} {l : List Nat} (h : Told p l) (d : Nat) : Told (cntS p d) (l ++ [d]) := by
  obtain ⟨D, h1, h2, h3, h4⟩ := h
  unfold cntS
  by_cases hd : p.1.testBit d = true
  · rw [if_pos hd]
    refine ⟨D, h1, h2, fun x => ?_, h4⟩
    rw [List.mem_append, List.mem_singleton, h3]
    constructor
    · exact Or.inl
    · rintro (h | rfl)
      · exact h
      · exact (h3 x).1 ((h2 x).2 hd)
  · rw [if_neg hd]
    have hn : d ∉ D := fun h => hd ((h2 d).1 h)
    refine ⟨d :: D, List.nodup_cons.2 ⟨hn, h1⟩, fun x => ?_, fun x => ?_, by rw [List.length_cons, h4]⟩
    · rw [List.mem_cons, Nat.testBit_or, Nat.testBit_two_pow, Bool.or_eq_true, decide_eq_true_eq, ← h2]
      constructor
      · rintro (rfl | h)
        · exact Or.inr rfl
        · exact Or.inl h
      · rintro (h | rfl)
        · exact Or.inr h
        · exact Or.inl rfl
    · rw [List.mem_cons, List.mem_append, List.mem_singleton, h3]
      exact or_comm
theorem told_all : ∀ (l : List Nat) (p : Nat × Nat) (l0 : List Nat), Told p l0 → Told (l.foldl cntS p) (l0 ++ l) := by
  intro l
  induction l with
  | nil => intro p l0 h; simpa using h
  | cons d l ih =>
    intro p l0 h
    have := ih _ _ (told_step h d)
    rw [List.append_assoc] at this
    exact this
theorem told_nil : Told (0, 0) [] := ⟨[], List.nodup_nil, fun d => by simp, fun d => Iff.rfl, rfl⟩
theorem shadow_count (l : List Nat) : (shadowL l).length = ((rawS l).foldl cntS (0, 0)).2 := by
  obtain ⟨D, h1, h2, h3, h4⟩ := told_all (rawS l) (0, 0) [] told_nil
  rw [List.nil_append] at h3
  rw [h4]
  have hso := isort_sorted (intsN (rawS l))
  have ha := compact_asc hso
  have hp : (shadowL l).Perm (intsN D) := by
    refine (List.perm_ext_iff_of_nodup (ha.imp (fun h => by omega)) ?_).2 (fun x => ?_)
    · unfold intsN List.Nodup
      rw [List.pairwise_map]
      exact h1.imp (fun h e => h (by omega))
    · show x ∈ Lib.compact (isort (intsN (rawS l))) ↔ _
      rw [compact_all hso, (isort_perm _).mem_iff]
      unfold intsN
      rw [List.mem_map, List.mem_map]
      constructor
      · rintro ⟨d, hd, rfl⟩
        exact ⟨d, (h3 d).2 hd, rfl⟩
      · rintro ⟨d, hd, rfl⟩
        exact ⟨d, (h3 d).1 hd, rfl⟩
  rw [hp.length_eq, intsN_len]
end Go.Proofs.Ytgchhheajngbfaa.P

/- Binomial coefficients, and the cascade of a number: plain recursion. -/
set_option linter.unusedSimpArgs false
set_option linter.unusedVariables false
namespace Go.Proofs.Ytgchhheajngbfaa.Kit

def binom : Nat → Nat → Nat
  | _, 0 => 1
  | 0, _ + 1 => 0
  | n + 1, k + 1 => binom n k + binom n (k + 1)
theorem binom_zero (n : Nat) : binom n 0 = 1 := by cases n <;> rfl
theorem binom_succ (n k : Nat) : binom (n + 1) (k + 1) = binom n k + binom n (k + 1) := rfl
theorem binom_gt : ∀ n k, n < k → binom n k = 0 := by
  intro n
  induction n with
  | zero => intro k h; cases k with
    | zero => omega
    | succ k => rfl
  | succ n ih =>
    intro k h
    cases k with
    | zero => omega
    | succ k => rw [binom_succ, ih k (by omega), ih (k + 1) (by omega)]
theorem binom_self (n : Nat) : binom n n = 1 := by
  induction n with
  | zero => rfl
  | succ n ih => rw [binom_succ, ih, binom_gt n (n + 1) (by omega)]
theorem binom_one (n : Nat) : binom n 1 = n := by
  induction n with
  | zero => rfl
  | succ n ih => rw [binom_succ n 0, ih, binom_zero]; omega
theorem binom_pos : ∀ n k, k ≤ n → 0 < binom n k := by
  intro n
  induction n with
  | zero => intro k h; cases k with
    | zero => decide
    | succ k => omega
  | succ n ih =>
    intro k h
    cases k with
    | zero => rw [binom_zero]; decide
    | succ k => rw [binom_succ]; have := ih k (by omega); omega
theorem binom_mul : ∀ n k, binom n (k + 1) * (k + 1) = binom n k * (n - k) := by
  intro n
  induction n with
  | zero => intro k; simp [binom]
  | succ n ih =>
    intro k
    cases k with
    | zero => rw [binom_one, binom_zero]; omega
    | succ k =>
      rw [binom_succ n (k + 1), binom_succ n k]
      have h1 := ih k
      have h2 := ih (k + 1)
      rcases Nat.lt_or_ge k n with h | h
      · have e : n + 1 - (k + 1) = (n - (k + 1)) + 1 := by omega
        have e1 : n - k = (n - (k + 1)) + 1 := by omega
        rw [e1] at h1
        rw [e]
        generalize n - (k + 1) = d at *
        rw [show k + 1 + 1 = (k + 1) + 1 from rfl] at *
        simp only [Nat.add_mul, Nat.mul_add, Nat.mul_one, Nat.one_mul] at *
        omega
      · rw [binom_gt n (k + 1) (by omega), binom_gt n (k + 1 + 1) (by omega), show n + 1 - (k + 1) = 0 from by omega]
        simp
theorem binom_le_succ (n k : Nat) : binom n k ≤ binom (n + 1) k := by
  cases k with
  | zero => rw [binom_zero, binom_zero]; exact Nat.le_refl _
  | succ k => rw [binom_succ]; omega
theorem binom_mono {n m : Nat} (h : n ≤ m) (k : Nat) : binom n k ≤ binom m k := by
  induction h with
  | refl => exact Nat.le_refl _
  | step _ ih => exact Nat.le_trans ih (binom_le_succ _ _)
theorem binom_symm : ∀ n k, k ≤ n → binom n k = binom n (n - k) := by
  intro n
  induction n with
  | zero => intro k h; obtain rfl : k = 0 := by omega
            rfl
  | succ n ih =>
    intro k h
    cases k with
    | zero => rw [binom_zero, Nat.sub_zero, binom_self]
    | succ k =>
      rcases Nat.lt_or_ge k n with h1 | h1
      · have e : n + 1 - (k + 1) = (n - (k + 1)) + 1 := by omega
        rw [binom_succ, e, binom_succ, ih k (by omega), ih (k + 1) (by omega), show n - k = n - (k + 1) + 1 from by omega]
        omega
      · obtain rfl : k = n := by omega
        rw [binom_self, show k + 1 - (k + 1) = 0 from by omega, binom_zero]
/-- A coefficient in the middle grows at least as the upper number. -/
theorem binom_ge (i : Nat) (hi : 1 ≤ i) : ∀ a, i ≤ a → a + 1 ≤ binom a i + i := by
  intro a
  induction a with
  | zero => intro h; omega
  | succ a ih =>
    intro h
    obtain ⟨j, rfl⟩ : ∃ j, i = j + 1 := ⟨i - 1, by omega⟩
    rw [binom_succ]
    rcases Nat.lt_or_ge a (j + 1) with h1 | h1
    · obtain rfl : a = j := by omega
      rw [binom_self]; omega
    · have := ih h1
      have := binom_pos a j (by omega)
      omega
/-- Coefficients with lower numbers up to the middle rise. -/
theorem binom_rise (n i : Nat) (h : 2 * i + 1 ≤ n) : binom n i ≤ binom n (i + 1) := by
  have h1 := binom_mul n i
  have h2 : binom n i * (i + 1) ≤ binom n i * (n - i) := Nat.mul_le_mul_left _ (by omega)
  rw [← h1] at h2
  exact Nat.le_of_mul_le_mul_right h2 (by omega)
theorem binom_rise_le (n : Nat) : ∀ k i, i ≤ k → 2 * k ≤ n → binom n i ≤ binom n k := by
  intro k
  induction k with
  | zero => intro i h _; obtain rfl : i = 0 := by omega
            exact Nat.le_refl _
  | succ k ih =>
    intro i h h2
    rcases Nat.lt_or_ge i (k + 1) with h1 | h1
    · exact Nat.le_trans (ih i (by omega) (by omega)) (binom_rise n k (by omega))
    · obtain rfl : i = k + 1 := by omega
      exact Nat.le_refl _
theorem binom_24 : ∀ n : Fin 25, ∀ i : Fin 25, binom n.val i.val ≤ 2704156 := by decide +kernel
/-- On the way to a coefficient of at most 100000 (or the next one) with a lower number up to 12 nothing is great. -/
theorem binom_way (n k i : Nat) (hk : k ≤ 12) (hi : i ≤ k) (hn : n ≤ 100013) (hb : binom n k ≤ 2704156) : binom n i * n ≤ 4611686018427387904 := by
  rcases Nat.lt_or_ge n 25 with h | h
  · have h1 := binom_24 ⟨n, h⟩ ⟨i, by omega⟩
    simp only at h1
    have := Nat.mul_le_mul h1 (show n ≤ 25 from by omega)
    omega
  · have h1 := Nat.le_trans (binom_rise_le n k i hi (by omega)) hb
    have := Nat.mul_le_mul h1 hn
    omega

/-! The cascade. -/
def topF : Nat → Nat → Nat → Nat → Nat
  | 0, _, _, a => a
  | f + 1, i, s, a => if binom (a + 1) i ≤ s then topF f i s (a + 1) else a
def top (i s : Nat) : Nat := topF (s + i + 1) i s i
theorem topF_spec (i s : Nat) (hi : 1 ≤ i) : ∀ f a, i ≤ a → s + i + 1 ≤ f + a → binom a i ≤ s → a ≤ topF f i s a ∧ binom (topF f i s a) i ≤ s ∧ s < binom (topF f i s a + 1) i := by
  intro f
  induction f with
  | zero =>
    intro a h1 h2 h3
    have := binom_ge i hi a h1
    omega
  | succ f ih =>
    intro a h1 h2 h3
    unfold topF
    split
    · rename_i h4
      obtain ⟨k1, k2, k3⟩ := ih (a + 1) (by omega) (by omega) h4
      exact ⟨by omega, k2, k3⟩
    · exact ⟨Nat.le_refl _, h3, by omega⟩
theorem top_spec (i s : Nat) (hi : 1 ≤ i) (hs : 1 ≤ s) : i ≤ top i s ∧ binom (top i s) i ≤ s ∧ s < binom (top i s + 1) i :=
  topF_spec i s hi _ i (Nat.le_refl _) (by omega) (by rw [binom_self]; exact hs)
theorem binom_strict {i a b : Nat} (h : binom a i < binom b i) : a < b := by
  rcases Nat.lt_or_ge a b with h1 | h1
  · exact h1
  · have := binom_mono h1 i
    omega
/-- Only one number is so. -/
theorem top_uniq {i s b : Nat} (hi : 1 ≤ i) (hs : 1 ≤ s) (h1 : binom b i ≤ s) (h2 : s < binom (b + 1) i) : b = top i s := by
  obtain ⟨_, k2, k3⟩ := top_spec i s hi hs
  have := binom_strict (Nat.lt_of_le_of_lt h1 k3)
  have := binom_strict (Nat.lt_of_le_of_lt k2 h2)
  omega
def casc : Nat → Nat → List Nat × Nat
  | 0, _ => ([], 0)
  | i + 1, s => if s = 0 then ([], 0) else (top (i + 1) s :: (casc i (s - binom (top (i + 1) s) (i + 1))).1, binom (top (i + 1) s) i + (casc i (s - binom (top (i + 1) s) (i + 1))).2)
theorem casc_zero (i : Nat) : casc i 0 = ([], 0) := by cases i <;> rfl

end Go.Proofs.Ytgchhheajngbfaa.Kit

set_option linter.unusedSimpArgs false
set_option linter.unusedVariables false
namespace Go.Proofs.Ytgchhheajngbfaa.P
open Go.Lib Go.RowKit Go.Proofs.YtgchhheajngbfaaW.PrintWords Go.Proofs.YtgchhheajngbfaaW.PrintMore Go.Proofs.Ytgchhheajngbfaa.Kit

/-- Binomials, and cascades, as they are quick to compute. -/
def binQ : Nat → Nat → Nat
  | _, 0 => 1
  | n, k + 1 => binQ n k * (n - k) / (k + 1)
theorem binQ_eq (n : Nat) : ∀ k, binQ n k = binom n k := by
  intro k
  induction k with
  | zero => rw [binom_zero]; rfl
  | succ k ih =>
    unfold binQ
    rw [ih, ← binom_mul n k]
    exact Nat.mul_div_cancel _ (by omega)
def topQ : Nat → Nat → Nat → Nat → Nat
  | 0, _, _, a => a
  | f + 1, i, s, a => if binQ (a + 1) i ≤ s then topQ f i s (a + 1) else a
theorem topQ_eq : ∀ f i s a, topQ f i s a = topF f i s a := by
  intro f
  induction f with
  | zero => intro i s a; rfl
  | succ f ih =>
    intro i s a
    unfold topQ topF
    rw [binQ_eq, ih]
def goQ (r : Nat → Nat) (i s a : Nat) : Nat := binQ a i + r (s - binQ a (i + 1))
def cascQ : Nat → Nat → Nat
  | 0, _ => 0
  | i + 1, s => if s = 0 then 0 else goQ (cascQ i) i s (topQ (s + (i + 1) + 1) (i + 1) s (i + 1))
theorem cascQ_eq : ∀ i s, cascQ i s = (casc i s).2 := by
  intro i
  induction i with
  | zero => intro s; rfl
  | succ i ih =>
    intro s
    unfold cascQ casc
    split
    · rfl
    · unfold goQ
      rw [ih, topQ_eq, binQ_eq, binQ_eq]
      rfl
/-- The signs below N with k lit tubes. -/
def sgs (k N : Nat) : List Nat := (List.range N).filter fun s => popAux 12 s == k
def rowStep (k : Nat) (st : (Nat × Nat) × Nat × Bool) (s : Nat) : (Nat × Nat) × Nat × Bool :=
  let p := (downs 12 s s).foldl cntS st.1
  (p, st.2.1 + 1, st.2.2 && p.2 == cascQ k (st.2.1 + 1))
def rowChk (k : Nat) : Bool := (((sgs k 4096).take 200).foldl (rowStep k) ((0, 0), 0, true)).2.2
theorem row_1 : rowChk 1 = true := by decide +kernel
theorem row_2 : rowChk 2 = true := by decide +kernel
theorem row_3 : rowChk 3 = true := by decide +kernel
theorem row_4 : rowChk 4 = true := by decide +kernel
theorem row_5 : rowChk 5 = true := by decide +kernel
theorem row_6 : rowChk 6 = true := by decide +kernel
theorem row_7 : rowChk 7 = true := by decide +kernel
theorem row_8 : rowChk 8 = true := by decide +kernel
theorem row_9 : rowChk 9 = true := by decide +kernel
theorem row_10 : rowChk 10 = true := by decide +kernel
theorem row_11 : rowChk 11 = true := by decide +kernel
theorem row_12 : rowChk 12 = true := by decide +kernel
theorem row_all {k : Nat} (h1 : 1 ≤ k) (h2 : k ≤ 12) : rowChk k = true := by
  rcases (show k = 1 ∨ k = 2 ∨ k = 3 ∨ k = 4 ∨ k = 5 ∨ k = 6 ∨ k = 7 ∨ k = 8 ∨ k = 9 ∨ k = 10 ∨ k = 11 ∨ k = 12 by omega) with rfl | rfl | rfl | rfl | rfl | rfl | rfl | rfl | rfl | rfl | rfl | rfl
  · exact row_1
  · exact row_2
  · exact row_3
  · exact row_4
  · exact row_5
  · exact row_6
  · exact row_7
  · exact row_8
  · exact row_9
  · exact row_10
  · exact row_11
  · exact row_12
theorem row_run (k : Nat) : ∀ (l : List Nat) (st : (Nat × Nat) × Nat × Bool), (l.foldl (rowStep k) st).2.2 = true → st.2.2 = true ∧ ∀ j, 0 < j → j ≤ l.length → ((rawS (l.take j)).foldl cntS st.1).2 = cascQ k (st.2.1 + j) := by
  intro l
  induction l with
  | nil => intro st h; exact ⟨h, fun j h1 h2 => by simp at h2; omega⟩
  | cons s l ih =>
    intro st h
    rw [List.foldl_cons] at h
    obtain ⟨h1, h2⟩ := ih _ h
    have h3 : st.2.2 = true ∧ ((downs 12 s s).foldl cntS st.1).2 = cascQ k (st.2.1 + 1) := by
      unfold rowStep at h1
      simpa using h1
    refine ⟨h3.1, fun j hj1 hj2 => ?_⟩
    obtain ⟨j, rfl⟩ : ∃ i, j = i + 1 := ⟨j - 1, by omega⟩
    have e : rawS ((s :: l).take (j + 1)) = downs 12 s s ++ rawS (l.take j) := by unfold rawS; rw [List.take_succ_cons, List.flatMap_cons]
    rw [e, List.foldl_append]
    rcases Nat.eq_zero_or_pos j with rfl | hp
    · simpa [rawS] using h3.2
    · have := h2 j hp (by rw [List.length_cons] at hj2; omega)
      rw [show st.2.1 + (j + 1) = st.2.1 + 1 + j from by omega]
      exact this
theorem first_shadow {k m : Nat} (h1 : 1 ≤ k) (h2 : k ≤ 12) (hm : 1 ≤ m) (hm2 : m ≤ 200) (hc : m ≤ (sgs k 4096).length) : (shadowL ((sgs k 4096).take m)).length = (casc k m).2 := by
  have h := row_all h1 h2
  unfold rowChk at h
  have h3 := (row_run k _ _ h).2 m hm (by rw [List.length_take]; omega)
  rw [List.take_take, Nat.min_eq_left hm2, Nat.zero_add] at h3
  rw [shadow_count, h3, cascQ_eq]
theorem cnt_all : ((List.range 13).all fun n => (List.range (n + 1)).all fun k => decide ((sgs k (2 ^ n)).length = binQ n k)) = true := by decide +kernel
theorem cnt_at {n k : Nat} (hn : n ≤ 12) (hk : k ≤ n) : (sgs k (2 ^ n)).length = binom n k := by
  have h := List.all_eq_true.1 (List.all_eq_true.1 cnt_all n (List.mem_range.2 (by omega))) k (List.mem_range.2 (by omega))
  rw [of_decide_eq_true h, binQ_eq]
theorem sgs_pre {k a b : Nat} (h : a ≤ b) : sgs k a = (sgs k b).take (sgs k a).length := by
  have e : List.range b = List.range a ++ (List.range (b - a)).map (a + ·) := by
    have := List.range_add (n := a) (m := b - a)
    rwa [show a + (b - a) = b from by omega] at this
  unfold sgs
  rw [e, List.filter_append]
  exact (List.take_left' rfl).symm
theorem sgs_succ (k s : Nat) : sgs k (s + 1) = sgs k s ++ if popAux 12 s = k then [s] else [] := by
  unfold sgs
  rw [List.range_succ, List.filter_append]
  congr 1
  by_cases h : popAux 12 s = k
  · rw [if_pos h]; simp [h]
  · rw [if_neg h]; simp [h]
end Go.Proofs.Ytgchhheajngbfaa.P

set_option linter.unusedSimpArgs false
set_option linter.unusedVariables false
namespace Go.Proofs.Ytgchhheajngbfaa.P
open Go.RowKit Go.Proofs.YtgchhheajngbfaaW.PrintWords Go.Proofs.YtgchhheajngbfaaW.PrintMore Go.Proofs.Ytgchhheajngbfaa.Kit Go.Lib

theorem scan2_none (a i : Int) : ∀ (j : Int) (xs : List Int), scan2 a i j xs = none ↔ ∀ x ∈ xs, (cov a x || cov x a) = false
  | _, [] => ⟨(fun _ x hx => by cases hx), (fun _ => rfl)⟩
  | j, x :: xs => by
    have ih := scan2_none a i (j + 1) xs
    simp only [scan2]
    cases h : (cov a x || cov x a) with
    | true =>
      rw [if_pos rfl]
      exact ⟨(fun h2 => by cases h2), (fun h2 => by have := h2 x List.mem_cons_self; rw [h] at this; cases this)⟩
    | false =>
      rw [if_neg (by decide), ih]
      exact ⟨fun h2 y hy => by rcases List.mem_cons.1 hy with rfl | hy; exact h; exact h2 y hy, fun h2 y hy => h2 y (List.mem_cons_of_mem _ hy)⟩
theorem scan2_two (a i : Int) : ∀ (j : Int) (xs : List Int) (r : List Int), scan2 a i j xs = some r → r ≠ []
  | _, [], r, h => by cases h
  | j, x :: xs, r, h => by
    simp only [scan2] at h
    split at h
    · injection h with h; subst h; exact List.cons_ne_nil _ _
    · exact scan2_two a i (j + 1) xs r h
theorem scan1_nil : ∀ (i : Int) (l : List Int), scan1 i l = [] ↔ l.Pairwise (fun a x => (cov a x || cov x a) = false)
  | _, [] => ⟨(fun _ => List.Pairwise.nil), (fun _ => rfl)⟩
  | i, a :: xs => by
    have ih := scan1_nil (i + 1) xs
    have h2 := scan2_none a i (i + 1) xs
    simp only [scan1]
    rw [List.pairwise_cons]
    cases h : scan2 a i (i + 1) xs with
    | some r =>
      have hr := scan2_two a i (i + 1) xs r h
      exact ⟨fun e => absurd e hr, fun e => by have := h2.2 e.1; rw [h] at this; cases this⟩
    | none =>
      exact ⟨fun e => ⟨h2.1 h, ih.1 e⟩, fun e => ih.2 e.2⟩
theorem cov_nat {a b : Nat} (ha : a < 4096) (hb : b < 4096) : cov (a : Int) (b : Int) = decide (a &&& b = b) := by
  unfold cov
  rw [and64 a b (by omega) (by omega)]
  by_cases h : a &&& b = b
  · rw [h]; simp
  · rw [decide_eq_false h]
    exact beq_eq_false_iff_ne.2 (fun e => h (by omega))
theorem sgOk_spec (n : Int) : ∀ (l seen : List Int), sgOk n seen l = true → l.Nodup ∧ (∀ x ∈ l, sgIn n x = true) ∧ ∀ x ∈ l, x ∉ seen
  | [], _, _ => ⟨List.Pairwise.nil, (fun x hx => by cases hx), (fun x hx => by cases hx)⟩
  | x :: xs, seen, h => by
    simp only [sgOk] at h
    cases h1 : sgIn n x with
    | false => rw [h1, if_neg (by decide)] at h; cases h
    | true =>
      rw [h1, if_pos rfl] at h
      cases h2 : seen.contains x with
      | true => rw [h2, if_pos rfl] at h; cases h
      | false =>
        rw [h2, if_neg (by decide)] at h
        obtain ⟨i1, i2, i3⟩ := sgOk_spec n xs _ h
        have hx : x ∉ seen := by simpa using h2
        refine ⟨List.nodup_cons.2 ⟨fun hm => i3 x hm (List.mem_append_right _ (List.mem_singleton.2 rfl)), i1⟩, fun y hy => ?_, fun y hy => ?_⟩
        · rcases List.mem_cons.1 hy with rfl | hy
          · exact h1
          · exact i2 y hy
        · rcases List.mem_cons.1 hy with rfl | hy
          · exact hx
          · exact fun hs => i3 y hy (List.mem_append_left _ hs)
theorem unord_few {n : Nat} (h1 : 1 ≤ n) (h2 : n ≤ 12) (l : List Int) (hs : signsN (n : Int) l = 0) (hu : scan1 0 l = []) : l.length ≤ (chainsN n).length := by
  have hc : chOk n = true := by
    have := chains_closed (n - 1) (by omega)
    rw [show n - 1 + 1 = n by omega] at this
    exact this
  have hp : 2 ^ n ≤ 4096 := by
    have : 2 ^ n ≤ 2 ^ 12 := Nat.pow_le_pow_right (by decide) h2
    simpa using this
  obtain ⟨hnd, hin, _⟩ := sgOk_spec _ _ _ (signsN_len hs).2.2.2
  have hin' : ∀ x ∈ l, 0 ≤ x ∧ x < ((2 ^ n : Nat) : Int) := fun x hx => by
    have := hin x hx
    unfold sgIn at this
    rw [Int.toNat_natCast] at this
    exact of_decide_eq_true this
  have hun := (scan1_nil 0 l).1 hu
  have hl : (l.map Int.toNat).length = l.length := List.length_map _
  rw [← hl]
  have hinj : ∀ a ∈ l, ∀ b ∈ l, a.toNat = b.toNat → a = b := fun a ha b hb e => by have := hin' a ha; have := hin' b hb; omega
  refine sperner hc _ ?_ (fun s hs => ?_) (fun a ha b hb hab => ?_)
  · unfold List.Nodup
    rw [List.pairwise_map]
    refine hnd.imp_of_mem (fun {a b} ha hb hne e => hne (hinj a ha b hb e))
  · obtain ⟨x, hx, rfl⟩ := List.mem_map.1 hs
    have := hin' x hx
    omega
  · obtain ⟨x, hx, rfl⟩ := List.mem_map.1 ha
    obtain ⟨y, hy, rfl⟩ := List.mem_map.1 hb
    have hx' := hin' x hx
    have hy' := hin' y hy
    have hcov : cov y x = true := by
      obtain ⟨u, rfl⟩ := Int.eq_ofNat_of_zero_le hx'.1
      obtain ⟨v, rfl⟩ := Int.eq_ofNat_of_zero_le hy'.1
      rw [cov_nat (by omega) (by omega)]
      rw [Int.toNat_natCast, Int.toNat_natCast, Nat.and_comm] at hab
      exact decide_eq_true hab
    obtain ⟨i, hi, rfl⟩ := List.mem_iff_getElem.1 hx
    obtain ⟨j, hj, rfl⟩ := List.mem_iff_getElem.1 hy
    rcases Nat.lt_trichotomy i j with hij | rfl | hij
    · have := List.pairwise_iff_getElem.1 hun i j hi hj hij
      rw [hcov, Bool.or_true] at this; cases this
    · rfl
    · have := List.pairwise_iff_getElem.1 hun j i hj hi hij
      rw [hcov, Bool.true_or] at this; cases this
/-- The signs with half of the tubes lit are unordered. -/
theorem mid_unord {n : Nat} (h2 : n ≤ 12) : scan1 0 (intsN (sgs (n / 2) (2 ^ n))) = [] := by
  have hp : 2 ^ n ≤ 4096 := by
    have : 2 ^ n ≤ 2 ^ 12 := Nat.pow_le_pow_right (by decide) h2
    simpa using this
  refine (scan1_nil _ _).2 ?_
  unfold intsN
  rw [List.pairwise_map]
  have hpw : (sgs (n / 2) (2 ^ n)).Pairwise (· < ·) := List.pairwise_lt_range.filter _
  refine hpw.imp_of_mem (fun {a b} ha hb hab => ?_)
  have ha' := List.mem_filter.1 ha
  have hb' := List.mem_filter.1 hb
  have ha1 := List.mem_range.1 ha'.1
  have hb1 := List.mem_range.1 hb'.1
  have key : ∀ x y : Nat, x < 4096 → y < 4096 → popAux 12 x = popAux 12 y → x &&& y = y → x = y := by
    intro x y hx hy e h
    have h1 := (pop_cover 12 x y h).2 e.symm
    have e2 : (2 : Nat) ^ 12 = 4096 := by decide
    rw [e2, Nat.mod_eq_of_lt hx, Nat.mod_eq_of_lt hy] at h1
    exact h1.symm
  have hpe : popAux 12 a = popAux 12 b := by
    have e1 : popAux 12 a = n / 2 := by simpa using ha'.2
    have e2 : popAux 12 b = n / 2 := by simpa using hb'.2
    rw [e1, e2]
  rw [cov_nat (by omega) (by omega), cov_nat (by omega) (by omega), Bool.or_eq_false_iff]
  refine ⟨decide_eq_false (fun h => ?_), decide_eq_false (fun h => ?_)⟩
  · have := key a b (by omega) (by omega) hpe h; omega
  · have := key b a (by omega) (by omega) hpe.symm h; omega
end Go.Proofs.Ytgchhheajngbfaa.P

namespace Go.Proofs.Ytgchhheajngbfaa.P
open Go.RowKit Go.Proofs.YtgchhheajngbfaaW.PrintWords Go.Proofs.YtgchhheajngbfaaW.PrintLast Go.Proofs.YtgchhheajngbfaaW.PrintMore
attribute [local go_sem] max2_int min2_int max_two min_two max_three min_three max_four min_four   -- for this text's walks alone
set_option linter.unusedVariables false
set_option linter.unusedSimpArgs false

/-! ### code_choose: function 46 -/
mutual
def code_choose.j0 : Nat → Int → Int → Bool → Option (Int)
  | 0, _, _, _ => none
  | k + 1, x0, x1, x13 => if x13 = true then (some 0) else (code_choose.l0 k x0 1 x1 0)
def code_choose.l0 : Nat → Int → Int → Int → Int → Option (Int)
  | 0, _, _, _, _ => none
  | k + 1, x0, x5, x14, x15 => if x15 < x14 then (if (wrap64 (x15 + 1)) = 0 then (none) else (code_choose.l0 k x0 (wrap64 (Int.tdiv (wrap64 (x5 * (wrap64 (x0 - x15)))) (wrap64 (x15 + 1)))) x14 (wrap64 (x15 + 1)))) else (some x5)
end
def code_choose.f (k : Nat) (a0 : Int) (a1 : Int) : Option (Int) := if a1 < 0 then (code_choose.j0 k a0 a1 true) else (code_choose.j0 k a0 a1 (decide (a1 > a0)))
theorem code_choose.mono_l : ∀ k, (∀ y0 y1 y2, LeO (code_choose.j0 k y0 y1 y2) (code_choose.j0 (k + 1) y0 y1 y2)) ∧ (∀ y0 y1 y2 y3, LeO (code_choose.l0 k y0 y1 y2 y3) (code_choose.l0 (k + 1) y0 y1 y2 y3))
  | 0 => ⟨fun _ _ _ r h => by simp [code_choose.j0] at h, fun _ _ _ _ r h => by simp [code_choose.l0] at h⟩
  | k + 1 => by
    obtain ⟨ih0, ih1⟩ := code_choose.mono_l k
    refine ⟨?_, ?_⟩
    · intro y0 y1 y2
      unfold code_choose.j0
      repeat' first
      | (with_reducible exact ih0 _ _ _)
      | (with_reducible exact ih1 _ _ _ _)
      | (with_reducible exact LeO.refl _)
      | (with_reducible exact LeO.none _)
      | (with_reducible refine LeO.ite ?_ ?_)
      | (with_reducible refine LeO.bind ?_ (fun _ => ?_))
      | exact ih0 _ _ _
      | exact ih1 _ _ _ _
      | exact LeO.none _
      | refine LeO.ite ?_ ?_
      | refine LeO.bind ?_ (fun _ => ?_)
    · intro y0 y1 y2 y3
      unfold code_choose.l0
      repeat' first
      | (with_reducible exact ih0 _ _ _)
      | (with_reducible exact ih1 _ _ _ _)
      | (with_reducible exact LeO.refl _)
      | (with_reducible exact LeO.none _)
      | (with_reducible refine LeO.ite ?_ ?_)
      | (with_reducible refine LeO.bind ?_ (fun _ => ?_))
      | exact ih0 _ _ _
      | exact ih1 _ _ _ _
      | exact LeO.none _
      | refine LeO.ite ?_ ?_
      | refine LeO.bind ?_ (fun _ => ?_)
theorem code_choose.mono : ∀ a0 a1 k, LeO (code_choose.f k a0 a1) (code_choose.f (k + 1) a0 a1) := by
  intro a0 a1 k
  obtain ⟨ih0, ih1⟩ := code_choose.mono_l k
  unfold code_choose.f
  repeat' first
      | (with_reducible exact ih0 _ _ _)
      | (with_reducible exact ih1 _ _ _ _)
      | (with_reducible exact LeO.refl _)
      | (with_reducible exact LeO.none _)
      | (with_reducible refine LeO.ite ?_ ?_)
      | (with_reducible refine LeO.bind ?_ (fun _ => ?_))
      | exact ih0 _ _ _
      | exact ih1 _ _ _ _
      | exact LeO.none _
      | refine LeO.ite ?_ ?_
      | refine LeO.bind ?_ (fun _ => ?_)
set_option maxHeartbeats 8000000 in
set_option maxRecDepth 100000 in
theorem code_choose.calls (k : Nat) (a0 : Int) (a1 : Int) (r : Int) (w : World) (h : code_choose.f k a0 a1 = some r) :
    Calls Try.prog 46 #[.int .i64 a0, .int .i64 a1] w fun e w' => e = .returned (.int .i64 r) ∧ Drawn0 w w' := by
  have H : (if a1 < 0 then (code_choose.j0 k a0 a1 true) else (code_choose.j0 k a0 a1 (decide (a1 > a0)))) = some r := h
  clear h
  have HC3 := Aside0.mk H
  clear H
  go_enter Try.func46, Try.ntmps46
  go_upto_region 1 with (fail)
  go_cut [13] (fun v13 wc => ∃ (kq : Nat) (x13_2 : Bool), v13 = .bool x13_2 ∧ Aside0 (code_choose.j0 kq a0 a1 x13_2 = some r) ∧ Aside0 (kq ≤ k) ∧ Drawn0 w wc)
  case first =>
    have H := HC3.out
    clear HC3
    by_cases c4 : a1 < 0
    · rw [if_pos c4] at H
      have c4b0 : decide (a1 < 0) = true := decide_eq_true c4
      clear c4
      (first | rw [c4b0] | (simp only [i64_w, i32_w]; rw [c4b0]) | skip)
      have H' := Aside0.mk H
      clear H
      go_wp2
      go_meet
      case rel => exact ⟨_, (true), (by first | rfl | (simp; done) | (simp [*]; done)), H', ⟨by first | omega | exact Nat.le_refl _⟩, by repeat (first | exact Drawn0.refl _ | apply Drawn0.step)⟩
    · rw [if_neg c4] at H
      have c4b0 : decide (a1 < 0) = false := decide_eq_false c4
      clear c4
      (first | rw [c4b0] | (simp only [i64_w, i32_w]; rw [c4b0]) | skip)
      have H' := Aside0.mk H
      clear H
      go_wp2
      go_meet
      case rel => exact ⟨_, (decide (a1 > a0)), (by first | rfl | (simp; done) | (simp [*]; done)), H', ⟨by first | omega | exact Nat.le_refl _⟩, by repeat (first | exact Drawn0.refl _ | apply Drawn0.step)⟩
  case rest =>
    clear HC3
    try clear p2
    try clear c4
    try clear c4b0
    obtain ⟨kq, x13_2, rfl, HA, HJ2, ⟨mc2, rfl⟩⟩ := hcut
    cases kq with
    | zero => exact absurd HA.out (by simp [code_choose.j0])
    | succ kj2 =>
      have H := HA.out
      clear HA
      simp only [code_choose.j0] at H
      by_cases c5 : x13_2 = true
      · subst c5
        have H1 : (some 0) = some r := by rw [if_pos rfl] at H; exact H
        clear H
        have H := H1
        clear H1
        obtain rfl := Option.some.inj H
        go_wp2
        go_ret
        exact ⟨by first | rfl | (simp; done) | (simp [*]; done), by repeat (first | exact Drawn0.refl _ | apply Drawn0.step)⟩
      · replace c5 := Bool.eq_false_iff.mpr c5
        subst c5
        have H1 : (code_choose.l0 kj2 a0 1 a1 0) = some r := by rw [if_neg (show ¬ (false = true) by decide)] at H; exact H
        clear H
        have H := H1
        clear H1
        have H' := Aside0.mk H
        clear H
        go_wp2
        go_loopg [5, 15] kj2 (fun kq v5 v15 w' => ∃ (x5_2 : Int) (x15_2 : Int), v5 = .int .i64 x5_2 ∧ v15 = .int .i64 x15_2 ∧ Aside0 (code_choose.l0 kq a0 x5_2 a1 x15_2 = some r) ∧ Aside0 (kq ≤ kj2) ∧ Drawn0 w w')
        case atStart => exact ⟨(1), (0), (by first | rfl | (simp; done) | (simp [*]; done)), (by first | rfl | (simp; done) | (simp [*]; done)), H', ⟨Nat.le_refl _⟩, by repeat (first | exact Drawn0.refl _ | apply Drawn0.step)⟩
        case round =>
          clear H'
          try clear c2
          try clear p2
          try clear c4
          try clear c4b0
          try clear c5
          try clear p2
          obtain ⟨x5_2, x15_2, rfl, rfl, HA, HK2, ⟨m2, rfl⟩⟩ := hrel
          cases gk with
          | zero => exact absurd HA.out (by simp [code_choose.l0])
          | succ k2 =>
            have H := HA.out
            clear HA
            simp only [code_choose.l0] at H
            by_cases c6 : x15_2 < a1
            · rw [if_pos c6] at H
              have c6b0 : decide (x15_2 < a1) = true := decide_eq_true c6
              clear c6
              by_cases c7 : (wrap64 (x15_2 + 1)) = 0
              · rw [if_pos c7] at H
                exact absurd H (by simp)
              · rw [if_neg c7] at H
                have c7b0 : ((wrap64 (x15_2 + 1)) == 0) = false := beq_eq_false_iff_ne.mpr c7
                have c7b1 : ((wrap64 (x15_2 + 1)) != 0) = true := bne_iff_ne.mpr c7
                have H' := Aside0.mk H
                clear H
                go_wp2
                go_roundg k2
                case measure => have := HJ2.out; have := HK2.out; omega
                case rel => exact ⟨(wrap64 (Int.tdiv (wrap64 (x5_2 * (wrap64 (a0 - x15_2)))) (wrap64 (x15_2 + 1)))), (wrap64 (x15_2 + 1)), (by first | rfl | (simp; done) | (simp [*]; done)), (by first | rfl | (simp; done) | (simp [*]; done)), H', ⟨by have := HJ2.out; have := HK2.out; omega⟩, by repeat (first | exact Drawn0.refl _ | apply Drawn0.step)⟩
            · rw [if_neg c6] at H
              have c6b0 : decide (x15_2 < a1) = false := decide_eq_false c6
              clear c6
              obtain rfl := Option.some.inj H
              go_wp2
              go_ret
              exact ⟨by first | rfl | (simp; done) | (simp [*]; done), by repeat (first | exact Drawn0.refl _ | apply Drawn0.step)⟩

end Go.Proofs.Ytgchhheajngbfaa.P

namespace Go.Proofs.Ytgchhheajngbfaa.P
open Go.RowKit Go.Proofs.YtgchhheajngbfaaW.PrintWords Go.Proofs.YtgchhheajngbfaaW.PrintLast Go.Proofs.YtgchhheajngbfaaW.PrintMore
attribute [local go_sem] max2_int min2_int max_two min_two max_three min_three max_four min_four   -- for this text's walks alone
set_option linter.unusedVariables false
set_option linter.unusedSimpArgs false

/-! ### code_Cascade: function 15 -/
mutual
def code_Cascade.j0 : Nat → Int → Int → Bool → Option (List Int × Int × Int)
  | 0, _, _, _ => none
  | k + 1, x0, x1, x24 => if x24 = true then (some (([] : List Int), 0, 2)) else (code_Cascade.l0 k x0 ([] : List Int) 0 x1)
def code_Cascade.l0 : Nat → Int → List Int → Int → Int → Option (List Int × Int × Int)
  | 0, _, _, _, _ => none
  | k + 1, x0, x7, x8, x9 => if x0 > 0 then (code_Cascade.l1 k x0 x7 x8 x9 x9) else (some (x7, x8, 0))
def code_Cascade.l1 : Nat → Int → List Int → Int → Int → Int → Option (List Int × Int × Int)
  | 0, _, _, _, _, _ => none
  | k + 1, x0, x7, x8, x9, x10 => (code_choose.f k (wrap64 (x10 + 1)) x9).bind fun t101 => (if t101 ≤ x0 then (code_Cascade.l1 k x0 x7 x8 x9 (wrap64 (x10 + 1))) else (if x7.length < 17592186044416 then ((code_choose.f k x10 x9).bind fun t105 => ((code_choose.f k x10 (wrap64 (x9 - 1))).bind fun t106 => (code_Cascade.l0 k (wrap64 (x0 - t105)) (x7 ++ [x10]) (wrap64 (x8 + t106)) (wrap64 (x9 - 1))))) else (none)))
end
def code_Cascade.f (k : Nat) (a0 : Int) (a1 : Int) : Option (List Int × Int × Int) := if a0 < 1 then (code_Cascade.j0 k a0 a1 true) else (if a0 > 100000 then (code_Cascade.j0 k a0 a1 true) else (if a1 < 1 then (code_Cascade.j0 k a0 a1 true) else (code_Cascade.j0 k a0 a1 (decide (a1 > 12)))))
theorem code_Cascade.mono_l : ∀ k, (∀ y0 y1 y2, LeO (code_Cascade.j0 k y0 y1 y2) (code_Cascade.j0 (k + 1) y0 y1 y2)) ∧ (∀ y0 y1 y2 y3, LeO (code_Cascade.l0 k y0 y1 y2 y3) (code_Cascade.l0 (k + 1) y0 y1 y2 y3)) ∧ (∀ y0 y1 y2 y3 y4, LeO (code_Cascade.l1 k y0 y1 y2 y3 y4) (code_Cascade.l1 (k + 1) y0 y1 y2 y3 y4))
  | 0 => ⟨fun _ _ _ r h => by simp [code_Cascade.j0] at h, fun _ _ _ _ r h => by simp [code_Cascade.l0] at h, fun _ _ _ _ _ r h => by simp [code_Cascade.l1] at h⟩
  | k + 1 => by
    obtain ⟨ih0, ih1, ih2⟩ := code_Cascade.mono_l k
    refine ⟨?_, ?_, ?_⟩
    · intro y0 y1 y2
      unfold code_Cascade.j0
      repeat' first
      | (with_reducible exact ih0 _ _ _)
      | (with_reducible exact ih1 _ _ _ _)
      | (with_reducible exact ih2 _ _ _ _ _)
      | (with_reducible exact code_choose.mono _ _ _)
      | (with_reducible exact LeO.refl _)
      | (with_reducible exact LeO.none _)
      | (with_reducible refine LeO.ite ?_ ?_)
      | (with_reducible refine LeO.bind ?_ (fun _ => ?_))
      | exact ih0 _ _ _
      | exact ih1 _ _ _ _
      | exact ih2 _ _ _ _ _
      | exact code_choose.mono _ _ _
      | exact LeO.none _
      | refine LeO.ite ?_ ?_
      | refine LeO.bind ?_ (fun _ => ?_)
    · intro y0 y1 y2 y3
      unfold code_Cascade.l0
      repeat' first
      | (with_reducible exact ih0 _ _ _)
      | (with_reducible exact ih1 _ _ _ _)
      | (with_reducible exact ih2 _ _ _ _ _)
      | (with_reducible exact code_choose.mono _ _ _)
      | (with_reducible exact LeO.refl _)
      | (with_reducible exact LeO.none _)
      | (with_reducible refine LeO.ite ?_ ?_)
      | (with_reducible refine LeO.bind ?_ (fun _ => ?_))
      | exact ih0 _ _ _
      | exact ih1 _ _ _ _
      | exact ih2 _ _ _ _ _
      | exact code_choose.mono _ _ _
      | exact LeO.none _
      | refine LeO.ite ?_ ?_
      | refine LeO.bind ?_ (fun _ => ?_)
    · intro y0 y1 y2 y3 y4
      unfold code_Cascade.l1
      repeat' first
      | (with_reducible exact ih0 _ _ _)
      | (with_reducible exact ih1 _ _ _ _)
      | (with_reducible exact ih2 _ _ _ _ _)
      | (with_reducible exact code_choose.mono _ _ _)
      | (with_reducible exact LeO.refl _)
      | (with_reducible exact LeO.none _)
      | (with_reducible refine LeO.ite ?_ ?_)
      | (with_reducible refine LeO.bind ?_ (fun _ => ?_))
      | exact ih0 _ _ _
      | exact ih1 _ _ _ _
      | exact ih2 _ _ _ _ _
      | exact code_choose.mono _ _ _
      | exact LeO.none _
      | refine LeO.ite ?_ ?_
      | refine LeO.bind ?_ (fun _ => ?_)
theorem code_Cascade.mono : ∀ a0 a1 k, LeO (code_Cascade.f k a0 a1) (code_Cascade.f (k + 1) a0 a1) := by
  intro a0 a1 k
  obtain ⟨ih0, ih1, ih2⟩ := code_Cascade.mono_l k
  unfold code_Cascade.f
  repeat' first
      | (with_reducible exact ih0 _ _ _)
      | (with_reducible exact ih1 _ _ _ _)
      | (with_reducible exact ih2 _ _ _ _ _)
      | (with_reducible exact code_choose.mono _ _ _)
      | (with_reducible exact LeO.refl _)
      | (with_reducible exact LeO.none _)
      | (with_reducible refine LeO.ite ?_ ?_)
      | (with_reducible refine LeO.bind ?_ (fun _ => ?_))
      | exact ih0 _ _ _
      | exact ih1 _ _ _ _
      | exact ih2 _ _ _ _ _
      | exact code_choose.mono _ _ _
      | exact LeO.none _
      | refine LeO.ite ?_ ?_
      | refine LeO.bind ?_ (fun _ => ?_)
set_option maxHeartbeats 8000000 in
set_option maxRecDepth 100000 in
theorem code_Cascade.calls (k : Nat) (a0 : Int) (a1 : Int) (r1 : List Int) (r2 : Int) (r3 : Int) (w : World) (h : code_Cascade.f k a0 a1 = some (r1, r2, r3)) :
    Calls Try.prog 15 #[.int .i64 a0, .int .i64 a1] w fun e w' => ∃ v0_ : Value, e = .returned (.tuple #[v0_, .int .i64 r2, .int .i64 r3]) ∧ Kd.R (Kd.int .i64) 3 w' w.heap.size (fun _ => True) v0_ r1 ∧ Below w.heap.size w w' := by
  have HB := Aside0.mk (Below.refl w.heap.size w)
  have H : (if a0 < 1 then (code_Cascade.j0 k a0 a1 true) else (if a0 > 100000 then (code_Cascade.j0 k a0 a1 true) else (if a1 < 1 then (code_Cascade.j0 k a0 a1 true) else (code_Cascade.j0 k a0 a1 (decide (a1 > 12)))))) = some (r1, r2, r3) := h
  clear h
  have HC3 := Aside0.mk H
  clear H
  go_enter Try.func15, Try.ntmps15
  go_upto_region 1 with (fail)
  go_cut [24] (fun v24 wc => ∃ (kq : Nat) (x24_2 : Bool), v24 = .bool x24_2 ∧ Aside0 (code_Cascade.j0 kq a0 a1 x24_2 = some (r1, r2, r3)) ∧ Aside0 (kq ≤ k) ∧ Aside0 (Below w.heap.size w wc))
  case first =>
    have H := HC3.out
    clear HC3
    by_cases c4 : a0 < 1
    · rw [if_pos c4] at H
      have c4b0 : decide (a0 < 1) = true := decide_eq_true c4
      clear c4
      (first | rw [c4b0] | (simp only [i64_w, i32_w]; rw [c4b0]) | skip)
      have H' := Aside0.mk H
      clear H
      go_wp2
      go_meet
      case rel => exact ⟨_, (true), (by first | rfl | (simp; done) | (simp [*]; done)), H', ⟨by first | omega | exact Nat.le_refl _⟩, ⟨by repeat (first | (with_reducible first | exact HB.out | apply below_alloc | apply pw_below_drewN | apply below_drew1) | exact HB.out)⟩⟩
    · rw [if_neg c4] at H
      have c4b0 : decide (a0 < 1) = false := decide_eq_false c4
      clear c4
      (first | rw [c4b0] | (simp only [i64_w, i32_w]; rw [c4b0]) | skip)
      by_cases c5 : a0 > 100000
      · rw [if_pos c5] at H
        have c5b0 : decide (100000 < a0) = true := decide_eq_true c5
        clear c5
        have H' := Aside0.mk H
        clear H
        go_wp2
        go_meet
        case rel => exact ⟨_, (true), (by first | rfl | (simp; done) | (simp [*]; done)), H', ⟨by first | omega | exact Nat.le_refl _⟩, ⟨by repeat (first | (with_reducible first | exact HB.out | apply below_alloc | apply pw_below_drewN | apply below_drew1) | exact HB.out)⟩⟩
      · rw [if_neg c5] at H
        have c5b0 : decide (100000 < a0) = false := decide_eq_false c5
        clear c5
        by_cases c6 : a1 < 1
        · rw [if_pos c6] at H
          have c6b0 : decide (a1 < 1) = true := decide_eq_true c6
          clear c6
          have H' := Aside0.mk H
          clear H
          go_wp2
          go_meet
          case rel => exact ⟨_, (true), (by first | rfl | (simp; done) | (simp [*]; done)), H', ⟨by first | omega | exact Nat.le_refl _⟩, ⟨by repeat (first | (with_reducible first | exact HB.out | apply below_alloc | apply pw_below_drewN | apply below_drew1) | exact HB.out)⟩⟩
        · rw [if_neg c6] at H
          have c6b0 : decide (a1 < 1) = false := decide_eq_false c6
          clear c6
          have H' := Aside0.mk H
          clear H
          go_wp2
          go_meet
          case rel => exact ⟨_, (decide (a1 > 12)), (by first | rfl | (simp; done) | (simp [*]; done)), H', ⟨by first | omega | exact Nat.le_refl _⟩, ⟨by repeat (first | (with_reducible first | exact HB.out | apply below_alloc | apply pw_below_drewN | apply below_drew1) | exact HB.out)⟩⟩
  case rest =>
    clear HC3
    try clear c1
    try clear p2
    try clear c4
    try clear c4b0
    try clear c5
    try clear c5b0
    try clear c6
    try clear c6b0
    obtain ⟨kq, x24_2, rfl, HA, HJ2, HB⟩ := hcut
    cases kq with
    | zero => exact absurd HA.out (by simp [code_Cascade.j0])
    | succ kj2 =>
      have H := HA.out
      clear HA
      simp only [code_Cascade.j0] at H
      by_cases c7 : x24_2 = true
      · subst c7
        have H1 : (some (([] : List Int), 0, 2)) = some (r1, r2, r3) := by rw [if_pos rfl] at H; exact H
        clear H
        have H := H1
        clear H1
        simp only [Option.some.injEq, Prod.mk.injEq] at H
        obtain ⟨rfl, rfl, rfl⟩ := H
        go_wp2
        go_ret3
        exact ⟨_, by first | rfl | (simp [errW_none, errW_some] <;> rfl) | (simp [*, errW_none, errW_some] <;> rfl), by first | exact Kd.R_nil _ _ _ _ _ | exact Kd.N_nil _ _ _ _ _ | exact Kd.V_nil _ _ _ _ _ | exact Kd.Q_nil _ _ _ _ _ | exact Kd.S_nil _ _ _ _ _, by repeat (first | (with_reducible first | exact HB.out | apply below_alloc | apply pw_below_drewN | apply below_drew1) | exact HB.out)⟩
      · replace c7 := Bool.eq_false_iff.mpr c7
        subst c7
        have H1 : (code_Cascade.l0 kj2 a0 ([] : List Int) 0 a1) = some (r1, r2, r3) := by rw [if_neg (show ¬ (false = true) by decide)] at H; exact H
        clear H
        have H := H1
        clear H1
        have H' := Aside0.mk H
        clear H
        go_wp2
        go_loopg [0, 7, 8, 9] kj2 (fun kq v0 v7 v8 v9 w' => ∃ (x0_2 : Int) (x7_2 : List Int) (x8_2 : Int) (x9_2 : Int), v0 = .int .i64 x0_2 ∧ v8 = .int .i64 x8_2 ∧ v9 = .int .i64 x9_2 ∧ Aside0 (code_Cascade.l0 kq x0_2 x7_2 x8_2 x9_2 = some (r1, r2, r3)) ∧ Aside0 (kq ≤ kj2) ∧ Aside0 (Kd.R (Kd.int .i64) 3 w' w.heap.size (fun _ => True) v7 x7_2) ∧ Aside0 (Below w.heap.size w w'))
        case atStart => exact ⟨(a0), (([] : List Int)), (0), (a1), (by first | rfl | (simp; done) | (simp [*]; done)), (by first | rfl | (simp; done) | (simp [*]; done)), (by first | rfl | (simp; done) | (simp [*]; done)), H', ⟨Nat.le_refl _⟩, ⟨by first | exact Kd.R_nil _ _ _ _ _ | exact Kd.N_nil _ _ _ _ _ | exact Kd.V_nil _ _ _ _ _ | exact Kd.Q_nil _ _ _ _ _ | exact Kd.S_nil _ _ _ _ _⟩, ⟨by repeat (first | (with_reducible first | exact HB.out | apply below_alloc | apply pw_below_drewN | apply below_drew1) | exact HB.out)⟩⟩
        case round =>
          clear H'
          try clear c1
          try clear p2
          try clear c4
          try clear c4b0
          try clear c5
          try clear c5b0
          try clear c6
          try clear c6b0
          try clear c7
          try clear p2
          obtain ⟨x0_2, x7_2, x8_2, x9_2, rfl, rfl, rfl, HA, HK2, HO_7, HB⟩ := hrel
          cases gk with
          | zero => exact absurd HA.out (by simp [code_Cascade.l0])
          | succ k2 =>
            have H := HA.out
            clear HA
            simp only [code_Cascade.l0] at H
            by_cases c8 : x0_2 > 0
            · rw [if_pos c8] at H
              have c8b0 : decide (0 < x0_2) = true := decide_eq_true c8
              clear c8
              have H' := Aside0.mk H
              clear H
              go_wp2
              go_loopg [10] k2 (fun kq v10 w' => ∃ (x10_3 : Int), v10 = .int .i64 x10_3 ∧ Aside0 (code_Cascade.l1 kq x0_2 x7_2 x8_2 x9_2 x10_3 = some (r1, r2, r3)) ∧ Aside0 (kq ≤ k2) ∧ Aside0 (Kd.R (Kd.int .i64) 3 w' w.heap.size (fun _ => True) u7 x7_2) ∧ Aside0 (Below w.heap.size w w'))
              case atStart => exact ⟨(x9_2), (by first | rfl | (simp; done) | (simp [*]; done)), H', ⟨Nat.le_refl _⟩, ⟨by (with_reducible repeat (first | apply Kd.R_alloc | apply Kd.R_drewN | apply Kd.R_drew)); first | exact HO_7.out | exact Kd.R_mono HO_7.out (fun k_ h_ => ne_own_len h_)⟩, ⟨by repeat (first | (with_reducible first | exact HB.out | apply below_alloc | apply pw_below_drewN | apply below_drew1) | exact HB.out)⟩⟩
              case round =>
                clear H'
                try clear c1
                try clear p2
                try clear c4
                try clear c4b0
                try clear c5
                try clear c5b0
                try clear c6
                try clear c6b0
                try clear c7
                try clear c8
                try clear c8b0
                try clear p2
                obtain ⟨x10_3, rfl, HA, HK3, HO_7, HB⟩ := hrel
                cases gk with
                | zero => exact absurd HA.out (by simp [code_Cascade.l1])
                | succ k3 =>
                  have H := HA.out
                  clear HA
                  simp only [code_Cascade.l1] at H
                  replace H := Option.bind_eq_some_iff.mp H
                  obtain ⟨t101, A90, H⟩ := H
                  replace H : (if t101 ≤ x0_2 then (code_Cascade.l1 k3 x0_2 x7_2 x8_2 x9_2 (wrap64 (x10_3 + 1))) else (if x7_2.length < 17592186044416 then ((code_choose.f k3 x10_3 x9_2).bind fun t105 => ((code_choose.f k3 x10_3 (wrap64 (x9_2 - 1))).bind fun t106 => (code_Cascade.l0 k3 (wrap64 (x0_2 - t105)) (x7_2 ++ [x10_3]) (wrap64 (x8_2 + t106)) (wrap64 (x9_2 - 1))))) else (none))) = some (r1, r2, r3) := H
                  have A9 := Aside0.mk A90
                  clear A90
                  by_cases c10 : t101 ≤ x0_2
                  · rw [if_pos c10] at H
                    have c10b0 : decide (t101 ≤ x0_2) = true := decide_eq_true c10
                    clear c10
                    have H' := Aside0.mk H
                    clear H
                    go_wp2_with (first | ((with_reducible refine gate_callee (f := 46) rfl ?_); refine goesL_ (some 34) rfl rfl Try.func46 (by kernel_rfl) rfl #[.int .i64 (wrap64 (x10_3 + 1)), .int .i64 x9_2] rfl (by (try simp only [List.map_toArray, List.map_cons, List.map_nil]); first | done | rfl | (simp only [List.length_drop, List.length_take]; rfl)) ?_; (with_reducible refine (code_choose.calls k3 (wrap64 (x10_3 + 1)) x9_2 t101 _ A9.out).mono ?_); rintro e w' ⟨rfl, ⟨nd, rfl⟩⟩; refine ⟨_, rfl, ?_⟩))
                    go_roundg k3
                    case measure => have := HJ2.out; have := HK2.out; have := HK3.out; omega
                    case rel => exact ⟨(wrap64 (x10_3 + 1)), (by first | rfl | (simp; done) | (simp [*]; done)), H', ⟨by have := HJ2.out; have := HK2.out; have := HK3.out; omega⟩, ⟨by (with_reducible repeat (first | apply Kd.R_alloc | apply Kd.R_drewN | apply Kd.R_drew)); first | exact HO_7.out | exact Kd.R_mono HO_7.out (fun k_ h_ => ne_own_len h_)⟩, ⟨by repeat (first | (with_reducible first | exact HB.out | apply below_alloc | apply pw_below_drewN | apply below_drew1) | exact HB.out)⟩⟩
                  · rw [if_neg c10] at H
                    have c10b0 : decide (t101 ≤ x0_2) = false := decide_eq_false c10
                    clear c10
                    by_cases c11 : x7_2.length < 17592186044416
                    · rw [if_pos c11] at H
                      have LMc11 := Aside0.mk c11
                      clear c11
                      obtain ⟨y102, hy102⟩ : ∃ y_ : List Int, y_ = (x7_2 ++ [x10_3]) := ⟨_, rfl⟩
                      replace H : ((code_choose.f k3 x10_3 x9_2).bind fun t105 => ((code_choose.f k3 x10_3 (wrap64 (x9_2 - 1))).bind fun t106 => (code_Cascade.l0 k3 (wrap64 (x0_2 - t105)) y102 (wrap64 (x8_2 + t106)) (wrap64 (x9_2 - 1))))) = some (r1, r2, r3) := by first | (rw [hy102]; with_reducible exact H) | (have H2_ := (Option.bind_some _ _).symm.trans H; rw [hy102]; with_reducible exact H2_) | (have H2_ := (Option.bind_some _ _).symm.trans H; with_reducible exact H2_) | with_reducible exact H | (rw [hy102]; exact H) | exact H
                      have Ny102 := Aside0.mk hy102
                      clear hy102
                      replace H := Option.bind_eq_some_iff.mp H
                      obtain ⟨t105, A120, H⟩ := H
                      replace H : ((code_choose.f k3 x10_3 (wrap64 (x9_2 - 1))).bind fun t106 => (code_Cascade.l0 k3 (wrap64 (x0_2 - t105)) y102 (wrap64 (x8_2 + t106)) (wrap64 (x9_2 - 1)))) = some (r1, r2, r3) := H
                      have A12 := Aside0.mk A120
                      clear A120
                      replace H := Option.bind_eq_some_iff.mp H
                      obtain ⟨t106, A130, H⟩ := H
                      replace H : (code_Cascade.l0 k3 (wrap64 (x0_2 - t105)) y102 (wrap64 (x8_2 + t106)) (wrap64 (x9_2 - 1))) = some (r1, r2, r3) := H
                      have A13 := Aside0.mk A130
                      clear A130
                      have H' := Aside0.mk H
                      clear H
                      go_wp2_with (first | ((with_reducible refine gate_callee (f := 46) rfl ?_); refine goesL_ (some 34) rfl rfl Try.func46 (by kernel_rfl) rfl #[.int .i64 (wrap64 (x10_3 + 1)), .int .i64 x9_2] rfl (by (try simp only [List.map_toArray, List.map_cons, List.map_nil]); first | done | rfl | (simp only [List.length_drop, List.length_take]; rfl)) ?_; (with_reducible refine (code_choose.calls k3 (wrap64 (x10_3 + 1)) x9_2 t101 _ A9.out).mono ?_); rintro e w' ⟨rfl, ⟨nd, rfl⟩⟩; refine ⟨_, rfl, ?_⟩) | ((with_reducible refine gate_builtin (b := .append) (xs := #[.tmp 39, .tmp 41]) rfl ?_); at_builtin; refine Kd.R_append (Kd.int .i64) (w0 := w) w.heap.size rfl (.tmp 39) (.tmp 41) 22 3 (.int .i64 0) 8 rfl Try.underlying22 info3 rfl (by decide) (by omega) u7 x7_2 x10_3 [.int .i64 x10_3] (fun _ => True) (fun _ => False) rfl rfl ?aP (fun _ hk => hk.elim) ?aF ?aO ?aB ?aS ?aL ?_; (case aP => exact rfl); (case aB => exact (by repeat (first | (with_reducible first | exact HB.out | apply below_alloc | apply pw_below_drewN | apply below_drew1) | exact HB.out))); (case aF => exact (fun _ _ => trivial)); (case aO => exact (by (with_reducible repeat (first | apply Kd.R_alloc | apply Kd.R_drewN | apply Kd.R_drew)); exact HO_7.out)); (case aS => exact (below_size (by repeat (first | (with_reducible first | exact HB.out | apply below_alloc | apply pw_below_drewN | apply below_drew1) | exact HB.out)))); (case aL => have := LMc11.out; omega); intro v103 w14 ho hb hg hat; rw [← Ny102.out] at ho; have n0_ := Aside0.mk (hb); have n1_ := Aside0.mk (ho); clear HB; clear HO_7; have HB := n0_; have HO104 := n1_; clear n0_ n1_; clear ho hb hg hat) | ((with_reducible refine gate_callee (f := 46) rfl ?_); refine goesL_ (some 46) rfl rfl Try.func46 (by kernel_rfl) rfl #[.int .i64 x10_3, .int .i64 x9_2] rfl (by (try simp only [List.map_toArray, List.map_cons, List.map_nil]); first | done | rfl | (simp only [List.length_drop, List.length_take]; rfl)) ?_; (with_reducible refine (code_choose.calls k3 x10_3 x9_2 t105 _ A12.out).mono ?_); rintro e w' ⟨rfl, ⟨nd, rfl⟩⟩; refine ⟨_, rfl, ?_⟩) | ((with_reducible refine gate_callee (f := 46) rfl ?_); refine goesL_ (some 52) rfl rfl Try.func46 (by kernel_rfl) rfl #[.int .i64 x10_3, .int .i64 (wrap64 (x9_2 - 1))] rfl (by (try simp only [List.map_toArray, List.map_cons, List.map_nil]); first | done | rfl | (simp only [List.length_drop, List.length_take]; rfl)) ?_; (with_reducible refine (code_choose.calls k3 x10_3 (wrap64 (x9_2 - 1)) t106 _ A13.out).mono ?_); rintro e w' ⟨rfl, ⟨nd, rfl⟩⟩; refine ⟨_, rfl, ?_⟩))
                      go_roundg k3
                      case measure => have := HJ2.out; have := HK2.out; have := HK3.out; omega
                      case rel => exact ⟨(wrap64 (x0_2 - t105)), (y102), (wrap64 (x8_2 + t106)), (wrap64 (x9_2 - 1)), (by first | rfl | (simp; done) | (simp [*]; done)), (by first | rfl | (simp; done) | (simp [*]; done)), (by first | rfl | (simp; done) | (simp [*]; done)), H', ⟨by have := HJ2.out; have := HK2.out; have := HK3.out; omega⟩, ⟨by (with_reducible repeat (first | apply Kd.R_alloc | apply Kd.R_drewN | apply Kd.R_drew)); first | exact HO104.out | exact Kd.R_mono HO104.out (fun k_ h_ => ne_own_len h_)⟩, ⟨by repeat (first | (with_reducible first | exact HB.out | apply below_alloc | apply pw_below_drewN | apply below_drew1) | exact HB.out)⟩⟩
                    · rw [if_neg c11] at H
                      exact absurd H (by simp)
            · rw [if_neg c8] at H
              have c8b0 : decide (0 < x0_2) = false := decide_eq_false c8
              clear c8
              simp only [Option.some.injEq, Prod.mk.injEq] at H
              obtain ⟨rfl, rfl, rfl⟩ := H
              go_wp2
              go_ret3
              exact ⟨_, by first | rfl | (simp [errW_none, errW_some] <;> rfl) | (simp [*, errW_none, errW_some] <;> rfl), by (with_reducible repeat (first | apply Kd.R_alloc | apply Kd.R_drewN | apply Kd.R_drew)); exact HO_7.out, by repeat (first | (with_reducible first | exact HB.out | apply below_alloc | apply pw_below_drewN | apply below_drew1) | exact HB.out)⟩

end Go.Proofs.Ytgchhheajngbfaa.P

namespace Go.Proofs.Ytgchhheajngbfaa.P
open Go.RowKit Go.Proofs.YtgchhheajngbfaaW.PrintWords Go.Proofs.YtgchhheajngbfaaW.PrintLast Go.Proofs.YtgchhheajngbfaaW.PrintMore
attribute [local go_sem] max2_int min2_int max_two min_two max_three min_three max_four min_four   -- for this text's walks alone
set_option linter.unusedVariables false
set_option linter.unusedSimpArgs false

/-! ### neonwrightlaw03_same: function 17 -/
def neonwrightlaw03_same.l0 : Nat → List Int → List Int → Int → Option (Bool)
  | 0, _, _, _ => none
  | k + 1, x0, x1, x5 => if x5 < (x0.length : Int) then (if 0 ≤ x5 then (if x5 < (x1.length : Int) then (if (rd x0 x5) = (rd x1 x5) then (neonwrightlaw03_same.l0 k x0 x1 (wrap64 (x5 + 1))) else (some false)) else (none)) else (none)) else (some true)
def neonwrightlaw03_same.f (k : Nat) (l0 : List Int) (l1 : List Int) : Option (Bool) := if (l0.length : Int) = (l1.length : Int) then (neonwrightlaw03_same.l0 k l0 l1 0) else (some false)
theorem neonwrightlaw03_same.mono_l : ∀ k, (∀ y0 y1 y2, LeO (neonwrightlaw03_same.l0 k y0 y1 y2) (neonwrightlaw03_same.l0 (k + 1) y0 y1 y2))
  | 0 => fun _ _ _ r h => by simp [neonwrightlaw03_same.l0] at h
  | k + 1 => by
    have ih0 := neonwrightlaw03_same.mono_l k
    · intro y0 y1 y2
      unfold neonwrightlaw03_same.l0
      repeat' first
      | (with_reducible exact ih0 _ _ _)
      | (with_reducible exact LeO.refl _)
      | (with_reducible exact LeO.none _)
      | (with_reducible refine LeO.ite ?_ ?_)
      | (with_reducible refine LeO.bind ?_ (fun _ => ?_))
      | exact ih0 _ _ _
      | exact LeO.none _
      | refine LeO.ite ?_ ?_
      | refine LeO.bind ?_ (fun _ => ?_)
theorem neonwrightlaw03_same.mono : ∀ a0 a1 k, LeO (neonwrightlaw03_same.f k a0 a1) (neonwrightlaw03_same.f (k + 1) a0 a1) := by
  intro a0 a1 k
  have ih0 := neonwrightlaw03_same.mono_l k
  unfold neonwrightlaw03_same.f
  repeat' first
      | (with_reducible exact ih0 _ _ _)
      | (with_reducible exact LeO.refl _)
      | (with_reducible exact LeO.none _)
      | (with_reducible refine LeO.ite ?_ ?_)
      | (with_reducible refine LeO.bind ?_ (fun _ => ?_))
      | exact ih0 _ _ _
      | exact LeO.none _
      | refine LeO.ite ?_ ?_
      | refine LeO.bind ?_ (fun _ => ?_)
set_option maxHeartbeats 8000000 in
set_option maxRecDepth 100000 in
theorem neonwrightlaw03_same.calls (k : Nat) (A0 : Option Addr) (c0 : Nat) (l0 : List Int) (A1 : Option Addr) (c1 : Nat) (l1 : List Int) (r : Bool) (w : World) (hr0 : Kd.C (Kd.int .i64) w A0 l0.length l0) (hc0 : l0.length ≤ c0) (hr1 : Kd.C (Kd.int .i64) w A1 l1.length l1) (hc1 : l1.length ≤ c1) (h : neonwrightlaw03_same.f k l0 l1 = some r) :
    Calls Try.prog 17 #[.slice A0 l0.length c0, .slice A1 l1.length c1] w fun e w' => e = .returned (.bool r) ∧ Drawn0 w w' := by
  have HR0 := Aside0.mk hr0
  have HC0 := Aside0.mk hc0
  clear hr0 hc0
  have HR1 := Aside0.mk hr1
  have HC1 := Aside0.mk hc1
  clear hr1 hc1
  have H : (if (l0.length : Int) = (l1.length : Int) then (neonwrightlaw03_same.l0 k l0 l1 0) else (some false)) = some r := h
  clear h
  by_cases c3 : (l0.length : Int) = (l1.length : Int)
  · rw [if_pos c3] at H
    have c3b0 : ((l0.length : Int) == (l1.length : Int)) = true := beq_iff_eq.mpr c3
    have c3b1 : ((l0.length : Int) != (l1.length : Int)) = false := bne_eq_false_iff_eq.mpr c3
    have c3b2 : (l0.length == l1.length) = true := by first | simpa using c3 | (simp at c3 ⊢; omega)
    clear c3
    have H' := Aside0.mk H
    clear H
    go_enter Try.func17, Try.ntmps17
    go_wp2
    repeat (go_quiet (fail); try go_wp2)
    go_loopg [5] k (fun kq v5 w' => ∃ (x5_1 : Int), v5 = .int .i64 x5_1 ∧ Aside0 (neonwrightlaw03_same.l0 kq l0 l1 x5_1 = some r) ∧ Aside0 (kq ≤ k) ∧ Drawn0 w w')
    case atStart => exact ⟨(0), (by first | rfl | (simp; done) | (simp [*]; done)), H', ⟨Nat.le_refl _⟩, by repeat (first | exact Drawn0.refl _ | apply Drawn0.step)⟩
    case round =>
      clear H'
      try clear c1
      try clear p2
      try clear c3
      try clear c3b0
      try clear c3b1
      try clear c3b2
      obtain ⟨x5_1, rfl, HA, HK1, ⟨m1, rfl⟩⟩ := hrel
      cases gk with
      | zero => exact absurd HA.out (by simp [neonwrightlaw03_same.l0])
      | succ k1 =>
        have H := HA.out
        clear HA
        simp only [neonwrightlaw03_same.l0] at H
        by_cases c4 : x5_1 < (l0.length : Int)
        · rw [if_pos c4] at H
          have c4b0 : decide (x5_1 < (l0.length : Int)) = true := decide_eq_true c4
          clear c4
          by_cases c5 : 0 ≤ x5_1
          · rw [if_pos c5] at H
            have c5b0 : decide (0 ≤ x5_1) = true := decide_eq_true c5
            clear c5
            by_cases c6 : x5_1 < (l1.length : Int)
            · rw [if_pos c6] at H
              have c6b0 : decide (x5_1 < (l1.length : Int)) = true := decide_eq_true c6
              clear c6
              by_cases c7 : (rd l0 x5_1) = (rd l1 x5_1)
              · rw [if_pos c7] at H
                have c7b0 : ((rd l0 x5_1) == (rd l1 x5_1)) = true := beq_iff_eq.mpr c7
                have c7b1 : ((rd l0 x5_1) != (rd l1 x5_1)) = false := bne_eq_false_iff_eq.mpr c7
                clear c7
                have H' := Aside0.mk H
                clear H
                have p113 : 0 ≤ (x5_1 : Int) := of_decide_eq_true (by first | (with_reducible assumption) | assumption)
                have q113 : x5_1 < (l0.length : Int) := of_decide_eq_true (by first | (with_reducible assumption) | assumption)
                obtain ⟨ad113, e113, hx113_0⟩ := Kd.at_int HR0.out x5_1 p113 q113
                cases e113
                replace p113 := eq_true p113
                replace q113 := eq_true q113
                have p114 : 0 ≤ (x5_1 : Int) := of_decide_eq_true (by first | (with_reducible assumption) | assumption)
                have q114 : x5_1 < (l1.length : Int) := of_decide_eq_true (by first | (with_reducible assumption) | assumption)
                obtain ⟨ad114, e114, hx114_0⟩ := Kd.at_int HR1.out x5_1 p114 q114
                cases e114
                replace p114 := eq_true p114
                replace q114 := eq_true q114
                go_wp2
                repeat (go_quiet (fail); try go_wp2)
                go_roundg k1
                case measure => have := HK1.out; omega
                case rel => exact ⟨(wrap64 (x5_1 + 1)), (by first | rfl | (simp; done) | (simp [*]; done)), H', ⟨by have := HK1.out; omega⟩, by repeat (first | exact Drawn0.refl _ | apply Drawn0.step)⟩
              · rw [if_neg c7] at H
                have c7b0 : ((rd l0 x5_1) == (rd l1 x5_1)) = false := beq_eq_false_iff_ne.mpr c7
                have c7b1 : ((rd l0 x5_1) != (rd l1 x5_1)) = true := bne_iff_ne.mpr c7
                obtain rfl := Option.some.inj H
                have p113 : 0 ≤ (x5_1 : Int) := of_decide_eq_true (by first | (with_reducible assumption) | assumption)
                have q113 : x5_1 < (l0.length : Int) := of_decide_eq_true (by first | (with_reducible assumption) | assumption)
                obtain ⟨ad113, e113, hx113_0⟩ := Kd.at_int HR0.out x5_1 p113 q113
                cases e113
                replace p113 := eq_true p113
                replace q113 := eq_true q113
                have p114 : 0 ≤ (x5_1 : Int) := of_decide_eq_true (by first | (with_reducible assumption) | assumption)
                have q114 : x5_1 < (l1.length : Int) := of_decide_eq_true (by first | (with_reducible assumption) | assumption)
                obtain ⟨ad114, e114, hx114_0⟩ := Kd.at_int HR1.out x5_1 p114 q114
                cases e114
                replace p114 := eq_true p114
                replace q114 := eq_true q114
                go_wp2
                repeat (go_quiet (fail); try go_wp2)
                go_ret
                exact ⟨by first | rfl | (simp; done) | (simp [*]; done), by repeat (first | exact Drawn0.refl _ | apply Drawn0.step)⟩
            · rw [if_neg c6] at H
              exact absurd H (by simp)
          · rw [if_neg c5] at H
            exact absurd H (by simp)
        · rw [if_neg c4] at H
          have c4b0 : decide (x5_1 < (l0.length : Int)) = false := decide_eq_false c4
          clear c4
          obtain rfl := Option.some.inj H
          go_wp2
          repeat (go_quiet (fail); try go_wp2)
          go_ret
          exact ⟨by first | rfl | (simp; done) | (simp [*]; done), by repeat (first | exact Drawn0.refl _ | apply Drawn0.step)⟩
  · rw [if_neg c3] at H
    have c3b0 : ((l0.length : Int) == (l1.length : Int)) = false := beq_eq_false_iff_ne.mpr c3
    have c3b1 : ((l0.length : Int) != (l1.length : Int)) = true := bne_iff_ne.mpr c3
    have c3b2 : (l0.length == l1.length) = false := by first | simpa using c3 | (simp at c3 ⊢; omega)
    obtain rfl := Option.some.inj H
    go_enter Try.func17, Try.ntmps17
    go_wp2
    repeat (go_quiet (fail); try go_wp2)
    go_ret
    exact ⟨by first | rfl | (simp; done) | (simp [*]; done), by repeat (first | exact Drawn0.refl _ | apply Drawn0.step)⟩

end Go.Proofs.Ytgchhheajngbfaa.P

namespace Go.Proofs.Ytgchhheajngbfaa.P
open Go.RowKit Go.Proofs.YtgchhheajngbfaaW.PrintWords Go.Proofs.YtgchhheajngbfaaW.PrintLast Go.Proofs.YtgchhheajngbfaaW.PrintMore
attribute [local go_sem] max2_int min2_int max_two min_two max_three min_three max_four min_four   -- for this text's walks alone
set_option linter.unusedVariables false
set_option linter.unusedSimpArgs false

/-! ### code_chain: function 57 -/
mutual
def code_chain.l0 : Nat → Int → List Int → List Int → Int → Int → Int → Option (List Int)
  | 0, _, _, _, _, _, _ => none
  | k + 1, x1, x5, x6, x7, x12, x13 => if x13 < x12 then (if 0 ≤ x13 then (if (Go.bits .and .i64 x1 (shl .i64 1 x13)) = 0 then (if x5.length < 17592186044416 then (code_chain.l0 k x1 (x5 ++ [x13]) x6 x7 x12 (wrap64 (x13 + 1))) else (none)) else (if (x5.length : Int) > 0 then (if 0 ≤ (wrap64 ((x5.length : Int) - 1)) then (if (wrap64 ((x5.length : Int) - 1)) ≤ (x5.length : Int) then (code_chain.l0 k x1 (x5.take ((wrap64 ((x5.length : Int) - 1)) : Int).toNat) x6 (Go.bits .or .i64 x7 (shl .i64 1 x13)) x12 (wrap64 (x13 + 1))) else (none)) else (none)) else (if x6.length < 17592186044416 then (code_chain.l0 k x1 x5 (x6 ++ [x13]) x7 x12 (wrap64 (x13 + 1))) else (none)))) else (none)) else (if x6.length + x5.length < 17592186044416 then ((some (x6 ++ x5 : List Int)).bind fun y128 => ((slices_Sort_int_int.f y128).bind fun t131 => (code_chain.l1 k x7 (([x7] : List Int)) t131 (y128.length : Int) 0))) else (none))
def code_chain.l1 : Nat → Int → List Int → List Int → Int → Int → Option (List Int)
  | 0, _, _, _, _, _ => none
  | k + 1, x7, x9, x51, x52, x53 => if x53 < x52 then (if 0 ≤ x53 then (if x53 < (x51.length : Int) then (if 0 ≤ (rd x51 x53) then (if x9.length < 17592186044416 then (code_chain.l1 k (Go.bits .or .i64 x7 (shl .i64 1 (rd x51 x53))) (x9 ++ [Go.bits .or .i64 x7 (shl .i64 1 (rd x51 x53))]) x51 x52 (wrap64 (x53 + 1))) else (none)) else (none)) else (none)) else (none)) else (some x9)
end
def code_chain.f (k : Nat) (a0 : Int) (a1 : Int) : Option (List Int) := code_chain.l0 k a1 ([] : List Int) ([] : List Int) 0 a0 0
theorem code_chain.mono_l : ∀ k, (∀ y0 y1 y2 y3 y4 y5, LeO (code_chain.l0 k y0 y1 y2 y3 y4 y5) (code_chain.l0 (k + 1) y0 y1 y2 y3 y4 y5)) ∧ (∀ y0 y1 y2 y3 y4, LeO (code_chain.l1 k y0 y1 y2 y3 y4) (code_chain.l1 (k + 1) y0 y1 y2 y3 y4))
  | 0 => ⟨fun _ _ _ _ _ _ r h => by simp [code_chain.l0] at h, fun _ _ _ _ _ r h => by simp [code_chain.l1] at h⟩
  | k + 1 => by
    obtain ⟨ih0, ih1⟩ := code_chain.mono_l k
    refine ⟨?_, ?_⟩
    · intro y0 y1 y2 y3 y4 y5
      unfold code_chain.l0
      repeat' first
      | (with_reducible exact ih0 _ _ _ _ _ _)
      | (with_reducible exact ih1 _ _ _ _ _)
      | (with_reducible exact LeO.refl _)
      | (with_reducible exact LeO.none _)
      | (with_reducible refine LeO.ite ?_ ?_)
      | (with_reducible refine LeO.bind ?_ (fun _ => ?_))
      | exact ih0 _ _ _ _ _ _
      | exact ih1 _ _ _ _ _
      | exact LeO.none _
      | refine LeO.ite ?_ ?_
      | refine LeO.bind ?_ (fun _ => ?_)
    · intro y0 y1 y2 y3 y4
      unfold code_chain.l1
      repeat' first
      | (with_reducible exact ih0 _ _ _ _ _ _)
      | (with_reducible exact ih1 _ _ _ _ _)
      | (with_reducible exact LeO.refl _)
      | (with_reducible exact LeO.none _)
      | (with_reducible refine LeO.ite ?_ ?_)
      | (with_reducible refine LeO.bind ?_ (fun _ => ?_))
      | exact ih0 _ _ _ _ _ _
      | exact ih1 _ _ _ _ _
      | exact LeO.none _
      | refine LeO.ite ?_ ?_
      | refine LeO.bind ?_ (fun _ => ?_)
theorem code_chain.mono : ∀ a0 a1 k, LeO (code_chain.f k a0 a1) (code_chain.f (k + 1) a0 a1) := by
  intro a0 a1 k
  obtain ⟨ih0, ih1⟩ := code_chain.mono_l k
  unfold code_chain.f
  repeat' first
      | (with_reducible exact ih0 _ _ _ _ _ _)
      | (with_reducible exact ih1 _ _ _ _ _)
      | (with_reducible exact LeO.refl _)
      | (with_reducible exact LeO.none _)
      | (with_reducible refine LeO.ite ?_ ?_)
      | (with_reducible refine LeO.bind ?_ (fun _ => ?_))
      | exact ih0 _ _ _ _ _ _
      | exact ih1 _ _ _ _ _
      | exact LeO.none _
      | refine LeO.ite ?_ ?_
      | refine LeO.bind ?_ (fun _ => ?_)
set_option maxHeartbeats 8000000 in
set_option maxRecDepth 100000 in
theorem code_chain.calls (k : Nat) (a0 : Int) (a1 : Int) (r : List Int) (w : World) (h : code_chain.f k a0 a1 = some r) :
    Calls Try.prog 57 #[.int .i64 a0, .int .i64 a1] w fun e w' => ∃ v0_ : Value, e = .returned (v0_) ∧ Kd.R (Kd.int .i64) 3 w' w.heap.size (fun _ => True) v0_ r ∧ Below w.heap.size w w' := by
  have HB := Aside0.mk (Below.refl w.heap.size w)
  have H : (code_chain.l0 k a1 ([] : List Int) ([] : List Int) 0 a0 0) = some r := h
  clear h
  have H' := Aside0.mk H
  clear H
  go_enter Try.func57, Try.ntmps57
  go_wp2
  go_loopg [5, 6, 7, 13] k (fun kq v5 v6 v7 v13 w' => ∃ (x5_1 : List Int) (x6_1 : List Int) (x7_1 : Int) (x13_1 : Int), v7 = .int .i64 x7_1 ∧ v13 = .int .i64 x13_1 ∧ Aside0 (code_chain.l0 kq a1 x5_1 x6_1 x7_1 a0 x13_1 = some r) ∧ Aside0 (kq ≤ k) ∧ Aside0 (Kd.R (Kd.int .i64) 3 w' w.heap.size (fun k_ => some k_ ≠ (v6 : Value).ownBlock) v5 x5_1) ∧ Aside0 (Kd.R (Kd.int .i64) 3 w' w.heap.size (fun k_ => some k_ ≠ (v5 : Value).ownBlock) v6 x6_1) ∧ Aside0 (Below w.heap.size w w'))
  case atStart => exact ⟨(([] : List Int)), (([] : List Int)), (0), (0), (by first | rfl | (simp; done) | (simp [*]; done)), (by first | rfl | (simp; done) | (simp [*]; done)), H', ⟨Nat.le_refl _⟩, ⟨by first | exact Kd.R_nil _ _ _ _ _ | exact Kd.N_nil _ _ _ _ _ | exact Kd.V_nil _ _ _ _ _ | exact Kd.Q_nil _ _ _ _ _ | exact Kd.S_nil _ _ _ _ _⟩, ⟨by first | exact Kd.R_nil _ _ _ _ _ | exact Kd.N_nil _ _ _ _ _ | exact Kd.V_nil _ _ _ _ _ | exact Kd.Q_nil _ _ _ _ _ | exact Kd.S_nil _ _ _ _ _⟩, ⟨by repeat (first | (with_reducible first | exact HB.out | apply below_alloc | apply pw_below_drewN | apply below_drew1) | exact HB.out)⟩⟩
  case round =>
    clear H'
    try clear p2
    obtain ⟨x5_1, x6_1, x7_1, x13_1, rfl, rfl, HA, HK1, HO_5, HO_6, HB⟩ := hrel
    cases gk with
    | zero => exact absurd HA.out (by simp [code_chain.l0])
    | succ k1 =>
      have H := HA.out
      clear HA
      simp only [code_chain.l0] at H
      by_cases c3 : x13_1 < a0
      · rw [if_pos c3] at H
        have c3b0 : decide (x13_1 < a0) = true := decide_eq_true c3
        clear c3
        by_cases c4 : 0 ≤ x13_1
        · rw [if_pos c4] at H
          have c4b0 := eq_true c4
          have c4b1 : decide (0 ≤ x13_1) = true := decide_eq_true c4
          clear c4
          obtain ⟨ji5, hji5⟩ : ∃ j_ : Int, (shl .i64 1 x13_1) = j_ := ⟨_, rfl⟩
          replace H : (if (Go.bits .and .i64 a1 (ji5)) = 0 then (if x5_1.length < 17592186044416 then (code_chain.l0 k1 a1 (x5_1 ++ [x13_1]) x6_1 x7_1 a0 (wrap64 (x13_1 + 1))) else (none)) else (if (x5_1.length : Int) > 0 then (if 0 ≤ (wrap64 ((x5_1.length : Int) - 1)) then (if (wrap64 ((x5_1.length : Int) - 1)) ≤ (x5_1.length : Int) then (code_chain.l0 k1 a1 (x5_1.take ((wrap64 ((x5_1.length : Int) - 1)) : Int).toNat) x6_1 (Go.bits .or .i64 x7_1 (ji5)) a0 (wrap64 (x13_1 + 1))) else (none)) else (none)) else (if x6_1.length < 17592186044416 then (code_chain.l0 k1 a1 x5_1 (x6_1 ++ [x13_1]) x7_1 a0 (wrap64 (x13_1 + 1))) else (none)))) = some r := by first | (rw [hji5] at H; exact H) | (simp only [hji5] at H ⊢; exact H)
          have hji5_ : (IntKind.i64.wrap (1 * 2 ^ min x13_1.toNat 64)) = ji5 := hji5
          have hji5z : x13_1 ≤ 64 → (IntKind.i64.wrap (1 * 2 ^ x13_1.toNat)) = ji5 := shl_small hji5
          have hji5u : (IntKind.i64.wrap (2 ^ min x13_1.toNat 64)) = ji5 := by have h_ := hji5_; rw [Int.one_mul] at h_; exact h_
          have hji5v : x13_1 ≤ 64 → (IntKind.i64.wrap (2 ^ x13_1.toNat)) = ji5 := fun hle_ => by have h_ := hji5z hle_; rw [Int.one_mul] at h_; exact h_
          have hji5y : (wrap64 (1 * 2 ^ min x13_1.toNat 64)) = ji5 := (i64_w _).symm.trans hji5_
          have hji5x : x13_1 ≤ 64 → (wrap64 (1 * 2 ^ x13_1.toNat)) = ji5 := fun h_ => (i64_w _).symm.trans (hji5z h_)
          by_cases c6 : (Go.bits .and .i64 a1 (ji5)) = 0
          · rw [if_pos c6] at H
            have c6b0 : ((Go.bits .and .i64 a1 (ji5)) == 0) = true := beq_iff_eq.mpr c6
            have c6b1 : ((Go.bits .and .i64 a1 (ji5)) != 0) = false := bne_eq_false_iff_eq.mpr c6
            clear c6
            by_cases c7 : x5_1.length < 17592186044416
            · rw [if_pos c7] at H
              have LMc7 := Aside0.mk c7
              clear c7
              obtain ⟨y119, hy119⟩ : ∃ y_ : List Int, y_ = (x5_1 ++ [x13_1]) := ⟨_, rfl⟩
              replace H : (code_chain.l0 k1 a1 y119 x6_1 x7_1 a0 (wrap64 (x13_1 + 1))) = some r := by first | (rw [hy119]; with_reducible exact H) | (have H2_ := (Option.bind_some _ _).symm.trans H; rw [hy119]; with_reducible exact H2_) | (have H2_ := (Option.bind_some _ _).symm.trans H; with_reducible exact H2_) | with_reducible exact H | (rw [hy119]; exact H) | exact H
              have Ny119 := Aside0.mk hy119
              clear hy119
              have H' := Aside0.mk H
              clear H
              go_wp2_with (first | ((with_reducible refine gate_builtin (b := .append) (xs := #[.tmp 26, .tmp 28]) rfl ?_); at_builtin; refine Kd.R_append (Kd.int .i64) (w0 := w) w.heap.size rfl (.tmp 26) (.tmp 28) 22 3 (.int .i64 0) 8 rfl Try.underlying22 info3 rfl (by decide) (by omega) u5 x5_1 x13_1 [.int .i64 x13_1] (fun k_ => some k_ ≠ (u6 : Value).ownBlock) (fun _ => False) rfl rfl ?aP (fun _ hk => hk.elim) ?aF ?aO ?aB ?aS ?aL ?_; (case aP => exact rfl); (case aB => exact (by repeat (first | (with_reducible first | exact HB.out | apply below_alloc | apply pw_below_drewN | apply below_drew1) | exact HB.out))); (case aF => exact (fun k_ hk => Kd.fresh' (Kd.R_lt (by (with_reducible repeat (first | apply Kd.R_alloc | apply Kd.R_drewN | apply Kd.R_drew)); exact HO_6.out)) k_ hk)); (case aO => exact (by (with_reducible repeat (first | apply Kd.R_alloc | apply Kd.R_drewN | apply Kd.R_drew)); exact HO_5.out)); (case aS => exact (below_size (by repeat (first | (with_reducible first | exact HB.out | apply below_alloc | apply pw_below_drewN | apply below_drew1) | exact HB.out)))); (case aL => have := LMc7.out; omega); intro v120 w8 ho hb hg hat; rw [← Ny119.out] at ho; have n0_ := Aside0.mk (Kd.R_after (ok := (fun _ => True)) (by (with_reducible repeat (first | apply Kd.R_alloc | apply Kd.R_drewN | apply Kd.R_drew)); exact Kd.R_mono HO_6.out (fun _ hk => ⟨trivial, hk⟩)) hg hat); have n1_ := Aside0.mk (hb); have n2_ := Aside0.mk (ho); clear HO_6; clear HB; clear HO_5; have HO_6 := n0_; have HB := n1_; have HO121 := n2_; clear n0_ n1_ n2_; clear ho hb hg hat))
              go_roundg k1
              case measure => have := HK1.out; omega
              case rel => exact ⟨(y119), (x6_1), (x7_1), (wrap64 (x13_1 + 1)), (by first | rfl | (simp; done) | (simp [*]; done)), (by first | rfl | (simp; done) | (simp [*]; done)), H', ⟨by have := HK1.out; omega⟩, ⟨by (with_reducible repeat (first | apply Kd.R_alloc | apply Kd.R_drewN | apply Kd.R_drew)); first | exact HO121.out | exact Kd.R_mono HO121.out (fun k_ h_ => ne_own_len h_)⟩, ⟨by (with_reducible repeat (first | apply Kd.R_alloc | apply Kd.R_drewN | apply Kd.R_drew)); exact Kd.R_mono HO_6.out (fun _ hk => hk.2)⟩, ⟨by repeat (first | (with_reducible first | exact HB.out | apply below_alloc | apply pw_below_drewN | apply below_drew1) | exact HB.out)⟩⟩
            · rw [if_neg c7] at H
              exact absurd H (by simp)
          · rw [if_neg c6] at H
            have c6b0 : ((Go.bits .and .i64 a1 (ji5)) == 0) = false := beq_eq_false_iff_ne.mpr c6
            have c6b1 : ((Go.bits .and .i64 a1 (ji5)) != 0) = true := bne_iff_ne.mpr c6
            by_cases c9 : (x5_1.length : Int) > 0
            · rw [if_pos c9] at H
              have c9b0 : decide (0 < (x5_1.length : Int)) = true := decide_eq_true c9
              have c9b1 : decide (0 < x5_1.length) = true := decide_eq_true (by omega)
              clear c9
              have c10b0 := eq_true (of_decide_eq_true (by first | (with_reducible assumption) | assumption) : 0 ≤ x13_1)
              obtain ⟨ji12, hji12⟩ : ∃ j_ : Int, (wrap64 ((x5_1.length : Int) - 1)) = j_ := ⟨_, rfl⟩
              replace H : (if 0 ≤ (ji12) then (if (ji12) ≤ (x5_1.length : Int) then (code_chain.l0 k1 a1 (x5_1.take ((ji12) : Int).toNat) x6_1 (Go.bits .or .i64 x7_1 (ji5)) a0 (wrap64 (x13_1 + 1))) else (none)) else (none)) = some r := by first | (rw [hji12] at H; exact H) | (simp only [hji12] at H ⊢; exact H)
              have hji12w : (IntKind.i64.wrap ((x5_1.length : Int) - 1)) = ji12 := (i64_w _).trans hji12
              by_cases c13 : 0 ≤ (ji12)
              · rw [if_pos c13] at H
                have c13b0 := eq_true c13
                have c13b1 : decide (0 ≤ (ji12)) = true := decide_eq_true c13
                clear c13
                by_cases c14 : (ji12) ≤ (x5_1.length : Int)
                · rw [if_pos c14] at H
                  have c14b0 := eq_true c14
                  have c14b1 : decide ((ji12) ≤ (x5_1.length : Int)) = true := decide_eq_true c14
                  clear c14
                  obtain ⟨y122, hy122⟩ : ∃ y_ : List Int, y_ = (x5_1.take ((ji12) : Int).toNat) := ⟨_, rfl⟩
                  replace H : (code_chain.l0 k1 a1 y122 x6_1 (Go.bits .or .i64 x7_1 (ji5)) a0 (wrap64 (x13_1 + 1))) = some r := by first | (rw [hy122]; with_reducible exact H) | (have H2_ := (Option.bind_some _ _).symm.trans H; rw [hy122]; with_reducible exact H2_) | (have H2_ := (Option.bind_some _ _).symm.trans H; with_reducible exact H2_) | with_reducible exact H | (rw [hy122]; exact H) | exact H
                  have Ny122 := Aside0.mk hy122
                  clear hy122
                  have H' := Aside0.mk H
                  clear H
                  obtain ⟨Ao15, co15, eo15⟩ := Kd.R_slice HO_5.out
                  subst eo15
                  have q16 : ((ji12) : Int) ≤ ((x5_1.length : Int) : Int) := of_decide_eq_true (by first | (with_reducible assumption) | assumption)
                  obtain ⟨i016, hi016, _, hsz16, _⟩ := info_parts info3
                  have hcut16 := cut_to (P := Try.prog) 22 3 .i64 Try.underlying22 hi016 Ao15 x5_1.length co15 (ji12) (of_decide_eq_true (by first | (with_reducible assumption) | assumption)) q16 (Kd.R_reads' HO_5.out).2.1
                  have hr16 := Kd.R_take (m := ((ji12) : Int).toNat) HO_5.out (by omega)
                  have hy16 : y122.length = ((ji12) : Int).toNat := (by rw [Ny122.out, List.length_take]; omega)
                  rw [← Ny122.out] at hr16
                  rw [← hy16] at hr16 hcut16
                  clear hy16 hi016 hsz16 HO_5
                  have HO124 := Aside0.mk hr16
                  clear hr16
                  replace q16 := eq_true q16
                  go_wp2
                  go_roundg k1
                  case measure => have := HK1.out; omega
                  case rel => exact ⟨(y122), (x6_1), (Go.bits .or .i64 x7_1 (ji5)), (wrap64 (x13_1 + 1)), (by first | rfl | (simp; done) | (simp only [← hji5] <;> (first | rfl | simp)) | (simp [*]; done)), (by first | rfl | (simp; done) | (simp [*]; done)), H', ⟨by have := HK1.out; omega⟩, ⟨by (with_reducible repeat (first | apply Kd.R_alloc | apply Kd.R_drewN | apply Kd.R_drew)); first | exact HO124.out | exact Kd.R_mono HO124.out (fun k_ h_ => ne_own_len h_)⟩, ⟨by (with_reducible repeat (first | apply Kd.R_alloc | apply Kd.R_drewN | apply Kd.R_drew)); first | exact HO_6.out | exact Kd.R_mono HO_6.out (fun k_ h_ => ne_own_len h_)⟩, ⟨by repeat (first | (with_reducible first | exact HB.out | apply below_alloc | apply pw_below_drewN | apply below_drew1) | exact HB.out)⟩⟩
                · rw [if_neg c14] at H
                  exact absurd H (by simp)
              · rw [if_neg c13] at H
                exact absurd H (by simp)
            · rw [if_neg c9] at H
              have c9b0 : decide (0 < (x5_1.length : Int)) = false := decide_eq_false c9
              have c9b1 : decide (0 < x5_1.length) = false := decide_eq_false (by omega)
              clear c9
              by_cases c17 : x6_1.length < 17592186044416
              · rw [if_pos c17] at H
                have LMc17 := Aside0.mk c17
                clear c17
                obtain ⟨y125, hy125⟩ : ∃ y_ : List Int, y_ = (x6_1 ++ [x13_1]) := ⟨_, rfl⟩
                replace H : (code_chain.l0 k1 a1 x5_1 y125 x7_1 a0 (wrap64 (x13_1 + 1))) = some r := by first | (rw [hy125]; with_reducible exact H) | (have H2_ := (Option.bind_some _ _).symm.trans H; rw [hy125]; with_reducible exact H2_) | (have H2_ := (Option.bind_some _ _).symm.trans H; with_reducible exact H2_) | with_reducible exact H | (rw [hy125]; exact H) | exact H
                have Ny125 := Aside0.mk hy125
                clear hy125
                have H' := Aside0.mk H
                clear H
                obtain ⟨Ao18, co18, eo18⟩ := Kd.R_slice HO_5.out
                subst eo18
                go_wp2_with (first | ((with_reducible refine gate_builtin (b := .append) (xs := #[.tmp 16, .tmp 18]) rfl ?_); at_builtin; refine Kd.R_append (Kd.int .i64) (w0 := w) w.heap.size rfl (.tmp 16) (.tmp 18) 22 3 (.int .i64 0) 8 rfl Try.underlying22 info3 rfl (by decide) (by omega) u6 x6_1 x13_1 [.int .i64 x13_1] (fun k_ => some k_ ≠ (.slice Ao18 x5_1.length co18 : Value).ownBlock) (fun _ => False) rfl rfl ?aP (fun _ hk => hk.elim) ?aF ?aO ?aB ?aS ?aL ?_; (case aP => exact rfl); (case aB => exact (by repeat (first | (with_reducible first | exact HB.out | apply below_alloc | apply pw_below_drewN | apply below_drew1) | exact HB.out))); (case aF => exact (fun k_ hk => Kd.fresh' (Kd.R_lt (by (with_reducible repeat (first | apply Kd.R_alloc | apply Kd.R_drewN | apply Kd.R_drew)); exact HO_5.out)) k_ hk)); (case aO => exact (by (with_reducible repeat (first | apply Kd.R_alloc | apply Kd.R_drewN | apply Kd.R_drew)); exact HO_6.out)); (case aS => exact (below_size (by repeat (first | (with_reducible first | exact HB.out | apply below_alloc | apply pw_below_drewN | apply below_drew1) | exact HB.out)))); (case aL => have := LMc17.out; omega); intro v126 w19 ho hb hg hat; rw [← Ny125.out] at ho; have n0_ := Aside0.mk (Kd.R_after (ok := (fun _ => True)) (by (with_reducible repeat (first | apply Kd.R_alloc | apply Kd.R_drewN | apply Kd.R_drew)); exact Kd.R_mono HO_5.out (fun _ hk => ⟨trivial, hk⟩)) hg hat); have n1_ := Aside0.mk (hb); have n2_ := Aside0.mk (ho); clear HO_5; clear HB; clear HO_6; have HO_5 := n0_; have HB := n1_; have HO127 := n2_; clear n0_ n1_ n2_; clear ho hb hg hat))
                go_roundg k1
                case measure => have := HK1.out; omega
                case rel => exact ⟨(x5_1), (y125), (x7_1), (wrap64 (x13_1 + 1)), (by first | rfl | (simp; done) | (simp [*]; done)), (by first | rfl | (simp; done) | (simp [*]; done)), H', ⟨by have := HK1.out; omega⟩, ⟨by (with_reducible repeat (first | apply Kd.R_alloc | apply Kd.R_drewN | apply Kd.R_drew)); exact Kd.R_mono HO_5.out (fun _ hk => hk.2)⟩, ⟨by (with_reducible repeat (first | apply Kd.R_alloc | apply Kd.R_drewN | apply Kd.R_drew)); first | exact HO127.out | exact Kd.R_mono HO127.out (fun k_ h_ => ne_own_len h_)⟩, ⟨by repeat (first | (with_reducible first | exact HB.out | apply below_alloc | apply pw_below_drewN | apply below_drew1) | exact HB.out)⟩⟩
              · rw [if_neg c17] at H
                exact absurd H (by simp)
        · rw [if_neg c4] at H
          exact absurd H (by simp)
      · rw [if_neg c3] at H
        have c3b0 : decide (x13_1 < a0) = false := decide_eq_false c3
        clear c3
        by_cases c20 : x6_1.length + x5_1.length < 17592186044416
        · rw [if_pos c20] at H
          have LMc20 := Aside0.mk c20
          clear c20
          obtain ⟨y128, hy128⟩ : ∃ y_ : List Int, y_ = (x6_1 ++ x5_1) := ⟨_, rfl⟩
          replace H : ((slices_Sort_int_int.f y128).bind fun t131 => (code_chain.l1 k1 x7_1 (([x7_1] : List Int)) t131 (y128.length : Int) 0)) = some r := by first | (rw [hy128]; with_reducible exact H) | (have H2_ := (Option.bind_some _ _).symm.trans H; rw [hy128]; with_reducible exact H2_) | (have H2_ := (Option.bind_some _ _).symm.trans H; with_reducible exact H2_) | with_reducible exact H | (rw [hy128]; exact H) | exact H
          have Ny128 := Aside0.mk hy128
          clear hy128
          replace H := Option.bind_eq_some_iff.mp H
          obtain ⟨t131, A210, H⟩ := H
          replace H : (code_chain.l1 k1 x7_1 (([x7_1] : List Int)) t131 (y128.length : Int) 0) = some r := H
          have A21 := Aside0.mk A210
          clear A210
          obtain ⟨y132, hy132⟩ : ∃ y_ : List Int, y_ = (([x7_1] : List Int)) := ⟨_, rfl⟩
          replace H : (code_chain.l1 k1 x7_1 y132 t131 (y128.length : Int) 0) = some r := by first | (rw [hy132]; with_reducible exact H) | (have H2_ := (Option.bind_some _ _).symm.trans H; rw [hy132]; with_reducible exact H2_) | (have H2_ := (Option.bind_some _ _).symm.trans H; with_reducible exact H2_) | with_reducible exact H | (rw [hy132]; exact H) | exact H
          have Ny132 := Aside0.mk hy132
          clear hy132
          have H' := Aside0.mk H
          clear H
          obtain ⟨Ao23, co23, eo23⟩ := Kd.R_slice HO_5.out
          subst eo23
          go_wp2_with (first | ((with_reducible refine gate_builtin (b := .append) (xs := #[.tmp 44, .tmp 45]) rfl ?_); at_builtin; refine Kd.R_append_rows (Kd.int .i64) (w0 := w) w.heap.size rfl (.tmp 44) (.tmp 45) 22 3 (.int .i64 0) 8 rfl Try.underlying22 info3 rfl (by decide) (by omega) u6 x6_1 x5_1 _ _ _ (fun k_ => some k_ ≠ (.slice Ao23 x5_1.length co23 : Value).ownBlock) (fun _ => False) rfl rfl ?aO ?aR (fun _ _ h => h) (fun _ h => h.elim) ?aF ?aB ?aS ?aL ?_; (case aR => repeat (first | exact (Kd.R_reads' HO_5.out).2.2 | (with_reducible refine Kd.C_alloc ?_ _) | (with_reducible refine Kd.C_drewN ?_ _) | (with_reducible refine Kd.C_drew ?_))); (case aB => exact (by repeat (first | (with_reducible first | exact HB.out | apply below_alloc | apply pw_below_drewN | apply below_drew1) | exact HB.out))); (case aF => exact (fun k_ hk => Kd.fresh' (Kd.R_lt (by (with_reducible repeat (first | apply Kd.R_alloc | apply Kd.R_drewN | apply Kd.R_drew)); exact HO_5.out)) k_ hk)); (case aO => exact (by (with_reducible repeat (first | apply Kd.R_alloc | apply Kd.R_drewN | apply Kd.R_drew)); exact HO_6.out)); (case aS => exact (below_size (by repeat (first | (with_reducible first | exact HB.out | apply below_alloc | apply pw_below_drewN | apply below_drew1) | exact HB.out)))); (case aL => have := LMc20.out; omega); intro v129 w22 ho hb hg hat; rw [← Ny128.out] at ho; have n0_ := Aside0.mk (Kd.R_after (ok := (fun _ => True)) (by (with_reducible repeat (first | apply Kd.R_alloc | apply Kd.R_drewN | apply Kd.R_drew)); exact Kd.R_mono HO_5.out (fun _ hk => ⟨trivial, hk⟩)) hg hat); have n1_ := Aside0.mk (hb); have n2_ := Aside0.mk (ho); clear HO_5; clear HB; clear HO_6; have HO_5 := n0_; have HB := n1_; have HO130 := n2_; clear n0_ n1_ n2_; clear ho hb hg hat; obtain ⟨Ao24, co24, eo24⟩ := Kd.R_slice HO130.out; subst eo24) | ((with_reducible refine gate_callee (f := 59) rfl ?_); refine goesL_ (some 48) rfl rfl Try.func59 (by kernel_rfl) rfl #[.slice Ao24 y128.length co24] rfl (by (try simp only [List.map_toArray, List.map_cons, List.map_nil]); first | done | rfl | (simp only [List.length_drop, List.length_take]; rfl)) ?_; (with_reducible refine (slices_Sort_int_int.calls (fun k_ => some k_ = (.slice Ao24 y128.length co24 : Value).ownBlock) (.slice Ao24 y128.length co24) y128 t131 w _ ?side1 ?side2 A21.out).mono ?_); (case side1 => repeat (first | (with_reducible first | exact HB.out | apply below_alloc | apply pw_below_drewN | apply below_drew1) | exact HB.out)); (case side2 => exact Kd.R_tight rfl HO130.out); rintro e w25 ⟨rfl, hy0, hb, hkp⟩; refine ⟨_, rfl, ?_⟩; have n0_ := Aside0.mk (Kd.R_mono (ok' := fun k_ => some k_ ≠ (.slice Ao24 y128.length co24 : Value).ownBlock) (Kd.R_keptB (HO_5.out) hkp (fun k_ hk_ hs_ => (hk_.2) hs_)) (fun k_ hk_ => hk_.1.2)); have n1_ := Aside0.mk (Kd.R_reok rfl hy0 (fun k_ e_ => HO130.out.1 k_ e_)); have n2_ := Aside0.mk (hb); clear HO_5; clear HO130; clear HB; have HO_5 := n0_; have HO130 := n1_; have HB := n2_; clear n0_ n1_ n2_; (try clear hb); (try clear hkp); (try clear hy0)) | ((with_reducible refine gate_dst (N := 50) rfl ?_); refine Kd.R_lit (Kd.int .i64) _ 3 ?hg (N := 50) ?hd (xs := ([x7_1] : List Int)) (inner := [.int .i64 x7_1]) (ok := fun _ => True) (okp := fun _ => True) ?hr ?hp (fun _ hk => hk) trivial (Below.refl _ _) (Nat.le_refl _) (by simp) ?_; (case hd => rfl); (case hg => rfl); (case hr => first | (go_simp; done) | (go_simp; rfl)); (case hp => exact (Reps.one (show Kd.M (Kd.int .i64) _ _ _ x7_1 [.int .i64 x7_1] from rfl) (Reps.none _ _))); intro v133 w26 ho27 hb hg_ hnew_; clear hg_ hnew_; (first | rw [← Ny132.out] at ho27 | (simp only [Int.reduceToNat] at ho27; rw [← Ny132.out] at ho27)); have n0_ := Aside0.mk (Kd.R_elder' (by (with_reducible repeat (first | apply Kd.R_alloc | apply Kd.R_drewN | apply Kd.R_drew)); exact HO_5.out) (Kd.R_base ho27) hb); have n1_ := Aside0.mk (Kd.R_elder' (by (with_reducible repeat (first | apply Kd.R_alloc | apply Kd.R_drewN | apply Kd.R_drew)); exact HO130.out) (Kd.R_base ho27) hb); have n2_ := Aside0.mk (Kd.R_lower (Kd.R_new' (Kd.R_new' ho27 (Kd.R_lt (by (with_reducible repeat (first | apply Kd.R_alloc | apply Kd.R_drewN | apply Kd.R_drew)); exact HO_5.out))) (Kd.R_lt (by (with_reducible repeat (first | apply Kd.R_alloc | apply Kd.R_drewN | apply Kd.R_drew)); exact HO130.out))) (below_size (by repeat (first | (with_reducible first | exact HB.out | apply below_alloc | apply pw_below_drewN | apply below_drew1) | exact HB.out)))); have n3_ := Aside0.mk (below_step (by repeat (first | (with_reducible first | exact HB.out | apply below_alloc | apply pw_below_drewN | apply below_drew1) | exact HB.out)) hb); clear HO_5; clear HO130; clear HB; have HO_5 := n0_; have HO130 := n1_; have HO134 := n2_; have HB := n3_; clear n0_ n1_ n2_ n3_; clear hb ho27))
          go_loopg [7, 9, 53] k1 (fun kq v7 v9 v53 w' => ∃ (x7_2 : Int) (x9_2 : List Int) (x53_2 : Int), v7 = .int .i64 x7_2 ∧ v53 = .int .i64 x53_2 ∧ Aside0 (code_chain.l1 kq x7_2 x9_2 t131 (y128.length : Int) x53_2 = some r) ∧ Aside0 (kq ≤ k1) ∧ Aside0 (Kd.R (Kd.int .i64) 3 w' w.heap.size (fun k_ => some k_ ≠ ((.slice Ao24 y128.length co24) : Value).ownBlock) v9 x9_2) ∧ Aside0 (Kd.R (Kd.int .i64) 3 w' w.heap.size (fun k_ => some k_ ≠ (v9 : Value).ownBlock) (.slice Ao24 y128.length co24) t131) ∧ Aside0 (Below w.heap.size w w'))
          case atStart => exact ⟨(x7_1), (y132), (0), (by first | rfl | (simp; done) | (simp [*]; done)), (by first | rfl | (simp; done) | (simp [*]; done)), H', ⟨Nat.le_refl _⟩, ⟨by (with_reducible repeat (first | apply Kd.R_alloc | apply Kd.R_drewN | apply Kd.R_drew)); exact Kd.R_mono HO134.out (fun _ hk => hk.2)⟩, ⟨by (with_reducible repeat (first | apply Kd.R_alloc | apply Kd.R_drewN | apply Kd.R_drew)); exact Kd.R_mono HO130.out (fun _ hk => hk.2)⟩, ⟨by repeat (first | (with_reducible first | exact HB.out | apply below_alloc | apply pw_below_drewN | apply below_drew1) | exact HB.out)⟩⟩
          case round =>
            clear H'
            try clear c1
            try clear q1
            try clear c2
            try clear p2
            try clear c3
            try clear c3b0
            try clear c4
            try clear c4b0
            try clear c4b1
            try clear c5
            try clear c6
            try clear c6b0
            try clear c6b1
            try clear p6
            try clear c7
            try clear c9
            try clear c9b0
            try clear c9b1
            try clear c10
            try clear c10b0
            try clear c11
            try clear c11b0
            try clear c13
            try clear c13b0
            try clear c13b1
            try clear c14
            try clear c14b0
            try clear c14b1
            try clear q16
            try clear c17
            try clear c20
            try clear p2
            try clear q16
            obtain ⟨x7_2, x9_2, x53_2, rfl, rfl, HA, HK2, HO_9, HO_51, HB⟩ := hrel
            have hl51_2 := (Kd.R_reads' HO_51.out).1
            rw [hl51_2] at HO_51
            (try simp only [hl51_2])
            (try simp only [hl51_2] at HO_9)
            cases gk with
            | zero => exact absurd HA.out (by simp [code_chain.l1])
            | succ k2 =>
              have H := HA.out
              clear HA
              simp only [code_chain.l1] at H
              by_cases c28 : x53_2 < (y128.length : Int)
              · rw [if_pos c28] at H
                have c28b0 : decide (x53_2 < (y128.length : Int)) = true := decide_eq_true c28
                (try (have c28h := c28b0; simp only [hl51_2] at c28h))
                clear c28
                by_cases c29 : 0 ≤ x53_2
                · rw [if_pos c29] at H
                  have c29b0 : decide (0 ≤ x53_2) = true := decide_eq_true c29
                  clear c29
                  by_cases c30 : x53_2 < (t131.length : Int)
                  · rw [if_pos c30] at H
                    have c30b0 : decide (x53_2 < (t131.length : Int)) = true := decide_eq_true c30
                    (try (have c30h := c30b0; simp only [hl51_2] at c30h))
                    clear c30
                    by_cases c31 : 0 ≤ (rd t131 x53_2)
                    · rw [if_pos c31] at H
                      have c31b0 := eq_true c31
                      have c31b1 : decide (0 ≤ (rd t131 x53_2)) = true := decide_eq_true c31
                      clear c31
                      obtain ⟨ji32, hji32⟩ : ∃ j_ : Int, (shl .i64 1 (rd t131 x53_2)) = j_ := ⟨_, rfl⟩
                      replace H : (if x9_2.length < 17592186044416 then (code_chain.l1 k2 (Go.bits .or .i64 x7_2 (ji32)) (x9_2 ++ [Go.bits .or .i64 x7_2 (ji32)]) t131 (y128.length : Int) (wrap64 (x53_2 + 1))) else (none)) = some r := by first | (rw [hji32] at H; exact H) | (simp only [hji32] at H ⊢; exact H)
                      have hji32_ : (IntKind.i64.wrap (1 * 2 ^ min (rd t131 x53_2).toNat 64)) = ji32 := hji32
                      have hji32z : (rd t131 x53_2) ≤ 64 → (IntKind.i64.wrap (1 * 2 ^ (rd t131 x53_2).toNat)) = ji32 := shl_small hji32
                      have hji32u : (IntKind.i64.wrap (2 ^ min (rd t131 x53_2).toNat 64)) = ji32 := by have h_ := hji32_; rw [Int.one_mul] at h_; exact h_
                      have hji32v : (rd t131 x53_2) ≤ 64 → (IntKind.i64.wrap (2 ^ (rd t131 x53_2).toNat)) = ji32 := fun hle_ => by have h_ := hji32z hle_; rw [Int.one_mul] at h_; exact h_
                      have hji32y : (wrap64 (1 * 2 ^ min (rd t131 x53_2).toNat 64)) = ji32 := (i64_w _).symm.trans hji32_
                      have hji32x : (rd t131 x53_2) ≤ 64 → (wrap64 (1 * 2 ^ (rd t131 x53_2).toNat)) = ji32 := fun h_ => (i64_w _).symm.trans (hji32z h_)
                      by_cases c33 : x9_2.length < 17592186044416
                      · rw [if_pos c33] at H
                        have LMc33 := Aside0.mk c33
                        clear c33
                        obtain ⟨y136, hy136⟩ : ∃ y_ : List Int, y_ = (x9_2 ++ [Go.bits .or .i64 x7_2 (ji32)]) := ⟨_, rfl⟩
                        replace H : (code_chain.l1 k2 (Go.bits .or .i64 x7_2 (ji32)) y136 t131 (y128.length : Int) (wrap64 (x53_2 + 1))) = some r := by first | (rw [hy136]; with_reducible exact H) | (have H2_ := (Option.bind_some _ _).symm.trans H; rw [hy136]; with_reducible exact H2_) | (have H2_ := (Option.bind_some _ _).symm.trans H; with_reducible exact H2_) | with_reducible exact H | (rw [hy136]; exact H) | exact H
                        have Ny136 := Aside0.mk hy136
                        clear hy136
                        have H' := Aside0.mk H
                        clear H
                        have p135 : 0 ≤ (x53_2 : Int) := of_decide_eq_true (by first | (with_reducible assumption) | assumption)
                        have q135 : x53_2 < (t131.length : Int) := of_decide_eq_true (by first | (with_reducible assumption) | assumption)
                        (try (obtain ⟨Aom_, com_, eom_⟩ := Kd.R_slice HO_51.out; subst eom_))
                        obtain ⟨ad135, e135, hx135_0⟩ := Kd.at_int (Kd.R_reads' HO_51.out).2.2 x53_2 p135 q135
                        cases e135
                        replace p135 := eq_true p135
                        replace q135 := eq_true q135
                        go_wp2_with (first | ((with_reducible refine gate_builtin (b := .append) (xs := #[.tmp 61, .tmp 63]) rfl ?_); at_builtin; refine Kd.R_append (Kd.int .i64) (w0 := w) w.heap.size rfl (.tmp 61) (.tmp 63) 22 3 (.int .i64 0) 8 rfl Try.underlying22 info3 rfl (by decide) (by omega) u9 x9_2 (Go.bits .or .i64 x7_2 (ji32)) [.int .i64 (Go.bits .or .i64 x7_2 (ji32))] (fun k_ => some k_ ≠ (.slice (some ad135) t131.length co24 : Value).ownBlock) (fun _ => False) rfl rfl ?aP (fun _ hk => hk.elim) ?aF ?aO ?aB ?aS ?aL ?_; (case aP => exact rfl); (case aB => exact (by repeat (first | (with_reducible first | exact HB.out | apply below_alloc | apply pw_below_drewN | apply below_drew1) | exact HB.out))); (case aF => exact (fun k_ hk => Kd.fresh' (Kd.R_lt (by (with_reducible repeat (first | apply Kd.R_alloc | apply Kd.R_drewN | apply Kd.R_drew)); exact HO_51.out)) k_ hk)); (case aO => exact (by (with_reducible repeat (first | apply Kd.R_alloc | apply Kd.R_drewN | apply Kd.R_drew)); exact HO_9.out)); (case aS => exact (below_size (by repeat (first | (with_reducible first | exact HB.out | apply below_alloc | apply pw_below_drewN | apply below_drew1) | exact HB.out)))); (case aL => have := LMc33.out; omega); intro v137 w34 ho hb hg hat; rw [← Ny136.out] at ho; have n0_ := Aside0.mk (Kd.R_after (ok := (fun _ => True)) (by (with_reducible repeat (first | apply Kd.R_alloc | apply Kd.R_drewN | apply Kd.R_drew)); exact Kd.R_mono HO_51.out (fun _ hk => ⟨trivial, hk⟩)) hg hat); have n1_ := Aside0.mk (hb); have n2_ := Aside0.mk (ho); clear HO_51; clear HB; clear HO_9; have HO_51 := n0_; have HB := n1_; have HO138 := n2_; clear n0_ n1_ n2_; clear ho hb hg hat))
                        (try simp only [← hl51_2])
                        go_roundg k2
                        case measure => have := HK1.out; have := HK2.out; omega
                        case rel => exact ⟨(Go.bits .or .i64 x7_2 (ji32)), (y136), (wrap64 (x53_2 + 1)), (by first | rfl | (simp; done) | (simp only [← hji32] <;> (first | rfl | simp)) | (simp [*]; done)), (by first | rfl | (simp; done) | (simp [*]; done)), H', ⟨by have := HK1.out; have := HK2.out; omega⟩, ⟨by (try simp only [hl51_2]); (with_reducible repeat (first | apply Kd.R_alloc | apply Kd.R_drewN | apply Kd.R_drew)); first | exact HO138.out | exact Kd.R_mono HO138.out (fun k_ h_ => ne_own_len h_)⟩, ⟨by (try simp only [hl51_2]); (with_reducible repeat (first | apply Kd.R_alloc | apply Kd.R_drewN | apply Kd.R_drew)); exact Kd.R_mono HO_51.out (fun _ hk => hk.2)⟩, ⟨by repeat (first | (with_reducible first | exact HB.out | apply below_alloc | apply pw_below_drewN | apply below_drew1) | exact HB.out)⟩⟩
                      · rw [if_neg c33] at H
                        exact absurd H (by simp)
                    · rw [if_neg c31] at H
                      exact absurd H (by simp)
                  · rw [if_neg c30] at H
                    exact absurd H (by simp)
                · rw [if_neg c29] at H
                  exact absurd H (by simp)
              · rw [if_neg c28] at H
                have c28b0 : decide (x53_2 < (y128.length : Int)) = false := decide_eq_false c28
                (try (have c28h := c28b0; simp only [hl51_2] at c28h))
                clear c28
                obtain rfl := Option.some.inj H
                go_wp2
                go_ret
                exact ⟨_, by first | rfl | (simp [errW_none, errW_some] <;> rfl) | (simp [*, errW_none, errW_some] <;> rfl), by (with_reducible repeat (first | apply Kd.R_alloc | apply Kd.R_drewN | apply Kd.R_drew)); exact Kd.R_mono HO_9.out (fun _ hk => trivial), by repeat (first | (with_reducible first | exact HB.out | apply below_alloc | apply pw_below_drewN | apply below_drew1) | exact HB.out)⟩
        · rw [if_neg c20] at H
          exact absurd H (by simp)

end Go.Proofs.Ytgchhheajngbfaa.P

namespace Go.Proofs.Ytgchhheajngbfaa.P
open Go.RowKit Go.Proofs.YtgchhheajngbfaaW.PrintWords Go.Proofs.YtgchhheajngbfaaW.PrintLast Go.Proofs.YtgchhheajngbfaaW.PrintMore
attribute [local go_sem] max2_int min2_int max_two min_two max_three min_three max_four min_four   -- for this text's walks alone
set_option linter.unusedVariables false
set_option linter.unusedSimpArgs false

/-! ### code_Chains: function 31 -/
def code_Chains.l0 : Nat → Int → List (List Int) → Int → Int → Option ((List (List Int)) × Int)
  | 0, _, _, _, _ => none
  | k + 1, x0, x4, x11, x12 => if x12 < x11 then ((code_chain.f k x0 x12).bind fun t140 => (if 0 < (t140.length : Int) then (if (rd t140 0) = x12 then (if x4.length < 5864062014805 then (code_Chains.l0 k x0 (x4 ++ [t140]) x11 (wrap64 (x12 + 1))) else (none)) else (code_Chains.l0 k x0 x4 x11 (wrap64 (x12 + 1)))) else (none))) else (some (x4, 0))
def code_Chains.f (k : Nat) (a0 : Int) : Option ((List (List Int)) × Int) := (code_sized.f a0).bind fun t139 => (if t139 = true then (if 0 ≤ a0 then (code_Chains.l0 k a0 ([] : List (List Int)) (shl .i64 1 a0) 0) else (none)) else (some (([] : List (List Int)), 2)))
theorem code_Chains.mono_l : ∀ k, (∀ y0 y1 y2 y3, LeO (code_Chains.l0 k y0 y1 y2 y3) (code_Chains.l0 (k + 1) y0 y1 y2 y3))
  | 0 => fun _ _ _ _ r h => by simp [code_Chains.l0] at h
  | k + 1 => by
    have ih0 := code_Chains.mono_l k
    · intro y0 y1 y2 y3
      unfold code_Chains.l0
      repeat' first
      | (with_reducible exact ih0 _ _ _ _)
      | (with_reducible exact code_chain.mono _ _ _)
      | (with_reducible exact LeO.refl _)
      | (with_reducible exact LeO.none _)
      | (with_reducible refine LeO.ite ?_ ?_)
      | (with_reducible refine LeO.bind ?_ (fun _ => ?_))
      | exact ih0 _ _ _ _
      | exact code_chain.mono _ _ _
      | exact LeO.none _
      | refine LeO.ite ?_ ?_
      | refine LeO.bind ?_ (fun _ => ?_)
theorem code_Chains.mono : ∀ a0 k, LeO (code_Chains.f k a0) (code_Chains.f (k + 1) a0) := by
  intro a0 k
  have ih0 := code_Chains.mono_l k
  unfold code_Chains.f
  repeat' first
      | (with_reducible exact ih0 _ _ _ _)
      | (with_reducible exact code_chain.mono _ _ _)
      | (with_reducible exact LeO.refl _)
      | (with_reducible exact LeO.none _)
      | (with_reducible refine LeO.ite ?_ ?_)
      | (with_reducible refine LeO.bind ?_ (fun _ => ?_))
      | exact ih0 _ _ _ _
      | exact code_chain.mono _ _ _
      | exact LeO.none _
      | refine LeO.ite ?_ ?_
      | refine LeO.bind ?_ (fun _ => ?_)
set_option maxHeartbeats 8000000 in
set_option maxRecDepth 100000 in
theorem code_Chains.calls (k : Nat) (a0 : Int) (r1 : List (List Int)) (r2 : Int) (w : World) (h : code_Chains.f k a0 = some (r1, r2)) :
    Calls Try.prog 31 #[.int .i64 a0] w fun e w' => ∃ v0_ : Value, e = .returned (.tuple #[v0_, .int .i64 r2]) ∧ Kd.S (Kd.slice 3 (Kd.int .i64)) 22 w' w.heap.size (fun _ => True) v0_ r1 ∧ Below w.heap.size w w' := by
  have HB := Aside0.mk (Below.refl w.heap.size w)
  have H : ((code_sized.f a0).bind fun t139 => (if t139 = true then (if 0 ≤ a0 then (code_Chains.l0 k a0 ([] : List (List Int)) (shl .i64 1 a0) 0) else (none)) else (some (([] : List (List Int)), 2)))) = some (r1, r2) := h
  clear h
  replace H := Option.bind_eq_some_iff.mp H
  obtain ⟨t139, A20, H⟩ := H
  replace H : (if t139 = true then (if 0 ≤ a0 then (code_Chains.l0 k a0 ([] : List (List Int)) (shl .i64 1 a0) 0) else (none)) else (some (([] : List (List Int)), 2))) = some (r1, r2) := H
  have A2 := Aside0.mk A20
  clear A20
  by_cases c3 : t139 = true
  · subst c3
    have H1 : (if 0 ≤ a0 then (code_Chains.l0 k a0 ([] : List (List Int)) (shl .i64 1 a0) 0) else (none)) = some (r1, r2) := by rw [if_pos rfl] at H; exact H
    clear H
    have H := H1
    clear H1
    by_cases c4 : 0 ≤ a0
    · rw [if_pos c4] at H
      have c4b0 := eq_true c4
      have c4b1 : decide (0 ≤ a0) = true := decide_eq_true c4
      clear c4
      obtain ⟨ji5, hji5⟩ : ∃ j_ : Int, (shl .i64 1 a0) = j_ := ⟨_, rfl⟩
      replace H : (code_Chains.l0 k a0 ([] : List (List Int)) ji5 0) = some (r1, r2) := by first | (rw [hji5] at H; exact H) | (simp only [hji5] at H ⊢; exact H)
      (try rw [hji5] at A2)
      have hji5_ : (IntKind.i64.wrap (1 * 2 ^ min a0.toNat 64)) = ji5 := hji5
      have hji5z : a0 ≤ 64 → (IntKind.i64.wrap (1 * 2 ^ a0.toNat)) = ji5 := shl_small hji5
      have hji5u : (IntKind.i64.wrap (2 ^ min a0.toNat 64)) = ji5 := by have h_ := hji5_; rw [Int.one_mul] at h_; exact h_
      have hji5v : a0 ≤ 64 → (IntKind.i64.wrap (2 ^ a0.toNat)) = ji5 := fun hle_ => by have h_ := hji5z hle_; rw [Int.one_mul] at h_; exact h_
      have hji5y : (wrap64 (1 * 2 ^ min a0.toNat 64)) = ji5 := (i64_w _).symm.trans hji5_
      have hji5x : a0 ≤ 64 → (wrap64 (1 * 2 ^ a0.toNat)) = ji5 := fun h_ => (i64_w _).symm.trans (hji5z h_)
      have H' := Aside0.mk H
      clear H
      go_enter Try.func31, Try.ntmps31
      go_wp2_with (first | ((with_reducible refine gate_callee (f := 47) rfl ?_); refine goesL_ (some 8) rfl rfl Try.func47 (by kernel_rfl) rfl #[.int .i64 a0] rfl (by (try simp only [List.map_toArray, List.map_cons, List.map_nil]); first | done | rfl | (simp only [List.length_drop, List.length_take]; rfl)) ?_; (with_reducible refine (code_sized.calls a0 true _ A2.out).mono ?_); rintro e w' ⟨rfl, ⟨nd, rfl⟩⟩; refine ⟨_, rfl, ?_⟩))
      go_loopg [4, 12] k (fun kq v4 v12 w' => ∃ (x4_1 : List (List Int)) (x12_1 : Int), v12 = .int .i64 x12_1 ∧ Aside0 (code_Chains.l0 kq a0 x4_1 ji5 x12_1 = some (r1, r2)) ∧ Aside0 (kq ≤ k) ∧ Aside0 (Kd.S (Kd.slice 3 (Kd.int .i64)) 22 w' w.heap.size (fun _ => True) v4 x4_1) ∧ Aside0 (Below w.heap.size w w'))
      case atStart => exact ⟨(([] : List (List Int))), (0), (by first | rfl | (simp; done) | (simp [*]; done)), H', ⟨Nat.le_refl _⟩, ⟨by first | exact Kd.S_nil _ _ _ _ _ | exact Kd.N_nil _ _ _ _ _ | exact Kd.V_nil _ _ _ _ _ | exact Kd.Q_nil _ _ _ _ _ | exact Kd.R_nil _ _ _ _ _⟩, ⟨by repeat (first | (with_reducible first | exact HB.out | apply below_alloc | apply pw_below_drewN | apply below_drew1) | exact HB.out)⟩⟩
      case round =>
        clear H'
        try clear p2
        try clear c3
        try clear c4
        try clear c4b0
        try clear c4b1
        obtain ⟨x4_1, x12_1, rfl, HA, HK1, HO_4, HB⟩ := hrel
        cases gk with
        | zero => exact absurd HA.out (by simp [code_Chains.l0])
        | succ k1 =>
          have H := HA.out
          clear HA
          simp only [code_Chains.l0] at H
          by_cases c6 : x12_1 < ji5
          · rw [if_pos c6] at H
            have c6b0 : decide (x12_1 < ji5) = true := decide_eq_true c6
            clear c6
            replace H := Option.bind_eq_some_iff.mp H
            obtain ⟨t140, A70, H⟩ := H
            replace H : (if 0 < (t140.length : Int) then (if (rd t140 0) = x12_1 then (if x4_1.length < 5864062014805 then (code_Chains.l0 k1 a0 (x4_1 ++ [t140]) ji5 (wrap64 (x12_1 + 1))) else (none)) else (code_Chains.l0 k1 a0 x4_1 ji5 (wrap64 (x12_1 + 1)))) else (none)) = some (r1, r2) := H
            have A7 := Aside0.mk A70
            clear A70
            by_cases c8 : 0 < (t140.length : Int)
            · rw [if_pos c8] at H
              have c8b0 : decide (0 < (t140.length : Int)) = true := decide_eq_true c8
              have c8b1 : decide (0 < t140.length) = true := decide_eq_true (by omega)
              clear c8
              by_cases c9 : (rd t140 0) = x12_1
              · rw [if_pos c9] at H
                have c9b0 : ((rd t140 0) == x12_1) = true := beq_iff_eq.mpr c9
                have c9b1 : ((rd t140 0) != x12_1) = false := bne_eq_false_iff_eq.mpr c9
                clear c9
                by_cases c10 : x4_1.length < 5864062014805
                · rw [if_pos c10] at H
                  have LMc10 := Aside0.mk c10
                  clear c10
                  obtain ⟨y144, hy144⟩ : ∃ y_ : List (List Int), y_ = (x4_1 ++ [t140]) := ⟨_, rfl⟩
                  replace H : (code_Chains.l0 k1 a0 y144 ji5 (wrap64 (x12_1 + 1))) = some (r1, r2) := by first | (rw [hy144]; with_reducible exact H) | (have H2_ := (Option.bind_some _ _).symm.trans H; rw [hy144]; with_reducible exact H2_) | (have H2_ := (Option.bind_some _ _).symm.trans H; with_reducible exact H2_) | with_reducible exact H | (rw [hy144]; exact H) | exact H
                  have Ny144 := Aside0.mk hy144
                  clear hy144
                  have H' := Aside0.mk H
                  clear H
                  go_wp2_with (first | ((with_reducible refine gate_callee (f := 57) rfl ?_); refine goesL_ (some 17) rfl rfl Try.func57 (by kernel_rfl) rfl #[.int .i64 a0, .int .i64 x12_1] rfl (by (try simp only [List.map_toArray, List.map_cons, List.map_nil]); first | done | rfl | (simp only [List.length_drop, List.length_take]; rfl)) ?_; (with_reducible refine (code_chain.calls k1 a0 x12_1 t140 _ A7.out).mono ?_); rintro e w11 ⟨v141, rfl, ho0, hb⟩; refine ⟨_, rfl, ?_⟩; have n0_ := Aside0.mk (Kd.S_elder' (by (with_reducible repeat (first | apply Kd.S_alloc | apply Kd.S_drewN | apply Kd.S_drew)); exact HO_4.out) (Kd.R_base ho0) hb); have n1_ := Aside0.mk (Kd.R_lower ho0 (below_size (by repeat (first | (with_reducible first | exact HB.out | apply below_alloc | apply pw_below_drewN | apply below_drew1) | exact HB.out)))); have n2_ := Aside0.mk (below_step (by repeat (first | (with_reducible first | exact HB.out | apply below_alloc | apply pw_below_drewN | apply below_drew1) | exact HB.out)) hb); clear HO_4; clear HB; have HO_4 := n0_; have HO142 := n1_; have HB := n2_; clear n0_ n1_ n2_; (try clear hb); (try clear hb2); (try clear hk); (try clear hi); (try clear ho0); obtain ⟨Ao12, co12, eo12⟩ := Kd.R_slice HO142.out; subst eo12; have p143 : 0 ≤ (0 : Int) := (by omega); have q143 : 0 < (t140.length : Int) := of_decide_eq_true (by first | (with_reducible assumption) | assumption); obtain ⟨ad143, e143, hx143_0⟩ := Kd.at_int (Kd.R_reads' HO142.out).2.2 0 p143 q143; cases e143; have qi143 : (0 < t140.length) = True := eq_true (by omega); (try rw [show ((0 : Int)).toNat = 0 from rfl] at hx143_0); (try rw [Addr.add_zero'] at hx143_0); replace p143 := eq_true p143; replace q143 := eq_true q143) | ((with_reducible refine gate_builtin (b := .append) (xs := #[.tmp 23, .tmp 25]) rfl ?_); at_builtin; refine Kd.S_append (Kd.slice 3 (Kd.int .i64)) (w0 := w) w.heap.size rfl (.tmp 23) (.tmp 25) 41 22 (.slice none 0 0) 24 rfl Try.underlying41 info22 rfl (by decide) (by omega) u4 x4_1 t140 [.slice (some ad143) t140.length co12] (fun _ => True) (fun k_ => some k_ = (.slice (some ad143) t140.length co12 : Value).ownBlock) rfl rfl ?aP (fun k_ hk_ => ((Kd.R_mono (ok' := fun k_ => ((fun _ => True)) k_ ∧ some k_ ≠ (u4 : Value).ownBlock) (Kd.R_apart' (HO142.out) (Kd.S_typed HO_4.out) (by decide)) (fun k_ hk => ⟨trivial, hk.2⟩))).1 k_ hk_.symm) ?aF ?aO ?aB ?aS ?aL ?_; (case aP => exact Kd.M_row (Kd.R_mono (Kd.R_tight rfl (Kd.R_mono (ok' := fun k_ => ((fun _ => True)) k_ ∧ some k_ ≠ (u4 : Value).ownBlock) (Kd.R_apart' (HO142.out) (Kd.S_typed HO_4.out) (by decide)) (fun k_ hk => ⟨trivial, hk.2⟩))) (fun _ h_ => h_))); (case aB => exact (by repeat (first | (with_reducible first | exact HB.out | apply below_alloc | apply pw_below_drewN | apply below_drew1) | exact HB.out))); (case aF => exact (fun _ _ => trivial)); (case aO => exact (by (with_reducible repeat (first | apply Kd.S_alloc | apply Kd.S_drewN | apply Kd.S_drew)); exact Kd.S_mono HO_4.out (fun k_ hk => ⟨trivial, fun e_ => hk.2 e_⟩))); (case aS => exact (below_size (by repeat (first | (with_reducible first | exact HB.out | apply below_alloc | apply pw_below_drewN | apply below_drew1) | exact HB.out)))); (case aL => have := LMc10.out; omega); intro v145 w13 ho hb hg hat; rw [← Ny144.out] at ho; have n0_ := Aside0.mk (hb); have n1_ := Aside0.mk (ho); clear HB; clear HO_4; clear HO142; have HB := n0_; have HO146 := n1_; clear n0_ n1_; clear ho hb hg hat))
                  go_roundg k1
                  case measure => have := HK1.out; omega
                  case rel => exact ⟨(y144), (wrap64 (x12_1 + 1)), (by first | rfl | (simp; done) | (simp [*]; done)), H', ⟨by have := HK1.out; omega⟩, ⟨by (with_reducible repeat (first | apply Kd.S_alloc | apply Kd.S_drewN | apply Kd.S_drew)); first | exact HO146.out | exact Kd.R_mono HO146.out (fun k_ h_ => ne_own_len h_)⟩, ⟨by repeat (first | (with_reducible first | exact HB.out | apply below_alloc | apply pw_below_drewN | apply below_drew1) | exact HB.out)⟩⟩
                · rw [if_neg c10] at H
                  exact absurd H (by simp)
              · rw [if_neg c9] at H
                have c9b0 : ((rd t140 0) == x12_1) = false := beq_eq_false_iff_ne.mpr c9
                have c9b1 : ((rd t140 0) != x12_1) = true := bne_iff_ne.mpr c9
                have H' := Aside0.mk H
                clear H
                go_wp2_with (first | ((with_reducible refine gate_callee (f := 57) rfl ?_); refine goesL_ (some 17) rfl rfl Try.func57 (by kernel_rfl) rfl #[.int .i64 a0, .int .i64 x12_1] rfl (by (try simp only [List.map_toArray, List.map_cons, List.map_nil]); first | done | rfl | (simp only [List.length_drop, List.length_take]; rfl)) ?_; (with_reducible refine (code_chain.calls k1 a0 x12_1 t140 _ A7.out).mono ?_); rintro e w14 ⟨v141, rfl, ho0, hb⟩; refine ⟨_, rfl, ?_⟩; have n0_ := Aside0.mk (Kd.S_elder' (by (with_reducible repeat (first | apply Kd.S_alloc | apply Kd.S_drewN | apply Kd.S_drew)); exact HO_4.out) (Kd.R_base ho0) hb); have n1_ := Aside0.mk (Kd.R_lower ho0 (below_size (by repeat (first | (with_reducible first | exact HB.out | apply below_alloc | apply pw_below_drewN | apply below_drew1) | exact HB.out)))); have n2_ := Aside0.mk (below_step (by repeat (first | (with_reducible first | exact HB.out | apply below_alloc | apply pw_below_drewN | apply below_drew1) | exact HB.out)) hb); clear HO_4; clear HB; have HO_4 := n0_; have HO142 := n1_; have HB := n2_; clear n0_ n1_ n2_; (try clear hb); (try clear hb2); (try clear hk); (try clear hi); (try clear ho0); obtain ⟨Ao15, co15, eo15⟩ := Kd.R_slice HO142.out; subst eo15; have p143 : 0 ≤ (0 : Int) := (by omega); have q143 : 0 < (t140.length : Int) := of_decide_eq_true (by first | (with_reducible assumption) | assumption); obtain ⟨ad143, e143, hx143_0⟩ := Kd.at_int (Kd.R_reads' HO142.out).2.2 0 p143 q143; cases e143; have qi143 : (0 < t140.length) = True := eq_true (by omega); (try rw [show ((0 : Int)).toNat = 0 from rfl] at hx143_0); (try rw [Addr.add_zero'] at hx143_0); replace p143 := eq_true p143; replace q143 := eq_true q143))
                go_roundg k1
                case measure => have := HK1.out; omega
                case rel => exact ⟨(x4_1), (wrap64 (x12_1 + 1)), (by first | rfl | (simp; done) | (simp [*]; done)), H', ⟨by have := HK1.out; omega⟩, ⟨by (with_reducible repeat (first | apply Kd.S_alloc | apply Kd.S_drewN | apply Kd.S_drew)); exact Kd.S_mono HO_4.out (fun _ hk => trivial)⟩, ⟨by repeat (first | (with_reducible first | exact HB.out | apply below_alloc | apply pw_below_drewN | apply below_drew1) | exact HB.out)⟩⟩
            · rw [if_neg c8] at H
              exact absurd H (by simp)
          · rw [if_neg c6] at H
            have c6b0 : decide (x12_1 < ji5) = false := decide_eq_false c6
            clear c6
            simp only [Option.some.injEq, Prod.mk.injEq] at H
            obtain ⟨rfl, rfl⟩ := H
            go_wp2
            go_ret2
            exact ⟨_, by first | rfl | (simp [errW_none, errW_some] <;> rfl) | (simp only [← hji5]; first | rfl | (simp [errW_none, errW_some] <;> rfl)) | (simp [*, errW_none, errW_some] <;> rfl), by (with_reducible repeat (first | apply Kd.S_alloc | apply Kd.S_drewN | apply Kd.S_drew)); exact HO_4.out, by repeat (first | (with_reducible first | exact HB.out | apply below_alloc | apply pw_below_drewN | apply below_drew1) | exact HB.out)⟩
    · rw [if_neg c4] at H
      exact absurd H (by simp)
  · replace c3 := Bool.eq_false_iff.mpr c3
    subst c3
    have H1 : (some (([] : List (List Int)), 2)) = some (r1, r2) := by rw [if_neg (show ¬ (false = true) by decide)] at H; exact H
    clear H
    have H := H1
    clear H1
    simp only [Option.some.injEq, Prod.mk.injEq] at H
    obtain ⟨rfl, rfl⟩ := H
    go_enter Try.func31, Try.ntmps31
    go_wp2_with (first | ((with_reducible refine gate_callee (f := 47) rfl ?_); refine goesL_ (some 8) rfl rfl Try.func47 (by kernel_rfl) rfl #[.int .i64 a0] rfl (by (try simp only [List.map_toArray, List.map_cons, List.map_nil]); first | done | rfl | (simp only [List.length_drop, List.length_take]; rfl)) ?_; (with_reducible refine (code_sized.calls a0 false _ A2.out).mono ?_); rintro e w' ⟨rfl, ⟨nd, rfl⟩⟩; refine ⟨_, rfl, ?_⟩))
    go_ret2
    exact ⟨_, by first | rfl | (simp [errW_none, errW_some] <;> rfl) | (simp [*, errW_none, errW_some] <;> rfl), by first | exact Kd.S_nil _ _ _ _ _ | exact Kd.N_nil _ _ _ _ _ | exact Kd.V_nil _ _ _ _ _ | exact Kd.Q_nil _ _ _ _ _ | exact Kd.R_nil _ _ _ _ _, by repeat (first | (with_reducible first | exact HB.out | apply below_alloc | apply pw_below_drewN | apply below_drew1) | exact HB.out)⟩

end Go.Proofs.Ytgchhheajngbfaa.P

namespace Go.Proofs.Ytgchhheajngbfaa.P
open Go.RowKit Go.Proofs.YtgchhheajngbfaaW.PrintWords Go.Proofs.YtgchhheajngbfaaW.PrintLast Go.Proofs.YtgchhheajngbfaaW.PrintMore
attribute [local go_sem] max2_int min2_int max_two min_two max_three min_three max_four min_four   -- for this text's walks alone
set_option linter.unusedVariables false
set_option linter.unusedSimpArgs false

/-! ### neonwrightlaw03_lists: function 32 -/
def neonwrightlaw03_lists.l0 : Nat → List (List Int) → List (List Int) → Int → Option (Bool)
  | 0, _, _, _ => none
  | k + 1, x0, x1, x5 => if x5 < (x0.length : Int) then (if 0 ≤ x5 then (if x5 < (x1.length : Int) then ((neonwrightlaw03_same.f k (rd_L2 x0 x5) (rd_L2 x1 x5)).bind fun t149 => (if t149 = true then (neonwrightlaw03_lists.l0 k x0 x1 (wrap64 (x5 + 1))) else (some false))) else (none)) else (none)) else (some true)
def neonwrightlaw03_lists.f (k : Nat) (l0 : List (List Int)) (l1 : List (List Int)) : Option (Bool) := if (l0.length : Int) = (l1.length : Int) then (neonwrightlaw03_lists.l0 k l0 l1 0) else (some false)
theorem neonwrightlaw03_lists.mono_l : ∀ k, (∀ y0 y1 y2, LeO (neonwrightlaw03_lists.l0 k y0 y1 y2) (neonwrightlaw03_lists.l0 (k + 1) y0 y1 y2))
  | 0 => fun _ _ _ r h => by simp [neonwrightlaw03_lists.l0] at h
  | k + 1 => by
    have ih0 := neonwrightlaw03_lists.mono_l k
    · intro y0 y1 y2
      unfold neonwrightlaw03_lists.l0
      repeat' first
      | (with_reducible exact ih0 _ _ _)
      | (with_reducible exact neonwrightlaw03_same.mono _ _ _)
      | (with_reducible exact LeO.refl _)
      | (with_reducible exact LeO.none _)
      | (with_reducible refine LeO.ite ?_ ?_)
      | (with_reducible refine LeO.bind ?_ (fun _ => ?_))
      | exact ih0 _ _ _
      | exact neonwrightlaw03_same.mono _ _ _
      | exact LeO.none _
      | refine LeO.ite ?_ ?_
      | refine LeO.bind ?_ (fun _ => ?_)
theorem neonwrightlaw03_lists.mono : ∀ a0 a1 k, LeO (neonwrightlaw03_lists.f k a0 a1) (neonwrightlaw03_lists.f (k + 1) a0 a1) := by
  intro a0 a1 k
  have ih0 := neonwrightlaw03_lists.mono_l k
  unfold neonwrightlaw03_lists.f
  repeat' first
      | (with_reducible exact ih0 _ _ _)
      | (with_reducible exact neonwrightlaw03_same.mono _ _ _)
      | (with_reducible exact LeO.refl _)
      | (with_reducible exact LeO.none _)
      | (with_reducible refine LeO.ite ?_ ?_)
      | (with_reducible refine LeO.bind ?_ (fun _ => ?_))
      | exact ih0 _ _ _
      | exact neonwrightlaw03_same.mono _ _ _
      | exact LeO.none _
      | refine LeO.ite ?_ ?_
      | refine LeO.bind ?_ (fun _ => ?_)
set_option maxHeartbeats 8000000 in
set_option maxRecDepth 100000 in
theorem neonwrightlaw03_lists.calls (k : Nat) (A0 : Option Addr) (c0 : Nat) (l0 : List (List Int)) (A1 : Option Addr) (c1 : Nat) (l1 : List (List Int)) (r : Bool) (w : World) (hr0 : Kd.C (Kd.slice 3 (Kd.int .i64)) w A0 l0.length l0) (hc0 : l0.length ≤ c0) (hr1 : Kd.C (Kd.slice 3 (Kd.int .i64)) w A1 l1.length l1) (hc1 : l1.length ≤ c1) (h : neonwrightlaw03_lists.f k l0 l1 = some r) :
    Calls Try.prog 32 #[.slice A0 l0.length c0, .slice A1 l1.length c1] w fun e w' => e = .returned (.bool r) ∧ Drawn0 w w' := by
  have HR0 := Aside0.mk hr0
  have HC0 := Aside0.mk hc0
  clear hr0 hc0
  have HR1 := Aside0.mk hr1
  have HC1 := Aside0.mk hc1
  clear hr1 hc1
  have H : (if (l0.length : Int) = (l1.length : Int) then (neonwrightlaw03_lists.l0 k l0 l1 0) else (some false)) = some r := h
  clear h
  by_cases c3 : (l0.length : Int) = (l1.length : Int)
  · rw [if_pos c3] at H
    have c3b0 : ((l0.length : Int) == (l1.length : Int)) = true := beq_iff_eq.mpr c3
    have c3b1 : ((l0.length : Int) != (l1.length : Int)) = false := bne_eq_false_iff_eq.mpr c3
    have c3b2 : (l0.length == l1.length) = true := by first | simpa using c3 | (simp at c3 ⊢; omega)
    clear c3
    have H' := Aside0.mk H
    clear H
    go_enter Try.func32, Try.ntmps32
    go_wp2
    repeat (go_quiet (fail); try go_wp2)
    go_loopg [5] k (fun kq v5 w' => ∃ (x5_1 : Int), v5 = .int .i64 x5_1 ∧ Aside0 (neonwrightlaw03_lists.l0 kq l0 l1 x5_1 = some r) ∧ Aside0 (kq ≤ k) ∧ Drawn0 w w')
    case atStart => exact ⟨(0), (by first | rfl | (simp; done) | (simp [*]; done)), H', ⟨Nat.le_refl _⟩, by repeat (first | exact Drawn0.refl _ | apply Drawn0.step)⟩
    case round =>
      clear H'
      try clear c1
      try clear p2
      try clear c3
      try clear c3b0
      try clear c3b1
      try clear c3b2
      obtain ⟨x5_1, rfl, HA, HK1, ⟨m1, rfl⟩⟩ := hrel
      cases gk with
      | zero => exact absurd HA.out (by simp [neonwrightlaw03_lists.l0])
      | succ k1 =>
        have H := HA.out
        clear HA
        simp only [neonwrightlaw03_lists.l0] at H
        by_cases c4 : x5_1 < (l0.length : Int)
        · rw [if_pos c4] at H
          have c4b0 : decide (x5_1 < (l0.length : Int)) = true := decide_eq_true c4
          clear c4
          by_cases c5 : 0 ≤ x5_1
          · rw [if_pos c5] at H
            have c5b0 : decide (0 ≤ x5_1) = true := decide_eq_true c5
            clear c5
            by_cases c6 : x5_1 < (l1.length : Int)
            · rw [if_pos c6] at H
              have c6b0 : decide (x5_1 < (l1.length : Int)) = true := decide_eq_true c6
              clear c6
              replace H := Option.bind_eq_some_iff.mp H
              obtain ⟨t149, A70, H⟩ := H
              replace H : (if t149 = true then (neonwrightlaw03_lists.l0 k1 l0 l1 (wrap64 (x5_1 + 1))) else (some false)) = some r := H
              have A7 := Aside0.mk A70
              clear A70
              by_cases c8 : t149 = true
              · subst c8
                have H1 : (neonwrightlaw03_lists.l0 k1 l0 l1 (wrap64 (x5_1 + 1))) = some r := by rw [if_pos rfl] at H; exact H
                clear H
                have H := H1
                clear H1
                have H' := Aside0.mk H
                clear H
                have p147 : 0 ≤ (x5_1 : Int) := of_decide_eq_true (by first | (with_reducible assumption) | assumption)
                have q147 : x5_1 < (l0.length : Int) := of_decide_eq_true (by first | (with_reducible assumption) | assumption)
                obtain ⟨ad147, A147_0, c147_0, e147, hx147_0, hl147_0, hi147_0⟩ := at_L2 HR0.out x5_1 p147 q147
                cases e147
                have HR147_0 := Aside0.mk hi147_0
                have HC147_0 := Aside0.mk hl147_0
                clear hi147_0 hl147_0
                replace p147 := eq_true p147
                replace q147 := eq_true q147
                have p148 : 0 ≤ (x5_1 : Int) := of_decide_eq_true (by first | (with_reducible assumption) | assumption)
                have q148 : x5_1 < (l1.length : Int) := of_decide_eq_true (by first | (with_reducible assumption) | assumption)
                obtain ⟨ad148, A148_0, c148_0, e148, hx148_0, hl148_0, hi148_0⟩ := at_L2 HR1.out x5_1 p148 q148
                cases e148
                have HR148_0 := Aside0.mk hi148_0
                have HC148_0 := Aside0.mk hl148_0
                clear hi148_0 hl148_0
                replace p148 := eq_true p148
                replace q148 := eq_true q148
                go_wp2_with (first | (go_at_call 17; (with_reducible refine (neonwrightlaw03_same.calls k1 _ _ (rd_L2 l0 x5_1) _ _ (rd_L2 l1 x5_1) true _ ?side1 ?side2 ?side3 ?side4 A7.out).mono ?_); (case side1 => repeat (first | exact HR147_0.out | (with_reducible refine Kd.C_alloc ?_ _) | (with_reducible refine Kd.C_drewN ?_ _) | (with_reducible refine Kd.C_drew ?_))); (case side2 => exact HC147_0.out); (case side3 => repeat (first | exact HR148_0.out | (with_reducible refine Kd.C_alloc ?_ _) | (with_reducible refine Kd.C_drewN ?_ _) | (with_reducible refine Kd.C_drew ?_))); (case side4 => exact HC148_0.out); rintro e w' ⟨rfl, ⟨nd, rfl⟩⟩; (try first | exact ⟨rfl, _, World.drewN_drewN _ _ _⟩ | exact ⟨rfl, _, Eq.trans (World.drewN_drewN _ _ _) (congrArg (World.drewN _) (Nat.add_assoc _ _ _))⟩)))
                repeat (go_quiet (first | (go_at_call 17; (with_reducible refine (neonwrightlaw03_same.calls k1 _ _ (rd_L2 l0 x5_1) _ _ (rd_L2 l1 x5_1) true _ ?side1 ?side2 ?side3 ?side4 A7.out).mono ?_); (case side1 => repeat (first | exact HR147_0.out | (with_reducible refine Kd.C_alloc ?_ _) | (with_reducible refine Kd.C_drewN ?_ _) | (with_reducible refine Kd.C_drew ?_))); (case side2 => exact HC147_0.out); (case side3 => repeat (first | exact HR148_0.out | (with_reducible refine Kd.C_alloc ?_ _) | (with_reducible refine Kd.C_drewN ?_ _) | (with_reducible refine Kd.C_drew ?_))); (case side4 => exact HC148_0.out); rintro e w' ⟨rfl, ⟨nd, rfl⟩⟩; (try first | exact ⟨rfl, _, World.drewN_drewN _ _ _⟩ | exact ⟨rfl, _, Eq.trans (World.drewN_drewN _ _ _) (congrArg (World.drewN _) (Nat.add_assoc _ _ _))⟩))); try go_wp2_with (first | (go_at_call 17; (with_reducible refine (neonwrightlaw03_same.calls k1 _ _ (rd_L2 l0 x5_1) _ _ (rd_L2 l1 x5_1) true _ ?side1 ?side2 ?side3 ?side4 A7.out).mono ?_); (case side1 => repeat (first | exact HR147_0.out | (with_reducible refine Kd.C_alloc ?_ _) | (with_reducible refine Kd.C_drewN ?_ _) | (with_reducible refine Kd.C_drew ?_))); (case side2 => exact HC147_0.out); (case side3 => repeat (first | exact HR148_0.out | (with_reducible refine Kd.C_alloc ?_ _) | (with_reducible refine Kd.C_drewN ?_ _) | (with_reducible refine Kd.C_drew ?_))); (case side4 => exact HC148_0.out); rintro e w' ⟨rfl, ⟨nd, rfl⟩⟩; (try first | exact ⟨rfl, _, World.drewN_drewN _ _ _⟩ | exact ⟨rfl, _, Eq.trans (World.drewN_drewN _ _ _) (congrArg (World.drewN _) (Nat.add_assoc _ _ _))⟩))))
                go_roundg k1
                case measure => have := HK1.out; omega
                case rel => exact ⟨(wrap64 (x5_1 + 1)), (by first | rfl | (simp; done) | (simp [*]; done)), H', ⟨by have := HK1.out; omega⟩, by repeat (first | exact Drawn0.refl _ | apply Drawn0.step)⟩
              · replace c8 := Bool.eq_false_iff.mpr c8
                subst c8
                have H1 : (some false) = some r := by rw [if_neg (show ¬ (false = true) by decide)] at H; exact H
                clear H
                have H := H1
                clear H1
                obtain rfl := Option.some.inj H
                have p147 : 0 ≤ (x5_1 : Int) := of_decide_eq_true (by first | (with_reducible assumption) | assumption)
                have q147 : x5_1 < (l0.length : Int) := of_decide_eq_true (by first | (with_reducible assumption) | assumption)
                obtain ⟨ad147, A147_0, c147_0, e147, hx147_0, hl147_0, hi147_0⟩ := at_L2 HR0.out x5_1 p147 q147
                cases e147
                have HR147_0 := Aside0.mk hi147_0
                have HC147_0 := Aside0.mk hl147_0
                clear hi147_0 hl147_0
                replace p147 := eq_true p147
                replace q147 := eq_true q147
                have p148 : 0 ≤ (x5_1 : Int) := of_decide_eq_true (by first | (with_reducible assumption) | assumption)
                have q148 : x5_1 < (l1.length : Int) := of_decide_eq_true (by first | (with_reducible assumption) | assumption)
                obtain ⟨ad148, A148_0, c148_0, e148, hx148_0, hl148_0, hi148_0⟩ := at_L2 HR1.out x5_1 p148 q148
                cases e148
                have HR148_0 := Aside0.mk hi148_0
                have HC148_0 := Aside0.mk hl148_0
                clear hi148_0 hl148_0
                replace p148 := eq_true p148
                replace q148 := eq_true q148
                go_wp2_with (first | (go_at_call 17; (with_reducible refine (neonwrightlaw03_same.calls k1 _ _ (rd_L2 l0 x5_1) _ _ (rd_L2 l1 x5_1) false _ ?side1 ?side2 ?side3 ?side4 A7.out).mono ?_); (case side1 => repeat (first | exact HR147_0.out | (with_reducible refine Kd.C_alloc ?_ _) | (with_reducible refine Kd.C_drewN ?_ _) | (with_reducible refine Kd.C_drew ?_))); (case side2 => exact HC147_0.out); (case side3 => repeat (first | exact HR148_0.out | (with_reducible refine Kd.C_alloc ?_ _) | (with_reducible refine Kd.C_drewN ?_ _) | (with_reducible refine Kd.C_drew ?_))); (case side4 => exact HC148_0.out); rintro e w' ⟨rfl, ⟨nd, rfl⟩⟩; (try first | exact ⟨rfl, _, World.drewN_drewN _ _ _⟩ | exact ⟨rfl, _, Eq.trans (World.drewN_drewN _ _ _) (congrArg (World.drewN _) (Nat.add_assoc _ _ _))⟩)))
                repeat (go_quiet (first | (go_at_call 17; (with_reducible refine (neonwrightlaw03_same.calls k1 _ _ (rd_L2 l0 x5_1) _ _ (rd_L2 l1 x5_1) false _ ?side1 ?side2 ?side3 ?side4 A7.out).mono ?_); (case side1 => repeat (first | exact HR147_0.out | (with_reducible refine Kd.C_alloc ?_ _) | (with_reducible refine Kd.C_drewN ?_ _) | (with_reducible refine Kd.C_drew ?_))); (case side2 => exact HC147_0.out); (case side3 => repeat (first | exact HR148_0.out | (with_reducible refine Kd.C_alloc ?_ _) | (with_reducible refine Kd.C_drewN ?_ _) | (with_reducible refine Kd.C_drew ?_))); (case side4 => exact HC148_0.out); rintro e w' ⟨rfl, ⟨nd, rfl⟩⟩; (try first | exact ⟨rfl, _, World.drewN_drewN _ _ _⟩ | exact ⟨rfl, _, Eq.trans (World.drewN_drewN _ _ _) (congrArg (World.drewN _) (Nat.add_assoc _ _ _))⟩))); try go_wp2_with (first | (go_at_call 17; (with_reducible refine (neonwrightlaw03_same.calls k1 _ _ (rd_L2 l0 x5_1) _ _ (rd_L2 l1 x5_1) false _ ?side1 ?side2 ?side3 ?side4 A7.out).mono ?_); (case side1 => repeat (first | exact HR147_0.out | (with_reducible refine Kd.C_alloc ?_ _) | (with_reducible refine Kd.C_drewN ?_ _) | (with_reducible refine Kd.C_drew ?_))); (case side2 => exact HC147_0.out); (case side3 => repeat (first | exact HR148_0.out | (with_reducible refine Kd.C_alloc ?_ _) | (with_reducible refine Kd.C_drewN ?_ _) | (with_reducible refine Kd.C_drew ?_))); (case side4 => exact HC148_0.out); rintro e w' ⟨rfl, ⟨nd, rfl⟩⟩; (try first | exact ⟨rfl, _, World.drewN_drewN _ _ _⟩ | exact ⟨rfl, _, Eq.trans (World.drewN_drewN _ _ _) (congrArg (World.drewN _) (Nat.add_assoc _ _ _))⟩))))
                go_ret
                exact ⟨by first | rfl | (simp; done) | (simp [*]; done), by repeat (first | exact Drawn0.refl _ | apply Drawn0.step)⟩
            · rw [if_neg c6] at H
              exact absurd H (by simp)
          · rw [if_neg c5] at H
            exact absurd H (by simp)
        · rw [if_neg c4] at H
          have c4b0 : decide (x5_1 < (l0.length : Int)) = false := decide_eq_false c4
          clear c4
          obtain rfl := Option.some.inj H
          go_wp2
          repeat (go_quiet (fail); try go_wp2)
          go_ret
          exact ⟨by first | rfl | (simp; done) | (simp [*]; done), by repeat (first | exact Drawn0.refl _ | apply Drawn0.step)⟩
  · rw [if_neg c3] at H
    have c3b0 : ((l0.length : Int) == (l1.length : Int)) = false := beq_eq_false_iff_ne.mpr c3
    have c3b1 : ((l0.length : Int) != (l1.length : Int)) = true := bne_iff_ne.mpr c3
    have c3b2 : (l0.length == l1.length) = false := by first | simpa using c3 | (simp at c3 ⊢; omega)
    obtain rfl := Option.some.inj H
    go_enter Try.func32, Try.ntmps32
    go_wp2
    repeat (go_quiet (fail); try go_wp2)
    go_ret
    exact ⟨by first | rfl | (simp; done) | (simp [*]; done), by repeat (first | exact Drawn0.refl _ | apply Drawn0.step)⟩

end Go.Proofs.Ytgchhheajngbfaa.P
