/- Several texts of this session in one file, in build order: Pf35, Pf20, Pf52, Pf22, Berger, Unord, Alive. -/
import Derived.Test.YtgchhheajngbfaaJCodeUnordered1
import Derived.Test.YtgchhheajngbfaaJCodeUnordered2
namespace Go.Proofs.Ytgchhheajngbfaa.P
open Go.RowKit Go.Proofs.YtgchhheajngbfaaW.PrintWords Go.Proofs.YtgchhheajngbfaaW.PrintLast Go.Proofs.YtgchhheajngbfaaW.PrintMore
attribute [local go_sem] max2_int min2_int max_two min_two max_three min_three max_four min_four   -- for this text's walks alone
set_option linter.unusedVariables false
set_option linter.unusedSimpArgs false

/-! ### neonwrightref03_Lit: function 35 -/
def neonwrightref03_Lit.l0 : Nat → Int → Int → Option (Int)
  | 0, _, _ => none
  | k + 1, x0, x3 => if x0 > 0 then (neonwrightref03_Lit.l0 k (wrap64 (Int.tdiv x0 2)) (wrap64 (x3 + (Int.tmod x0 2)))) else (some x3)
def neonwrightref03_Lit.f (k : Nat) (a0 : Int) : Option (Int) := neonwrightref03_Lit.l0 k a0 0
theorem neonwrightref03_Lit.mono_l : ∀ k, (∀ y0 y1, LeO (neonwrightref03_Lit.l0 k y0 y1) (neonwrightref03_Lit.l0 (k + 1) y0 y1))
  | 0 => fun _ _ r h => by simp [neonwrightref03_Lit.l0] at h
  | k + 1 => by
    have ih0 := neonwrightref03_Lit.mono_l k
    · intro y0 y1
      unfold neonwrightref03_Lit.l0
      repeat' first
      | (with_reducible exact ih0 _ _)
      | (with_reducible exact LeO.refl _)
      | (with_reducible exact LeO.none _)
      | (with_reducible refine LeO.ite ?_ ?_)
      | (with_reducible refine LeO.bind ?_ (fun _ => ?_))
      | exact ih0 _ _
      | exact LeO.none _
      | refine LeO.ite ?_ ?_
      | refine LeO.bind ?_ (fun _ => ?_)
theorem neonwrightref03_Lit.mono : ∀ a0 k, LeO (neonwrightref03_Lit.f k a0) (neonwrightref03_Lit.f (k + 1) a0) := by
  intro a0 k
  have ih0 := neonwrightref03_Lit.mono_l k
  unfold neonwrightref03_Lit.f
  repeat' first
      | (with_reducible exact ih0 _ _)
      | (with_reducible exact LeO.refl _)
      | (with_reducible exact LeO.none _)
      | (with_reducible refine LeO.ite ?_ ?_)
      | (with_reducible refine LeO.bind ?_ (fun _ => ?_))
      | exact ih0 _ _
      | exact LeO.none _
      | refine LeO.ite ?_ ?_
      | refine LeO.bind ?_ (fun _ => ?_)
set_option maxHeartbeats 8000000 in
set_option maxRecDepth 100000 in
theorem neonwrightref03_Lit.calls (k : Nat) (a0 : Int) (r : Int) (w : World) (h : neonwrightref03_Lit.f k a0 = some r) :
    Calls Try.prog 35 #[.int .i64 a0] w fun e w' => e = .returned (.int .i64 r) ∧ Drawn0 w w' := by
  have H : (neonwrightref03_Lit.l0 k a0 0) = some r := h
  clear h
  have H' := Aside0.mk H
  clear H
  go_enter Try.func35, Try.ntmps35
  go_wp2
  go_loopg [0, 3] k (fun kq v0 v3 w' => ∃ (x0_1 : Int) (x3_1 : Int), v0 = .int .i64 x0_1 ∧ v3 = .int .i64 x3_1 ∧ Aside0 (neonwrightref03_Lit.l0 kq x0_1 x3_1 = some r) ∧ Aside0 (kq ≤ k) ∧ Drawn0 w w')
  case atStart => exact ⟨(a0), (0), (by first | rfl | (simp; done) | (simp [*]; done)), (by first | rfl | (simp; done) | (simp [*]; done)), H', ⟨Nat.le_refl _⟩, by repeat (first | exact Drawn0.refl _ | apply Drawn0.step)⟩
  case round =>
    clear H'
    obtain ⟨x0_1, x3_1, rfl, rfl, HA, HK1, ⟨m1, rfl⟩⟩ := hrel
    cases gk with
    | zero => exact absurd HA.out (by simp [neonwrightref03_Lit.l0])
    | succ k1 =>
      have H := HA.out
      clear HA
      simp only [neonwrightref03_Lit.l0] at H
      by_cases c2 : x0_1 > 0
      · rw [if_pos c2] at H
        have c2b0 : decide (0 < x0_1) = true := decide_eq_true c2
        clear c2
        have H' := Aside0.mk H
        clear H
        go_wp2
        go_roundg k1
        case measure => have := HK1.out; omega
        case rel => exact ⟨(wrap64 (Int.tdiv x0_1 2)), (wrap64 (x3_1 + (Int.tmod x0_1 2))), (by first | rfl | (simp; done) | (simp [*]; done)), (by first | rfl | (simp; done) | (simp [*]; done)), H', ⟨by have := HK1.out; omega⟩, by repeat (first | exact Drawn0.refl _ | apply Drawn0.step)⟩
      · rw [if_neg c2] at H
        have c2b0 : decide (0 < x0_1) = false := decide_eq_false c2
        clear c2
        obtain rfl := Option.some.inj H
        go_wp2
        go_ret
        exact ⟨by first | rfl | (simp; done) | (simp [*]; done), by repeat (first | exact Drawn0.refl _ | apply Drawn0.step)⟩

end Go.Proofs.Ytgchhheajngbfaa.P

namespace Go.Proofs.Ytgchhheajngbfaa.P
open Go.RowKit Go.Proofs.YtgchhheajngbfaaW.PrintWords Go.Proofs.YtgchhheajngbfaaW.PrintLast Go.Proofs.YtgchhheajngbfaaW.PrintMore
attribute [local go_sem] max2_int min2_int max_two min_two max_three min_three max_four min_four   -- for this text's walks alone
set_option linter.unusedVariables false
set_option linter.unusedSimpArgs false

/-! ### neonwrightref03_Berger: function 20 -/
def neonwrightref03_Berger.f (k : Nat) (a0 : Int) (a1 : Int) : Option (Int × Int) := (neonwrightref03_Tubes.f a0).bind fun t190 => (if t190 = true then (if a1 < 0 then (some (0, 2)) else (if 0 ≤ a0 then (if a1 ≥ (shl .i64 1 a0) then (some (0, 2)) else ((neonwrightref03_Lit.f k a1).bind fun t191 => (some (wrap64 (a1 + (shl .i64 (wrap64 (a0 - t191)) a0)), 0)))) else (none))) else (some (0, 2)))
theorem neonwrightref03_Berger.mono : ∀ a0 a1 k, LeO (neonwrightref03_Berger.f k a0 a1) (neonwrightref03_Berger.f (k + 1) a0 a1) := by
  intro a0 a1 k
  unfold neonwrightref03_Berger.f
  repeat' first
      | (with_reducible exact neonwrightref03_Lit.mono _ _)
      | (with_reducible exact LeO.refl _)
      | (with_reducible exact LeO.none _)
      | (with_reducible refine LeO.ite ?_ ?_)
      | (with_reducible refine LeO.bind ?_ (fun _ => ?_))
      | exact neonwrightref03_Lit.mono _ _
      | exact LeO.none _
      | refine LeO.ite ?_ ?_
      | refine LeO.bind ?_ (fun _ => ?_)
set_option maxHeartbeats 8000000 in
set_option maxRecDepth 100000 in
theorem neonwrightref03_Berger.calls (k : Nat) (a0 : Int) (a1 : Int) (r1 : Int) (r2 : Int) (w : World) (h : neonwrightref03_Berger.f k a0 a1 = some (r1, r2)) :
    Calls Try.prog 20 #[.int .i64 a0, .int .i64 a1] w fun e w' => e = .returned (.tuple #[.int .i64 r1, .int .i64 r2]) ∧ Drawn0 w w' := by
  have H : ((neonwrightref03_Tubes.f a0).bind fun t190 => (if t190 = true then (if a1 < 0 then (some (0, 2)) else (if 0 ≤ a0 then (if a1 ≥ (shl .i64 1 a0) then (some (0, 2)) else ((neonwrightref03_Lit.f k a1).bind fun t191 => (some (wrap64 (a1 + (shl .i64 (wrap64 (a0 - t191)) a0)), 0)))) else (none))) else (some (0, 2)))) = some (r1, r2) := h
  clear h
  replace H := Option.bind_eq_some_iff.mp H
  obtain ⟨t190, A30, H⟩ := H
  replace H : (if t190 = true then (if a1 < 0 then (some (0, 2)) else (if 0 ≤ a0 then (if a1 ≥ (shl .i64 1 a0) then (some (0, 2)) else ((neonwrightref03_Lit.f k a1).bind fun t191 => (some (wrap64 (a1 + (shl .i64 (wrap64 (a0 - t191)) a0)), 0)))) else (none))) else (some (0, 2))) = some (r1, r2) := H
  have A3 := Aside0.mk A30
  clear A30
  by_cases c4 : t190 = true
  · subst c4
    have H1 : (if a1 < 0 then (some (0, 2)) else (if 0 ≤ a0 then (if a1 ≥ (shl .i64 1 a0) then (some (0, 2)) else ((neonwrightref03_Lit.f k a1).bind fun t191 => (some (wrap64 (a1 + (shl .i64 (wrap64 (a0 - t191)) a0)), 0)))) else (none))) = some (r1, r2) := by rw [if_pos rfl] at H; exact H
    clear H
    have H := H1
    clear H1
    by_cases c5 : a1 < 0
    · rw [if_pos c5] at H
      have c5b0 : decide (a1 < 0) = true := decide_eq_true c5
      clear c5
      simp only [Option.some.injEq, Prod.mk.injEq] at H
      obtain ⟨rfl, rfl⟩ := H
      go_enter Try.func20, Try.ntmps20
      go_wp2_with (first | ((with_reducible refine gate_callee (f := 50) rfl ?_); refine goesL_ (some 7) rfl rfl Try.func50 (by kernel_rfl) rfl #[.int .i64 a0] rfl (by (try simp only [List.map_toArray, List.map_cons, List.map_nil]); first | done | rfl | (simp only [List.length_drop, List.length_take]; rfl)) ?_; (with_reducible refine (neonwrightref03_Tubes.calls a0 true _ A3.out).mono ?_); rintro e w' ⟨rfl, ⟨nd, rfl⟩⟩; refine ⟨_, rfl, ?_⟩))
      go_ret2
      exact ⟨by first | rfl | (simp; done) | (simp [*]; done), by repeat (first | exact Drawn0.refl _ | apply Drawn0.step)⟩
    · rw [if_neg c5] at H
      have c5b0 : decide (a1 < 0) = false := decide_eq_false c5
      clear c5
      by_cases c6 : 0 ≤ a0
      · rw [if_pos c6] at H
        have c6b0 := eq_true c6
        have c6b1 : decide (0 ≤ a0) = true := decide_eq_true c6
        clear c6
        obtain ⟨ji7, hji7⟩ : ∃ j_ : Int, (shl .i64 1 a0) = j_ := ⟨_, rfl⟩
        replace H : (if a1 ≥ (ji7) then (some (0, 2)) else ((neonwrightref03_Lit.f k a1).bind fun t191 => (some (wrap64 (a1 + (shl .i64 (wrap64 (a0 - t191)) a0)), 0)))) = some (r1, r2) := by first | (rw [hji7] at H; exact H) | (simp only [hji7] at H ⊢; exact H)
        (try rw [hji7] at A3)
        have hji7_ : (IntKind.i64.wrap (1 * 2 ^ min a0.toNat 64)) = ji7 := hji7
        have hji7z : a0 ≤ 64 → (IntKind.i64.wrap (1 * 2 ^ a0.toNat)) = ji7 := shl_small hji7
        have hji7u : (IntKind.i64.wrap (2 ^ min a0.toNat 64)) = ji7 := by have h_ := hji7_; rw [Int.one_mul] at h_; exact h_
        have hji7v : a0 ≤ 64 → (IntKind.i64.wrap (2 ^ a0.toNat)) = ji7 := fun hle_ => by have h_ := hji7z hle_; rw [Int.one_mul] at h_; exact h_
        have hji7y : (wrap64 (1 * 2 ^ min a0.toNat 64)) = ji7 := (i64_w _).symm.trans hji7_
        have hji7x : a0 ≤ 64 → (wrap64 (1 * 2 ^ a0.toNat)) = ji7 := fun h_ => (i64_w _).symm.trans (hji7z h_)
        by_cases c8 : a1 ≥ (ji7)
        · rw [if_pos c8] at H
          have c8b0 : decide ((ji7) ≤ a1) = true := decide_eq_true c8
          clear c8
          simp only [Option.some.injEq, Prod.mk.injEq] at H
          obtain ⟨rfl, rfl⟩ := H
          go_enter Try.func20, Try.ntmps20
          go_wp2_with (first | ((with_reducible refine gate_callee (f := 50) rfl ?_); refine goesL_ (some 7) rfl rfl Try.func50 (by kernel_rfl) rfl #[.int .i64 a0] rfl (by (try simp only [List.map_toArray, List.map_cons, List.map_nil]); first | done | rfl | (simp only [List.length_drop, List.length_take]; rfl)) ?_; (with_reducible refine (neonwrightref03_Tubes.calls a0 true _ A3.out).mono ?_); rintro e w' ⟨rfl, ⟨nd, rfl⟩⟩; refine ⟨_, rfl, ?_⟩))
          go_ret2
          exact ⟨by first | rfl | (simp; done) | (simp only [← hji7] <;> (first | rfl | simp)) | (simp [*]; done), by repeat (first | exact Drawn0.refl _ | apply Drawn0.step)⟩
        · rw [if_neg c8] at H
          have c8b0 : decide ((ji7) ≤ a1) = false := decide_eq_false c8
          clear c8
          replace H := Option.bind_eq_some_iff.mp H
          obtain ⟨t191, A90, H⟩ := H
          replace H : (some (wrap64 (a1 + (shl .i64 (wrap64 (a0 - t191)) a0)), 0)) = some (r1, r2) := H
          have A9 := Aside0.mk A90
          clear A90
          have c10b0 := eq_true (of_decide_eq_true (by first | (with_reducible assumption) | assumption) : 0 ≤ a0)
          obtain ⟨ji11, hji11⟩ : ∃ j_ : Int, (shl .i64 (wrap64 (a0 - t191)) a0) = j_ := ⟨_, rfl⟩
          replace H : (some (wrap64 (a1 + (ji11)), 0)) = some (r1, r2) := by first | (rw [hji11] at H; exact H) | (simp only [hji11] at H ⊢; exact H)
          (try rw [hji11] at A3)
          (try rw [hji11] at A9)
          have hji11_ : (IntKind.i64.wrap ((wrap64 (a0 - t191)) * 2 ^ min a0.toNat 64)) = ji11 := hji11
          have hji11z : a0 ≤ 64 → (IntKind.i64.wrap ((wrap64 (a0 - t191)) * 2 ^ a0.toNat)) = ji11 := shl_small hji11
          have hji11y : (wrap64 ((wrap64 (a0 - t191)) * 2 ^ min a0.toNat 64)) = ji11 := (i64_w _).symm.trans hji11_
          have hji11x : a0 ≤ 64 → (wrap64 ((wrap64 (a0 - t191)) * 2 ^ a0.toNat)) = ji11 := fun h_ => (i64_w _).symm.trans (hji11z h_)
          simp only [Option.some.injEq, Prod.mk.injEq] at H
          obtain ⟨rfl, rfl⟩ := H
          go_enter Try.func20, Try.ntmps20
          go_wp2_with (first | ((with_reducible refine gate_callee (f := 50) rfl ?_); refine goesL_ (some 7) rfl rfl Try.func50 (by kernel_rfl) rfl #[.int .i64 a0] rfl (by (try simp only [List.map_toArray, List.map_cons, List.map_nil]); first | done | rfl | (simp only [List.length_drop, List.length_take]; rfl)) ?_; (with_reducible refine (neonwrightref03_Tubes.calls a0 true _ A3.out).mono ?_); rintro e w' ⟨rfl, ⟨nd, rfl⟩⟩; refine ⟨_, rfl, ?_⟩) | ((with_reducible refine gate_callee (f := 35) rfl ?_); refine goesL_ (some 22) rfl rfl Try.func35 (by kernel_rfl) rfl #[.int .i64 a1] rfl (by (try simp only [List.map_toArray, List.map_cons, List.map_nil]); first | done | rfl | (simp only [List.length_drop, List.length_take]; rfl)) ?_; (with_reducible refine (neonwrightref03_Lit.calls k a1 t191 _ A9.out).mono ?_); rintro e w' ⟨rfl, ⟨nd, rfl⟩⟩; refine ⟨_, rfl, ?_⟩))
          go_ret2
          exact ⟨by first | rfl | (simp; done) | (simp only [← hji7, ← hji11] <;> (first | rfl | simp)) | (simp [*]; done), by repeat (first | exact Drawn0.refl _ | apply Drawn0.step)⟩
      · rw [if_neg c6] at H
        exact absurd H (by simp)
  · replace c4 := Bool.eq_false_iff.mpr c4
    subst c4
    have H1 : (some (0, 2)) = some (r1, r2) := by rw [if_neg (show ¬ (false = true) by decide)] at H; exact H
    clear H
    have H := H1
    clear H1
    simp only [Option.some.injEq, Prod.mk.injEq] at H
    obtain ⟨rfl, rfl⟩ := H
    go_enter Try.func20, Try.ntmps20
    go_wp2_with (first | ((with_reducible refine gate_callee (f := 50) rfl ?_); refine goesL_ (some 7) rfl rfl Try.func50 (by kernel_rfl) rfl #[.int .i64 a0] rfl (by (try simp only [List.map_toArray, List.map_cons, List.map_nil]); first | done | rfl | (simp only [List.length_drop, List.length_take]; rfl)) ?_; (with_reducible refine (neonwrightref03_Tubes.calls a0 false _ A3.out).mono ?_); rintro e w' ⟨rfl, ⟨nd, rfl⟩⟩; refine ⟨_, rfl, ?_⟩))
    go_ret2
    exact ⟨by first | rfl | (simp; done) | (simp [*]; done), by repeat (first | exact Drawn0.refl _ | apply Drawn0.step)⟩

end Go.Proofs.Ytgchhheajngbfaa.P

namespace Go.Proofs.Ytgchhheajngbfaa.P
open Go.RowKit Go.Proofs.YtgchhheajngbfaaW.PrintWords Go.Proofs.YtgchhheajngbfaaW.PrintLast Go.Proofs.YtgchhheajngbfaaW.PrintMore
attribute [local go_sem] max2_int min2_int max_two min_two max_three min_three max_four min_four   -- for this text's walks alone
set_option linter.unusedVariables false
set_option linter.unusedSimpArgs false

/-! ### neonwrightref03_bits: function 52 -/
def neonwrightref03_bits.l0 : Nat → Int → Int → Option (Int)
  | 0, _, _ => none
  | k + 1, x0, x3 => if x0 > 0 then (neonwrightref03_bits.l0 k (wrap64 (Int.tdiv x0 2)) (wrap64 (x3 + 1))) else (some x3)
def neonwrightref03_bits.f (k : Nat) (a0 : Int) : Option (Int) := neonwrightref03_bits.l0 k a0 0
theorem neonwrightref03_bits.mono_l : ∀ k, (∀ y0 y1, LeO (neonwrightref03_bits.l0 k y0 y1) (neonwrightref03_bits.l0 (k + 1) y0 y1))
  | 0 => fun _ _ r h => by simp [neonwrightref03_bits.l0] at h
  | k + 1 => by
    have ih0 := neonwrightref03_bits.mono_l k
    · intro y0 y1
      unfold neonwrightref03_bits.l0
      repeat' first
      | (with_reducible exact ih0 _ _)
      | (with_reducible exact LeO.refl _)
      | (with_reducible exact LeO.none _)
      | (with_reducible refine LeO.ite ?_ ?_)
      | (with_reducible refine LeO.bind ?_ (fun _ => ?_))
      | exact ih0 _ _
      | exact LeO.none _
      | refine LeO.ite ?_ ?_
      | refine LeO.bind ?_ (fun _ => ?_)
theorem neonwrightref03_bits.mono : ∀ a0 k, LeO (neonwrightref03_bits.f k a0) (neonwrightref03_bits.f (k + 1) a0) := by
  intro a0 k
  have ih0 := neonwrightref03_bits.mono_l k
  unfold neonwrightref03_bits.f
  repeat' first
      | (with_reducible exact ih0 _ _)
      | (with_reducible exact LeO.refl _)
      | (with_reducible exact LeO.none _)
      | (with_reducible refine LeO.ite ?_ ?_)
      | (with_reducible refine LeO.bind ?_ (fun _ => ?_))
      | exact ih0 _ _
      | exact LeO.none _
      | refine LeO.ite ?_ ?_
      | refine LeO.bind ?_ (fun _ => ?_)
set_option maxHeartbeats 8000000 in
set_option maxRecDepth 100000 in
theorem neonwrightref03_bits.calls (k : Nat) (a0 : Int) (r : Int) (w : World) (h : neonwrightref03_bits.f k a0 = some r) :
    Calls Try.prog 52 #[.int .i64 a0] w fun e w' => e = .returned (.int .i64 r) ∧ Drawn0 w w' := by
  have H : (neonwrightref03_bits.l0 k a0 0) = some r := h
  clear h
  have H' := Aside0.mk H
  clear H
  go_enter Try.func52, Try.ntmps52
  go_wp2
  go_loopg [0, 3] k (fun kq v0 v3 w' => ∃ (x0_1 : Int) (x3_1 : Int), v0 = .int .i64 x0_1 ∧ v3 = .int .i64 x3_1 ∧ Aside0 (neonwrightref03_bits.l0 kq x0_1 x3_1 = some r) ∧ Aside0 (kq ≤ k) ∧ Drawn0 w w')
  case atStart => exact ⟨(a0), (0), (by first | rfl | (simp; done) | (simp [*]; done)), (by first | rfl | (simp; done) | (simp [*]; done)), H', ⟨Nat.le_refl _⟩, by repeat (first | exact Drawn0.refl _ | apply Drawn0.step)⟩
  case round =>
    clear H'
    obtain ⟨x0_1, x3_1, rfl, rfl, HA, HK1, ⟨m1, rfl⟩⟩ := hrel
    cases gk with
    | zero => exact absurd HA.out (by simp [neonwrightref03_bits.l0])
    | succ k1 =>
      have H := HA.out
      clear HA
      simp only [neonwrightref03_bits.l0] at H
      by_cases c2 : x0_1 > 0
      · rw [if_pos c2] at H
        have c2b0 : decide (0 < x0_1) = true := decide_eq_true c2
        clear c2
        have H' := Aside0.mk H
        clear H
        go_wp2
        go_roundg k1
        case measure => have := HK1.out; omega
        case rel => exact ⟨(wrap64 (Int.tdiv x0_1 2)), (wrap64 (x3_1 + 1)), (by first | rfl | (simp; done) | (simp [*]; done)), (by first | rfl | (simp; done) | (simp [*]; done)), H', ⟨by have := HK1.out; omega⟩, by repeat (first | exact Drawn0.refl _ | apply Drawn0.step)⟩
      · rw [if_neg c2] at H
        have c2b0 : decide (0 < x0_1) = false := decide_eq_false c2
        clear c2
        obtain rfl := Option.some.inj H
        go_wp2
        go_ret
        exact ⟨by first | rfl | (simp; done) | (simp [*]; done), by repeat (first | exact Drawn0.refl _ | apply Drawn0.step)⟩

end Go.Proofs.Ytgchhheajngbfaa.P

namespace Go.Proofs.Ytgchhheajngbfaa.P
open Go.RowKit Go.Proofs.YtgchhheajngbfaaW.PrintWords Go.Proofs.YtgchhheajngbfaaW.PrintLast Go.Proofs.YtgchhheajngbfaaW.PrintMore
attribute [local go_sem] max2_int min2_int max_two min_two max_three min_three max_four min_four   -- for this text's walks alone
set_option linter.unusedVariables false
set_option linter.unusedSimpArgs false

/-! ### neonwrightref03_Decode: function 22 -/
def neonwrightref03_Decode.f (k : Nat) (a0 : Int) (a1 : Int) : Option (Int × Bool × Int) := (neonwrightref03_Tubes.f a0).bind fun t195 => (if t195 = true then (if a1 < 0 then (some (0, false, 2)) else ((neonwrightref03_bits.f k a0).bind fun t196 => (if 0 ≤ (wrap64 (a0 + t196)) then (if a1 ≥ (shl .i64 1 (wrap64 (a0 + t196))) then (some (0, false, 2)) else (if 0 ≤ a0 then (if (shl .i64 1 a0) = 0 then (none) else ((neonwrightref03_Lit.f k (Int.tmod a1 (shl .i64 1 a0))).bind fun t197 => (some (Int.tmod a1 (shl .i64 1 a0), (a1 == (wrap64 ((Int.tmod a1 (shl .i64 1 a0)) + (shl .i64 (wrap64 (a0 - t197)) a0)))), 0)))) else (none))) else (none)))) else (some (0, false, 2)))
theorem neonwrightref03_Decode.mono : ∀ a0 a1 k, LeO (neonwrightref03_Decode.f k a0 a1) (neonwrightref03_Decode.f (k + 1) a0 a1) := by
  intro a0 a1 k
  unfold neonwrightref03_Decode.f
  repeat' first
      | (with_reducible exact neonwrightref03_Lit.mono _ _)
      | (with_reducible exact neonwrightref03_bits.mono _ _)
      | (with_reducible exact LeO.refl _)
      | (with_reducible exact LeO.none _)
      | (with_reducible refine LeO.ite ?_ ?_)
      | (with_reducible refine LeO.bind ?_ (fun _ => ?_))
      | exact neonwrightref03_Lit.mono _ _
      | exact neonwrightref03_bits.mono _ _
      | exact LeO.none _
      | refine LeO.ite ?_ ?_
      | refine LeO.bind ?_ (fun _ => ?_)
set_option maxHeartbeats 8000000 in
set_option maxRecDepth 100000 in
theorem neonwrightref03_Decode.calls (k : Nat) (a0 : Int) (a1 : Int) (r1 : Int) (r2 : Bool) (r3 : Int) (w : World) (h : neonwrightref03_Decode.f k a0 a1 = some (r1, r2, r3)) :
    Calls Try.prog 22 #[.int .i64 a0, .int .i64 a1] w fun e w' => e = .returned (.tuple #[.int .i64 r1, .bool r2, .int .i64 r3]) ∧ Drawn0 w w' := by
  have H : ((neonwrightref03_Tubes.f a0).bind fun t195 => (if t195 = true then (if a1 < 0 then (some (0, false, 2)) else ((neonwrightref03_bits.f k a0).bind fun t196 => (if 0 ≤ (wrap64 (a0 + t196)) then (if a1 ≥ (shl .i64 1 (wrap64 (a0 + t196))) then (some (0, false, 2)) else (if 0 ≤ a0 then (if (shl .i64 1 a0) = 0 then (none) else ((neonwrightref03_Lit.f k (Int.tmod a1 (shl .i64 1 a0))).bind fun t197 => (some (Int.tmod a1 (shl .i64 1 a0), (a1 == (wrap64 ((Int.tmod a1 (shl .i64 1 a0)) + (shl .i64 (wrap64 (a0 - t197)) a0)))), 0)))) else (none))) else (none)))) else (some (0, false, 2)))) = some (r1, r2, r3) := h
  clear h
  replace H := Option.bind_eq_some_iff.mp H
  obtain ⟨t195, A30, H⟩ := H
  replace H : (if t195 = true then (if a1 < 0 then (some (0, false, 2)) else ((neonwrightref03_bits.f k a0).bind fun t196 => (if 0 ≤ (wrap64 (a0 + t196)) then (if a1 ≥ (shl .i64 1 (wrap64 (a0 + t196))) then (some (0, false, 2)) else (if 0 ≤ a0 then (if (shl .i64 1 a0) = 0 then (none) else ((neonwrightref03_Lit.f k (Int.tmod a1 (shl .i64 1 a0))).bind fun t197 => (some (Int.tmod a1 (shl .i64 1 a0), (a1 == (wrap64 ((Int.tmod a1 (shl .i64 1 a0)) + (shl .i64 (wrap64 (a0 - t197)) a0)))), 0)))) else (none))) else (none)))) else (some (0, false, 2))) = some (r1, r2, r3) := H
  have A3 := Aside0.mk A30
  clear A30
  by_cases c4 : t195 = true
  · subst c4
    have H1 : (if a1 < 0 then (some (0, false, 2)) else ((neonwrightref03_bits.f k a0).bind fun t196 => (if 0 ≤ (wrap64 (a0 + t196)) then (if a1 ≥ (shl .i64 1 (wrap64 (a0 + t196))) then (some (0, false, 2)) else (if 0 ≤ a0 then (if (shl .i64 1 a0) = 0 then (none) else ((neonwrightref03_Lit.f k (Int.tmod a1 (shl .i64 1 a0))).bind fun t197 => (some (Int.tmod a1 (shl .i64 1 a0), (a1 == (wrap64 ((Int.tmod a1 (shl .i64 1 a0)) + (shl .i64 (wrap64 (a0 - t197)) a0)))), 0)))) else (none))) else (none)))) = some (r1, r2, r3) := by rw [if_pos rfl] at H; exact H
    clear H
    have H := H1
    clear H1
    by_cases c5 : a1 < 0
    · rw [if_pos c5] at H
      have c5b0 : decide (a1 < 0) = true := decide_eq_true c5
      clear c5
      simp only [Option.some.injEq, Prod.mk.injEq] at H
      obtain ⟨rfl, rfl, rfl⟩ := H
      go_enter Try.func22, Try.ntmps22
      go_wp2_with (first | (go_at_call 50; (with_reducible refine (neonwrightref03_Tubes.calls a0 true _ A3.out).mono ?_); rintro e w' ⟨rfl, ⟨nd, rfl⟩⟩; (try first | exact ⟨rfl, _, World.drewN_drewN _ _ _⟩ | exact ⟨rfl, _, Eq.trans (World.drewN_drewN _ _ _) (congrArg (World.drewN _) (Nat.add_assoc _ _ _))⟩)))
      repeat (go_quiet (first | (go_at_call 50; (with_reducible refine (neonwrightref03_Tubes.calls a0 true _ A3.out).mono ?_); rintro e w' ⟨rfl, ⟨nd, rfl⟩⟩; (try first | exact ⟨rfl, _, World.drewN_drewN _ _ _⟩ | exact ⟨rfl, _, Eq.trans (World.drewN_drewN _ _ _) (congrArg (World.drewN _) (Nat.add_assoc _ _ _))⟩))); try go_wp2_with (first | (go_at_call 50; (with_reducible refine (neonwrightref03_Tubes.calls a0 true _ A3.out).mono ?_); rintro e w' ⟨rfl, ⟨nd, rfl⟩⟩; (try first | exact ⟨rfl, _, World.drewN_drewN _ _ _⟩ | exact ⟨rfl, _, Eq.trans (World.drewN_drewN _ _ _) (congrArg (World.drewN _) (Nat.add_assoc _ _ _))⟩))))
      go_ret3
      exact ⟨by first | rfl | (simp; done) | (simp [*]; done), by repeat (first | exact Drawn0.refl _ | apply Drawn0.step)⟩
    · rw [if_neg c5] at H
      have c5b0 : decide (a1 < 0) = false := decide_eq_false c5
      clear c5
      replace H := Option.bind_eq_some_iff.mp H
      obtain ⟨t196, A60, H⟩ := H
      replace H : (if 0 ≤ (wrap64 (a0 + t196)) then (if a1 ≥ (shl .i64 1 (wrap64 (a0 + t196))) then (some (0, false, 2)) else (if 0 ≤ a0 then (if (shl .i64 1 a0) = 0 then (none) else ((neonwrightref03_Lit.f k (Int.tmod a1 (shl .i64 1 a0))).bind fun t197 => (some (Int.tmod a1 (shl .i64 1 a0), (a1 == (wrap64 ((Int.tmod a1 (shl .i64 1 a0)) + (shl .i64 (wrap64 (a0 - t197)) a0)))), 0)))) else (none))) else (none)) = some (r1, r2, r3) := H
      have A6 := Aside0.mk A60
      clear A60
      obtain ⟨ji7, hji7⟩ : ∃ j_ : Int, (wrap64 (a0 + t196)) = j_ := ⟨_, rfl⟩
      replace H : (if 0 ≤ (ji7) then (if a1 ≥ (shl .i64 1 (ji7)) then (some (0, false, 2)) else (if 0 ≤ a0 then (if (shl .i64 1 a0) = 0 then (none) else ((neonwrightref03_Lit.f k (Int.tmod a1 (shl .i64 1 a0))).bind fun t197 => (some (Int.tmod a1 (shl .i64 1 a0), (a1 == (wrap64 ((Int.tmod a1 (shl .i64 1 a0)) + (shl .i64 (wrap64 (a0 - t197)) a0)))), 0)))) else (none))) else (none)) = some (r1, r2, r3) := by first | (rw [hji7] at H; exact H) | (simp only [hji7] at H ⊢; exact H)
      (try rw [hji7] at A3)
      (try rw [hji7] at A6)
      have hji7w : (IntKind.i64.wrap (a0 + t196)) = ji7 := (i64_w _).trans hji7
      by_cases c8 : 0 ≤ (ji7)
      · rw [if_pos c8] at H
        have c8b0 := eq_true c8
        have c8b1 : decide (0 ≤ (ji7)) = true := decide_eq_true c8
        clear c8
        obtain ⟨ji9, hji9⟩ : ∃ j_ : Int, (shl .i64 1 (ji7)) = j_ := ⟨_, rfl⟩
        replace H : (if a1 ≥ (ji9) then (some (0, false, 2)) else (if 0 ≤ a0 then (if (shl .i64 1 a0) = 0 then (none) else ((neonwrightref03_Lit.f k (Int.tmod a1 (shl .i64 1 a0))).bind fun t197 => (some (Int.tmod a1 (shl .i64 1 a0), (a1 == (wrap64 ((Int.tmod a1 (shl .i64 1 a0)) + (shl .i64 (wrap64 (a0 - t197)) a0)))), 0)))) else (none))) = some (r1, r2, r3) := by first | (rw [hji9] at H; exact H) | (simp only [hji9] at H ⊢; exact H)
        (try rw [hji9] at A3)
        (try rw [hji9] at A6)
        have hji9_ : (IntKind.i64.wrap (1 * 2 ^ min (ji7).toNat 64)) = ji9 := hji9
        have hji9z : (ji7) ≤ 64 → (IntKind.i64.wrap (1 * 2 ^ (ji7).toNat)) = ji9 := shl_small hji9
        have hji9u : (IntKind.i64.wrap (2 ^ min (ji7).toNat 64)) = ji9 := by have h_ := hji9_; rw [Int.one_mul] at h_; exact h_
        have hji9v : (ji7) ≤ 64 → (IntKind.i64.wrap (2 ^ (ji7).toNat)) = ji9 := fun hle_ => by have h_ := hji9z hle_; rw [Int.one_mul] at h_; exact h_
        have hji9y : (wrap64 (1 * 2 ^ min (ji7).toNat 64)) = ji9 := (i64_w _).symm.trans hji9_
        have hji9x : (ji7) ≤ 64 → (wrap64 (1 * 2 ^ (ji7).toNat)) = ji9 := fun h_ => (i64_w _).symm.trans (hji9z h_)
        by_cases c10 : a1 ≥ (ji9)
        · rw [if_pos c10] at H
          have c10b0 : decide ((ji9) ≤ a1) = true := decide_eq_true c10
          clear c10
          simp only [Option.some.injEq, Prod.mk.injEq] at H
          obtain ⟨rfl, rfl, rfl⟩ := H
          go_enter Try.func22, Try.ntmps22
          go_wp2_with (first | (go_at_call 50; (with_reducible refine (neonwrightref03_Tubes.calls a0 true _ A3.out).mono ?_); rintro e w' ⟨rfl, ⟨nd, rfl⟩⟩; (try first | exact ⟨rfl, _, World.drewN_drewN _ _ _⟩ | exact ⟨rfl, _, Eq.trans (World.drewN_drewN _ _ _) (congrArg (World.drewN _) (Nat.add_assoc _ _ _))⟩)) | (go_at_call 52; (with_reducible refine (neonwrightref03_bits.calls k a0 t196 _ A6.out).mono ?_); rintro e w' ⟨rfl, ⟨nd, rfl⟩⟩; (try first | exact ⟨rfl, _, World.drewN_drewN _ _ _⟩ | exact ⟨rfl, _, Eq.trans (World.drewN_drewN _ _ _) (congrArg (World.drewN _) (Nat.add_assoc _ _ _))⟩)))
          repeat (go_quiet (first | (go_at_call 50; (with_reducible refine (neonwrightref03_Tubes.calls a0 true _ A3.out).mono ?_); rintro e w' ⟨rfl, ⟨nd, rfl⟩⟩; (try first | exact ⟨rfl, _, World.drewN_drewN _ _ _⟩ | exact ⟨rfl, _, Eq.trans (World.drewN_drewN _ _ _) (congrArg (World.drewN _) (Nat.add_assoc _ _ _))⟩)) | (go_at_call 52; (with_reducible refine (neonwrightref03_bits.calls k a0 t196 _ A6.out).mono ?_); rintro e w' ⟨rfl, ⟨nd, rfl⟩⟩; (try first | exact ⟨rfl, _, World.drewN_drewN _ _ _⟩ | exact ⟨rfl, _, Eq.trans (World.drewN_drewN _ _ _) (congrArg (World.drewN _) (Nat.add_assoc _ _ _))⟩))); try go_wp2_with (first | (go_at_call 50; (with_reducible refine (neonwrightref03_Tubes.calls a0 true _ A3.out).mono ?_); rintro e w' ⟨rfl, ⟨nd, rfl⟩⟩; (try first | exact ⟨rfl, _, World.drewN_drewN _ _ _⟩ | exact ⟨rfl, _, Eq.trans (World.drewN_drewN _ _ _) (congrArg (World.drewN _) (Nat.add_assoc _ _ _))⟩)) | (go_at_call 52; (with_reducible refine (neonwrightref03_bits.calls k a0 t196 _ A6.out).mono ?_); rintro e w' ⟨rfl, ⟨nd, rfl⟩⟩; (try first | exact ⟨rfl, _, World.drewN_drewN _ _ _⟩ | exact ⟨rfl, _, Eq.trans (World.drewN_drewN _ _ _) (congrArg (World.drewN _) (Nat.add_assoc _ _ _))⟩))))
          go_ret3
          exact ⟨by first | rfl | (simp; done) | (simp only [← hji7, ← hji9] <;> (first | rfl | simp)) | (simp [*]; done), by repeat (first | exact Drawn0.refl _ | apply Drawn0.step)⟩
        · rw [if_neg c10] at H
          have c10b0 : decide ((ji9) ≤ a1) = false := decide_eq_false c10
          clear c10
          by_cases c11 : 0 ≤ a0
          · rw [if_pos c11] at H
            have c11b0 := eq_true c11
            have c11b1 : decide (0 ≤ a0) = true := decide_eq_true c11
            clear c11
            obtain ⟨ji12, hji12⟩ : ∃ j_ : Int, (shl .i64 1 a0) = j_ := ⟨_, rfl⟩
            replace H : (if (ji12) = 0 then (none) else ((neonwrightref03_Lit.f k (Int.tmod a1 (ji12))).bind fun t197 => (some (Int.tmod a1 (ji12), (a1 == (wrap64 ((Int.tmod a1 (ji12)) + (shl .i64 (wrap64 (a0 - t197)) a0)))), 0)))) = some (r1, r2, r3) := by first | (rw [hji12] at H; exact H) | (simp only [hji12] at H ⊢; exact H)
            (try rw [hji12] at A3)
            (try rw [hji12] at A6)
            have hji12_ : (IntKind.i64.wrap (1 * 2 ^ min a0.toNat 64)) = ji12 := hji12
            have hji12z : a0 ≤ 64 → (IntKind.i64.wrap (1 * 2 ^ a0.toNat)) = ji12 := shl_small hji12
            have hji12u : (IntKind.i64.wrap (2 ^ min a0.toNat 64)) = ji12 := by have h_ := hji12_; rw [Int.one_mul] at h_; exact h_
            have hji12v : a0 ≤ 64 → (IntKind.i64.wrap (2 ^ a0.toNat)) = ji12 := fun hle_ => by have h_ := hji12z hle_; rw [Int.one_mul] at h_; exact h_
            have hji12y : (wrap64 (1 * 2 ^ min a0.toNat 64)) = ji12 := (i64_w _).symm.trans hji12_
            have hji12x : a0 ≤ 64 → (wrap64 (1 * 2 ^ a0.toNat)) = ji12 := fun h_ => (i64_w _).symm.trans (hji12z h_)
            by_cases c13 : (ji12) = 0
            · rw [if_pos c13] at H
              exact absurd H (by simp)
            · rw [if_neg c13] at H
              have c13b0 : ((ji12) == 0) = false := beq_eq_false_iff_ne.mpr c13
              have c13b1 : ((ji12) != 0) = true := bne_iff_ne.mpr c13
              replace H := Option.bind_eq_some_iff.mp H
              obtain ⟨t197, A140, H⟩ := H
              replace H : (some (Int.tmod a1 (ji12), (a1 == (wrap64 ((Int.tmod a1 (ji12)) + (shl .i64 (wrap64 (a0 - t197)) a0)))), 0)) = some (r1, r2, r3) := H
              have A14 := Aside0.mk A140
              clear A140
              have c15b0 := eq_true (of_decide_eq_true (by first | (with_reducible assumption) | assumption) : 0 ≤ a0)
              obtain ⟨ji16, hji16⟩ : ∃ j_ : Int, (shl .i64 (wrap64 (a0 - t197)) a0) = j_ := ⟨_, rfl⟩
              replace H : (some (Int.tmod a1 (ji12), (a1 == (wrap64 ((Int.tmod a1 (ji12)) + (ji16)))), 0)) = some (r1, r2, r3) := by first | (rw [hji16] at H; exact H) | (simp only [hji16] at H ⊢; exact H)
              (try rw [hji16] at A3)
              (try rw [hji16] at A6)
              (try rw [hji16] at A14)
              have hji16_ : (IntKind.i64.wrap ((wrap64 (a0 - t197)) * 2 ^ min a0.toNat 64)) = ji16 := hji16
              have hji16z : a0 ≤ 64 → (IntKind.i64.wrap ((wrap64 (a0 - t197)) * 2 ^ a0.toNat)) = ji16 := shl_small hji16
              have hji16y : (wrap64 ((wrap64 (a0 - t197)) * 2 ^ min a0.toNat 64)) = ji16 := (i64_w _).symm.trans hji16_
              have hji16x : a0 ≤ 64 → (wrap64 ((wrap64 (a0 - t197)) * 2 ^ a0.toNat)) = ji16 := fun h_ => (i64_w _).symm.trans (hji16z h_)
              simp only [Option.some.injEq, Prod.mk.injEq] at H
              obtain ⟨rfl, rfl, rfl⟩ := H
              go_enter Try.func22, Try.ntmps22
              go_wp2_with (first | (go_at_call 50; (with_reducible refine (neonwrightref03_Tubes.calls a0 true _ A3.out).mono ?_); rintro e w' ⟨rfl, ⟨nd, rfl⟩⟩; (try first | exact ⟨rfl, _, World.drewN_drewN _ _ _⟩ | exact ⟨rfl, _, Eq.trans (World.drewN_drewN _ _ _) (congrArg (World.drewN _) (Nat.add_assoc _ _ _))⟩)) | (go_at_call 52; (with_reducible refine (neonwrightref03_bits.calls k a0 t196 _ A6.out).mono ?_); rintro e w' ⟨rfl, ⟨nd, rfl⟩⟩; (try first | exact ⟨rfl, _, World.drewN_drewN _ _ _⟩ | exact ⟨rfl, _, Eq.trans (World.drewN_drewN _ _ _) (congrArg (World.drewN _) (Nat.add_assoc _ _ _))⟩)) | (go_at_call 35; (with_reducible refine (neonwrightref03_Lit.calls k (Int.tmod a1 (ji12)) t197 _ A14.out).mono ?_); rintro e w' ⟨rfl, ⟨nd, rfl⟩⟩; (try first | exact ⟨rfl, _, World.drewN_drewN _ _ _⟩ | exact ⟨rfl, _, Eq.trans (World.drewN_drewN _ _ _) (congrArg (World.drewN _) (Nat.add_assoc _ _ _))⟩)))
              repeat (go_quiet (first | (go_at_call 50; (with_reducible refine (neonwrightref03_Tubes.calls a0 true _ A3.out).mono ?_); rintro e w' ⟨rfl, ⟨nd, rfl⟩⟩; (try first | exact ⟨rfl, _, World.drewN_drewN _ _ _⟩ | exact ⟨rfl, _, Eq.trans (World.drewN_drewN _ _ _) (congrArg (World.drewN _) (Nat.add_assoc _ _ _))⟩)) | (go_at_call 52; (with_reducible refine (neonwrightref03_bits.calls k a0 t196 _ A6.out).mono ?_); rintro e w' ⟨rfl, ⟨nd, rfl⟩⟩; (try first | exact ⟨rfl, _, World.drewN_drewN _ _ _⟩ | exact ⟨rfl, _, Eq.trans (World.drewN_drewN _ _ _) (congrArg (World.drewN _) (Nat.add_assoc _ _ _))⟩)) | (go_at_call 35; (with_reducible refine (neonwrightref03_Lit.calls k (Int.tmod a1 (ji12)) t197 _ A14.out).mono ?_); rintro e w' ⟨rfl, ⟨nd, rfl⟩⟩; (try first | exact ⟨rfl, _, World.drewN_drewN _ _ _⟩ | exact ⟨rfl, _, Eq.trans (World.drewN_drewN _ _ _) (congrArg (World.drewN _) (Nat.add_assoc _ _ _))⟩))); try go_wp2_with (first | (go_at_call 50; (with_reducible refine (neonwrightref03_Tubes.calls a0 true _ A3.out).mono ?_); rintro e w' ⟨rfl, ⟨nd, rfl⟩⟩; (try first | exact ⟨rfl, _, World.drewN_drewN _ _ _⟩ | exact ⟨rfl, _, Eq.trans (World.drewN_drewN _ _ _) (congrArg (World.drewN _) (Nat.add_assoc _ _ _))⟩)) | (go_at_call 52; (with_reducible refine (neonwrightref03_bits.calls k a0 t196 _ A6.out).mono ?_); rintro e w' ⟨rfl, ⟨nd, rfl⟩⟩; (try first | exact ⟨rfl, _, World.drewN_drewN _ _ _⟩ | exact ⟨rfl, _, Eq.trans (World.drewN_drewN _ _ _) (congrArg (World.drewN _) (Nat.add_assoc _ _ _))⟩)) | (go_at_call 35; (with_reducible refine (neonwrightref03_Lit.calls k (Int.tmod a1 (ji12)) t197 _ A14.out).mono ?_); rintro e w' ⟨rfl, ⟨nd, rfl⟩⟩; (try first | exact ⟨rfl, _, World.drewN_drewN _ _ _⟩ | exact ⟨rfl, _, Eq.trans (World.drewN_drewN _ _ _) (congrArg (World.drewN _) (Nat.add_assoc _ _ _))⟩))))
              go_ret3
              exact ⟨by first | rfl | (simp; done) | (simp only [← hji7, ← hji9, ← hji12, ← hji16] <;> (first | rfl | simp)) | (simp [*]; done), by repeat (first | exact Drawn0.refl _ | apply Drawn0.step)⟩
          · rw [if_neg c11] at H
            exact absurd H (by simp)
      · rw [if_neg c8] at H
        exact absurd H (by simp)
  · replace c4 := Bool.eq_false_iff.mpr c4
    subst c4
    have H1 : (some (0, false, 2)) = some (r1, r2, r3) := by rw [if_neg (show ¬ (false = true) by decide)] at H; exact H
    clear H
    have H := H1
    clear H1
    simp only [Option.some.injEq, Prod.mk.injEq] at H
    obtain ⟨rfl, rfl, rfl⟩ := H
    go_enter Try.func22, Try.ntmps22
    go_wp2_with (first | (go_at_call 50; (with_reducible refine (neonwrightref03_Tubes.calls a0 false _ A3.out).mono ?_); rintro e w' ⟨rfl, ⟨nd, rfl⟩⟩; (try first | exact ⟨rfl, _, World.drewN_drewN _ _ _⟩ | exact ⟨rfl, _, Eq.trans (World.drewN_drewN _ _ _) (congrArg (World.drewN _) (Nat.add_assoc _ _ _))⟩)))
    repeat (go_quiet (first | (go_at_call 50; (with_reducible refine (neonwrightref03_Tubes.calls a0 false _ A3.out).mono ?_); rintro e w' ⟨rfl, ⟨nd, rfl⟩⟩; (try first | exact ⟨rfl, _, World.drewN_drewN _ _ _⟩ | exact ⟨rfl, _, Eq.trans (World.drewN_drewN _ _ _) (congrArg (World.drewN _) (Nat.add_assoc _ _ _))⟩))); try go_wp2_with (first | (go_at_call 50; (with_reducible refine (neonwrightref03_Tubes.calls a0 false _ A3.out).mono ?_); rintro e w' ⟨rfl, ⟨nd, rfl⟩⟩; (try first | exact ⟨rfl, _, World.drewN_drewN _ _ _⟩ | exact ⟨rfl, _, Eq.trans (World.drewN_drewN _ _ _) (congrArg (World.drewN _) (Nat.add_assoc _ _ _))⟩))))
    go_ret3
    exact ⟨by first | rfl | (simp; done) | (simp [*]; done), by repeat (first | exact Drawn0.refl _ | apply Drawn0.step)⟩

end Go.Proofs.Ytgchhheajngbfaa.P

set_option linter.unusedSimpArgs false
set_option linter.unusedVariables false
namespace Go.Proofs.Ytgchhheajngbfaa.P
open Go.RowKit Go.Proofs.YtgchhheajngbfaaW.PrintWords Go.Proofs.YtgchhheajngbfaaW.PrintMore Go.Proofs.Ytgchhheajngbfaa.Kit Go.Lib

theorem popAux_zero : ∀ k, popAux k 0 = 0 := by
  intro k
  induction k with
  | zero => rfl
  | succ k ih => simp only [popAux]; simpa using ih
theorem popAux_le : ∀ f g x, x < 2 ^ f → popAux g x ≤ f := by
  intro f
  induction f with
  | zero =>
    intro g x h
    obtain rfl : x = 0 := by simpa using h
    rw [popAux_zero]
    exact Nat.le_refl _
  | succ f ih =>
    intro g x h
    cases g with
    | zero => exact Nat.zero_le _
    | succ g =>
      simp only [popAux]
      have := ih g (x / 2) (by rw [Nat.pow_succ] at h; omega)
      omega
theorem popAux_fuel : ∀ f g x, x < 2 ^ f → f ≤ g → popAux g x = popAux f x := by
  intro f
  induction f with
  | zero =>
    intro g x h _
    obtain rfl : x = 0 := by simpa using h
    rw [popAux_zero, popAux_zero]
  | succ f ih =>
    intro g x h hg
    obtain ⟨g, rfl⟩ : ∃ j, g = j + 1 := ⟨g - 1, by omega⟩
    simp only [popAux]
    rw [ih g (x / 2) (by rw [Nat.pow_succ] at h; omega) (by omega)]
theorem ones_lt {n s : Nat} (h : s < 2 ^ n) : onesCount s ≤ n := popAux_le n 64 s h

theorem shl_nat (x n : Nat) (hn : n ≤ 63) (h : x * 2 ^ n < 9223372036854775808) : shl .i64 (x : Int) (n : Int) = ((x * 2 ^ n : Nat) : Int) := by
  unfold shl
  have hb : IntKind.i64.bits = 64 := rfl
  rw [hb, Nat.min_eq_left (by omega), IntKind.wrap_i64]
  have h3 : ((x : Int) * (2 : Int) ^ ((n : Int)).toNat) = ((x * 2 ^ n : Nat) : Int) := by simp
  rw [h3]
  generalize x * 2 ^ n = p at h
  omega

theorem lit_l0 : ∀ (f x acc : Nat), x < 2 ^ f → f ≤ 62 → acc + f ≤ 64 → Ev (fun k => neonwrightref03_Lit.l0 k (x : Int) (acc : Int)) ((acc + popAux f x : Nat) : Int) := by
  intro f
  induction f with
  | zero =>
    intro x acc h _ _
    obtain rfl : x = 0 := by simpa using h
    refine Ev.step (f := fun _ => some ((acc + popAux 0 0 : Nat) : Int)) (fun k => ?_) (Ev.now _)
    simp only [neonwrightref03_Lit.l0]
    rw [if_neg (by omega)]
    simp [popAux]
  | succ f ih =>
    intro x acc h hf ha
    rcases Nat.eq_zero_or_pos x with rfl | hx
    · refine Ev.step (f := fun _ => some ((acc + popAux (f + 1) 0 : Nat) : Int)) (fun k => ?_) (Ev.now _)
      simp only [neonwrightref03_Lit.l0]
      rw [if_neg (by omega), popAux_zero]
      rfl
    · have hp := pow_le62 (n := f + 1) (by omega)
      by_cases ha64 : acc + x % 2 + f ≤ 64
      · have h1 := ih (x / 2) (acc + x % 2) (by rw [Nat.pow_succ] at h; omega) (by omega) ha64
        have e0 : acc + popAux (f + 1) x = acc + x % 2 + popAux f (x / 2) := by simp only [popAux]; omega
        rw [e0]
        refine Ev.step (f := fun k => neonwrightref03_Lit.l0 k ((x / 2 : Nat) : Int) ((acc + x % 2 : Nat) : Int)) (fun k => ?_) h1
        simp only [neonwrightref03_Lit.l0]
        have e1 : wrap64 (Int.tdiv (x : Int) 2) = ((x / 2 : Nat) : Int) := by
          have : Int.tdiv (x : Int) 2 = ((x / 2 : Nat) : Int) := tdivn x 2
          rw [this]
          exact w64n _ (by omega)
        have e2 : wrap64 ((acc : Int) + Int.tmod (x : Int) 2) = ((acc + x % 2 : Nat) : Int) := by
          have : Int.tmod (x : Int) 2 = ((x % 2 : Nat) : Int) := tmodn x 2
          rw [this, ← Int.natCast_add]
          exact w64n _ (by omega)
        rw [if_pos (by omega), e1, e2]
      · exfalso
        omega
/-- The reference's way of counting. -/
theorem lit_ev (s f : Nat) (h : s < 2 ^ f) (hf : f ≤ 62) : Ev (fun k => neonwrightref03_Lit.f k (s : Int)) (onesCount s : Int) := by
  have h1 := lit_l0 f s 0 h hf (by omega)
  rw [Nat.zero_add, ← popAux_fuel f 64 s h (by omega)] at h1
  exact h1

theorem sized_t {n : Nat} (h1 : 1 ≤ n) (h2 : n ≤ 12) : code_sized.f (n : Int) = some true := by
  unfold code_sized.f
  rw [if_pos (by omega), decide_eq_true (by omega)]
theorem sized_f {n : Int} (h : n < 1 ∨ 12 < n) : code_sized.f n = some false := by
  unfold code_sized.f
  by_cases h1 : n ≥ 1
  · rw [if_pos h1, decide_eq_false (by omega)]
  · rw [if_neg h1]
theorem tubes_t {n : Nat} (h1 : 1 ≤ n) (h2 : n ≤ 12) : neonwrightref03_Tubes.f (n : Int) = some true := by
  unfold neonwrightref03_Tubes.f
  rw [if_pos (by omega), decide_eq_true (by omega)]
theorem tubes_f {n : Int} (h : n < 1 ∨ 12 < n) : neonwrightref03_Tubes.f n = some false := by
  unfold neonwrightref03_Tubes.f
  by_cases h1 : n ≥ 1
  · rw [if_pos h1, decide_eq_false (by omega)]
  · rw [if_neg h1]
theorem sign_t {n s : Nat} (h2 : n ≤ 12) (h : s < 2 ^ n) : code_sign.f (n : Int) (s : Int) = some true := by
  unfold code_sign.f
  rw [if_pos (by omega), if_pos (by omega), shl1n (by omega), decide_eq_true (by omega)]
theorem sign_f {n : Nat} {s : Int} (h2 : n ≤ 12) (h : s < 0 ∨ ((2 ^ n : Nat) : Int) ≤ s) : code_sign.f (n : Int) s = some false := by
  unfold code_sign.f
  by_cases h1 : s ≥ 0
  · rw [if_pos h1, if_pos (by omega), shl1n (by omega), decide_eq_false (by omega)]
  · rw [if_neg h1]
def wordN (n s : Nat) : Nat := s + (n - onesCount s) * 2 ^ n
theorem wordN_lt {n s : Nat} (h2 : n ≤ 12) (h : s < 2 ^ n) : wordN n s < 2 ^ 20 ∧ (n - onesCount s) * 2 ^ n ≤ 12 * 4096 ∧ 2 ^ n ≤ 4096 := by
  have hp : 2 ^ n ≤ 2 ^ 12 := Nat.pow_le_pow_right (by decide) h2
  have hp' : 2 ^ n ≤ 4096 := hp
  have := Nat.mul_le_mul (show n - onesCount s ≤ 12 from by omega) hp'
  unfold wordN
  omega
theorem word_t {n s : Nat} (h2 : n ≤ 12) (h : s < 2 ^ n) : code_word.f (n : Int) (s : Int) = some (wordN n s : Int) := by
  obtain ⟨l1, l2, l3⟩ := wordN_lt h2 h
  have l1' : wordN n s < 1048576 := l1
  have ho := ones_lt h
  unfold code_word.f bits_OnesCount.f
  have e0 : IntKind.u64.wrap (s : Int) = (s : Int) := u64w (by omega)
  have e1 : wrap64 ((n : Int) - (onesCount s : Int)) = ((n - onesCount s : Nat) : Int) := by rw [w64 (by omega) (by omega)]; omega
  rw [e0, if_pos (by omega), Int.toNat_natCast]
  simp only [Option.bind_some]
  rw [if_pos (by omega), e1, shl_nat _ _ (by omega) (by omega), or64 _ _ (by omega) (by omega)]
  congr 2
  unfold wordN
  rw [Nat.or_comm, Nat.mul_comm, ← Nat.two_pow_add_eq_or_of_lt h]
  omega
theorem berger_t {n s : Nat} (h1 : 1 ≤ n) (h2 : n ≤ 12) (h : s < 2 ^ n) : code_Berger.f (n : Int) (s : Int) = some ((wordN n s : Int), 0) := by
  unfold code_Berger.f
  rw [sized_t h1 h2]
  simp only [Option.bind_some, if_true]
  rw [sign_t h2 h]
  simp only [Option.bind_some, if_true]
  rw [word_t h2 h]
  rfl
theorem berger_f {n s : Int} (h : n < 1 ∨ 12 < n ∨ s < 0 ∨ ((2 ^ n.toNat : Nat) : Int) ≤ s) : code_Berger.f n s = some (0, 2) := by
  unfold code_Berger.f
  by_cases h1 : n < 1 ∨ 12 < n
  · rw [sized_f h1]
    rfl
  · obtain ⟨m, rfl⟩ : ∃ m : Nat, n = m := ⟨n.toNat, by omega⟩
    rw [sized_t (by omega) (by omega)]
    simp only [Option.bind_some, if_true]
    rw [Int.toNat_natCast] at h
    rw [sign_f (by omega) (by omega)]
    rfl
theorem rword {n s : Nat} (h2 : n ≤ 12) (h : s < 2 ^ n) : wrap64 ((s : Int) + (shl .i64 (wrap64 ((n : Int) - (onesCount s : Int))) (n : Int))) = (wordN n s : Int) := by
  obtain ⟨l1, l2, l3⟩ := wordN_lt h2 h
  have l1' : wordN n s < 1048576 := l1
  have ho := ones_lt h
  have e1 : wrap64 ((n : Int) - (onesCount s : Int)) = ((n - onesCount s : Nat) : Int) := by rw [w64 (by omega) (by omega)]; omega
  rw [e1, shl_nat _ _ (by omega) (by omega), ← Int.natCast_add]
  exact w64n _ (by unfold wordN at l1'; omega)
theorem rberger_t {n s : Nat} (h1 : 1 ≤ n) (h2 : n ≤ 12) (h : s < 2 ^ n) : Ev (fun k => neonwrightref03_Berger.f k (n : Int) (s : Int)) ((wordN n s : Int), 0) := by
  refine Ev.congr (f := fun k => (neonwrightref03_Lit.f k (s : Int)).bind fun t192 => (some (wrap64 ((s : Int) + (shl .i64 (wrap64 ((n : Int) - t192)) (n : Int))), 0))) (fun k => ?_) ?_
  · simp only [neonwrightref03_Berger.f]
    rw [tubes_t h1 h2]
    simp only [Option.bind_some, if_true]
    rw [if_neg (by omega), if_pos (by omega), shl1n (by omega), if_neg (by omega)]
  · refine Ev.bnd (lit_ev s n h (by omega)) (Ev.ret ?_)
    rw [rword h2 h]
theorem rberger_f {n s : Int} (h : n < 1 ∨ 12 < n ∨ s < 0 ∨ ((2 ^ n.toNat : Nat) : Int) ≤ s) : Ev (fun k => neonwrightref03_Berger.f k n s) ((0 : Int), (2 : Int)) := by
  refine Ev.at 0 (fun k _ => ?_)
  unfold neonwrightref03_Berger.f
  by_cases h1 : n < 1 ∨ 12 < n
  · rw [tubes_f h1]
    rfl
  · obtain ⟨m, rfl⟩ : ∃ m : Nat, n = m := ⟨n.toNat, by omega⟩
    rw [tubes_t (by omega) (by omega)]
    simp only [Option.bind_some, if_true]
    rw [Int.toNat_natCast] at h
    by_cases h2 : s < 0
    · rw [if_pos h2]
    · rw [if_neg h2, if_pos (by omega), shl1n (by omega), if_pos (by omega)]

/-! Decode. -/
theorem bitLen12 : ∀ n : Fin 13, Lib.bitLen n.val ≤ 4 := by decide +kernel
theorem rbits_l0 : ∀ (f x acc : Nat), x < 2 ^ f → f ≤ 62 → acc + f ≤ 64 → Ev (fun k => neonwrightref03_bits.l0 k (x : Int) (acc : Int)) ((acc + bitLenAux f x : Nat) : Int) := by
  intro f
  induction f with
  | zero =>
    intro x acc h _ _
    obtain rfl : x = 0 := by simpa using h
    refine Ev.step (f := fun _ => some ((acc + bitLenAux 0 0 : Nat) : Int)) (fun k => ?_) (Ev.now _)
    simp only [neonwrightref03_bits.l0]
    rw [if_neg (by omega)]
    simp [bitLenAux]
  | succ f ih =>
    intro x acc h hf ha
    have hp := pow_le62 (n := f + 1) (by omega)
    rcases Nat.eq_zero_or_pos x with rfl | hx
    · refine Ev.step (f := fun _ => some ((acc + bitLenAux (f + 1) 0 : Nat) : Int)) (fun k => ?_) (Ev.now _)
      simp only [neonwrightref03_bits.l0]
      rw [if_neg (by omega)]
      simp [bitLenAux]
    · have h1 := ih (x / 2) (acc + 1) (by rw [Nat.pow_succ] at h; omega) (by omega) (by omega)
      have e0 : acc + bitLenAux (f + 1) x = acc + 1 + bitLenAux f (x / 2) := by simp only [bitLenAux]; rw [if_neg (by omega)]; omega
      rw [e0]
      refine Ev.step (f := fun k => neonwrightref03_bits.l0 k ((x / 2 : Nat) : Int) ((acc + 1 : Nat) : Int)) (fun k => ?_) h1
      simp only [neonwrightref03_bits.l0]
      have e1 : wrap64 (Int.tdiv (x : Int) 2) = ((x / 2 : Nat) : Int) := by
        have : Int.tdiv (x : Int) 2 = ((x / 2 : Nat) : Int) := tdivn x 2
        rw [this]
        exact w64n _ (by omega)
      have e2 : wrap64 ((acc : Int) + 1) = ((acc + 1 : Nat) : Int) := by
        rw [w64 (by omega) (by omega)]; omega
      rw [if_pos (by omega), e1, e2]
theorem rbits_ev (x f : Nat) (h : x < 2 ^ f) (hf : f ≤ 62) : Ev (fun k => neonwrightref03_bits.f k (x : Int)) (Lib.bitLen x : Int) := by
  have h1 := rbits_l0 f x 0 h hf (by omega)
  rw [Nat.zero_add, ← bitLenAux_fuel f x h 64 (by omega)] at h1
  exact h1
theorem pow16 {n m : Nat} (h : n ≤ 12) (hm : m ≤ 4) : 2 ^ (n + m) ≤ 65536 := by
  have : 2 ^ (n + m) ≤ 2 ^ 16 := Nat.pow_le_pow_right (by decide) (by omega)
  simpa using this
theorem wdec (p : Nat) (h0 : 0 < p) (hp : p ≤ 4096) : wrap64 ((p : Int) - 1) = ((p - 1 : Nat) : Int) := by
  rw [w64 (by omega) (by omega)]
  omega
theorem lt_big {p : Nat} (hp : p ≤ 65536) : p < 9223372036854775808 := by omega
theorem mask {n r : Nat} (hn : n ≤ 12) (hr : r < 65536) : Go.bits .and .i64 (r : Int) (wrap64 ((shl .i64 1 (n : Int)) - 1)) = ((r % 2 ^ n : Nat) : Int) := by
  have hp : 2 ^ n ≤ 2 ^ 12 := Nat.pow_le_pow_right (by decide) hn
  have h0 : 0 < 2 ^ n := Nat.two_pow_pos n
  have h62 : n ≤ 62 := by omega
  rw [shl1n h62, wdec (2 ^ n) h0 hp, and64 r (2 ^ n - 1) (lt_big (Nat.le_of_lt hr)) (lt_big (Nat.le_trans (Nat.sub_le _ _) (Nat.le_trans hp (by decide)))), Nat.and_two_pow_sub_one_eq_mod]
theorem int_beq (a b : Nat) : ((a : Int) == (b : Int)) = decide (a = b) := by
  rw [Bool.eq_iff_iff]
  simp
  omega
theorem decode_t {n r : Nat} (h1 : 1 ≤ n) (h2 : n ≤ 12) (h : r < 2 ^ (n + Lib.bitLen n)) : code_Decode.f (n : Int) (r : Int) = some (((r % 2 ^ n : Nat) : Int), decide (wordN n (r % 2 ^ n) = r), 0) := by
  have hb := bitLen12 ⟨n, by omega⟩
  simp only at hb
  have hp := pow16 h2 hb
  have hw : IntKind.u64.wrap (n : Int) = (n : Int) := u64w (by omega)
  have e1 : wrap64 ((n : Int) + (Lib.bitLen n : Int)) = ((n + Lib.bitLen n : Nat) : Int) := by rw [w64 (by omega) (by omega)]; omega
  have hm : r % 2 ^ n < 2 ^ n := Nat.mod_lt _ (Nat.two_pow_pos n)
  unfold code_Decode.f bits_Len.f
  rw [sized_t h1 h2]
  rw [Option.bind_some, if_pos rfl]
  rw [if_neg (by omega), hw, if_pos (by omega), Int.toNat_natCast]
  rw [Option.bind_some]
  have hd := int_beq (wordN n (r % 2 ^ n)) r
  have g1 : (0 : Int) ≤ ((n + Lib.bitLen n : Nat) : Int) := Int.natCast_nonneg _
  have g2 : n + Lib.bitLen n ≤ 62 := by omega
  have g3 : ¬ ((r : Int) ≥ ((2 ^ (n + Lib.bitLen n) : Nat) : Int)) := Int.not_le.2 (Int.ofNat_lt.2 h)
  have g4 : (0 : Int) ≤ (n : Int) := Int.natCast_nonneg _
  rw [e1, if_pos g1, shl1n g2, if_neg g3, if_pos g4, mask h2 (Nat.lt_of_lt_of_le h hp), word_t h2 hm]
  rw [Option.bind_some]
  rw [hd]
theorem decode_f {n r : Int} (h : n < 1 ∨ 12 < n ∨ r < 0 ∨ ((2 ^ (n.toNat + Lib.bitLen n.toNat) : Nat) : Int) ≤ r) : code_Decode.f n r = some (0, false, 2) := by
  unfold code_Decode.f bits_Len.f
  by_cases h1 : n < 1 ∨ 12 < n
  · rw [sized_f h1]
    rfl
  · obtain ⟨m, rfl⟩ : ∃ m : Nat, n = m := ⟨n.toNat, by omega⟩
    rw [sized_t (by omega) (by omega)]
    rw [Option.bind_some, if_pos rfl]
    rw [Int.toNat_natCast] at h
    by_cases h2 : r < 0
    · rw [if_pos h2]
    · have hb := bitLen12 ⟨m, by omega⟩
      simp only at hb
      have hw : IntKind.u64.wrap (m : Int) = (m : Int) := u64w (by omega)
      have e1 : wrap64 ((m : Int) + (Lib.bitLen m : Int)) = ((m + Lib.bitLen m : Nat) : Int) := by rw [w64 (by omega) (by omega)]; omega
      rw [if_neg h2, hw, if_pos (by omega), Int.toNat_natCast]
      rw [Option.bind_some]
      rw [e1, if_pos (by omega), shl1n (by omega), if_pos (by omega)]
theorem rdecode_t {n r : Nat} (h1 : 1 ≤ n) (h2 : n ≤ 12) (h : r < 2 ^ (n + Lib.bitLen n)) : Ev (fun k => neonwrightref03_Decode.f k (n : Int) (r : Int)) (((r % 2 ^ n : Nat) : Int), decide (wordN n (r % 2 ^ n) = r), 0) := by
  have hb := bitLen12 ⟨n, by omega⟩
  simp only at hb
  have hp := pow16 h2 hb
  have e1 : wrap64 ((n : Int) + (Lib.bitLen n : Int)) = ((n + Lib.bitLen n : Nat) : Int) := by rw [w64 (by omega) (by omega)]; omega
  have hm : r % 2 ^ n < 2 ^ n := Nat.mod_lt _ (Nat.two_pow_pos n)
  have h0 : 0 < 2 ^ n := Nat.two_pow_pos n
  have h13 : n < 2 ^ 4 := by simp only [Nat.reducePow]; omega
  refine Ev.congr (f := fun k => (neonwrightref03_bits.f k (n : Int)).bind fun t196 => (if 0 ≤ (wrap64 ((n : Int) + t196)) then (if (r : Int) ≥ (shl .i64 1 (wrap64 ((n : Int) + t196))) then (some (0, false, 2)) else (if 0 ≤ (n : Int) then (if ((2 ^ n : Nat) : Int) = 0 then (none) else ((neonwrightref03_Lit.f k (((r % 2 ^ n : Nat) : Int))).bind fun t197 => (some ((((r % 2 ^ n : Nat) : Int)), ((r : Int) == (wrap64 ((((r % 2 ^ n : Nat) : Int)) + (shl .i64 (wrap64 ((n : Int) - t197)) (n : Int))))), 0)))) else (none))) else (none))) (fun k => ?_) ?_
  · unfold neonwrightref03_Decode.f
    rw [tubes_t h1 h2]
    rw [Option.bind_some, if_pos rfl]
    rw [if_neg (by omega), shl1n (by omega), tmodn]
  · refine Ev.bnd (rbits_ev n 4 h13 (by omega)) (Ev.pos (by rw [e1]; omega) (Ev.neg (by rw [e1, shl1n (by omega)]; omega) (Ev.pos (by omega) (Ev.neg (by omega) (Ev.bnd (lit_ev _ n hm (by omega)) (Ev.ret ?_))))))
    rw [rword h2 hm, int_beq]
    rw [show decide (r = wordN n (r % 2 ^ n)) = decide (wordN n (r % 2 ^ n) = r) from decide_eq_decide.2 eq_comm]
theorem rdecode_f {n r : Int} (h : n < 1 ∨ 12 < n ∨ r < 0 ∨ ((2 ^ (n.toNat + Lib.bitLen n.toNat) : Nat) : Int) ≤ r) : Ev (fun k => neonwrightref03_Decode.f k n r) ((0 : Int), false, (2 : Int)) := by
  by_cases h1 : n < 1 ∨ 12 < n
  · refine Ev.at 0 (fun k _ => ?_)
    unfold neonwrightref03_Decode.f
    rw [tubes_f h1]
    rfl
  · obtain ⟨m, rfl⟩ : ∃ m : Nat, n = m := ⟨n.toNat, by omega⟩
    rw [Int.toNat_natCast] at h
    by_cases h2 : r < 0
    · refine Ev.at 0 (fun k _ => ?_)
      unfold neonwrightref03_Decode.f
      rw [tubes_t (by omega) (by omega)]
      rw [Option.bind_some, if_pos rfl]
      rw [if_pos h2]
    · have hb := bitLen12 ⟨m, by omega⟩
      simp only at hb
      have e1 : wrap64 ((m : Int) + (Lib.bitLen m : Int)) = ((m + Lib.bitLen m : Nat) : Int) := by rw [w64 (by omega) (by omega)]; omega
      have h13 : m < 2 ^ 4 := by simp only [Nat.reducePow]; omega
      obtain ⟨k0, hk0⟩ := rbits_ev m 4 h13 (by omega)
      refine Ev.at k0 (fun k hk => ?_)
      unfold neonwrightref03_Decode.f
      rw [tubes_t (by omega) (by omega)]
      rw [Option.bind_some, if_pos rfl]
      have hk1 : neonwrightref03_bits.f k (m : Int) = some (Lib.bitLen m : Int) := hk0 k hk
      rw [if_neg h2, hk1]
      rw [Option.bind_some]
      rw [e1, if_pos (by omega), shl1n (by omega), if_pos (by omega)]

end Go.Proofs.Ytgchhheajngbfaa.P

set_option linter.unusedSimpArgs false
set_option linter.unusedVariables false
namespace Go.Proofs.Ytgchhheajngbfaa.P
open Go.RowKit Go.Proofs.YtgchhheajngbfaaW.PrintWords Go.Proofs.YtgchhheajngbfaaW.PrintMore Go.Proofs.Ytgchhheajngbfaa.Kit

def signsN (n : Int) (l : List Int) : Int := if 1 ≤ n ∧ n ≤ 12 then (if (l.length : Int) > 200 then 3 else if sgOk n [] l = true then 0 else 2) else 2
theorem signs_f (n : Int) (l : List Int) : code_signs.f n l = some (signsN n l) := by
  unfold code_signs.f signsN
  split
  · split
    · rfl
    · split <;> rfl
  · rfl
theorem take_has' (l : List Int) (k : Nat) (hk : k < l.length) (x : Int) : (l.take (k + 1)).contains x = ((l.take k).contains x || l[k] == x) := by
  rw [List.take_succ_eq_append_getElem hk, Bool.eq_iff_iff, List.contains_iff_mem, List.mem_append, List.mem_singleton, Bool.or_eq_true, beq_iff_eq, List.contains_iff_mem]
  constructor
  · rintro (h | h)
    · exact .inl h
    · exact .inr h.symm
  · rintro (h | h)
    · exact .inl h
    · exact .inr h.symm
theorem rsigns_l1 (n : Int) (l : List Int) (hl : l.length ≤ 300) (i : Nat) (hi : i < l.length) (R : Int) (hR : Ev (fun k => neonwrightref03_Signs.l0 k n l ((i + 1 : Nat) : Int)) R) :
    ∀ d j, j + d = i → (l.take j).contains l[i] = false → Ev (fun k => neonwrightref03_Signs.l1 k n l (i : Int) (j : Int)) (if (l.take i).contains l[i] = true then 2 else R) := by
  intro d
  induction d with
  | zero =>
    intro j h hc
    obtain rfl : j = i := by omega
    rw [hc]
    refine Ev.step (f := fun k => neonwrightref03_Signs.l0 k n l ((j + 1 : Nat) : Int)) (fun k => ?_) hR
    simp only [neonwrightref03_Signs.l1]
    rw [if_neg (by omega), w64 (x := (j : Int) + 1) (by omega) (by omega)]
    rfl
  | succ d ih =>
    intro j h hc
    have hj : j < l.length := by omega
    have hnx := take_has' l j hj l[i]
    rw [hc, Bool.false_or] at hnx
    refine Ev.step (f := fun k => if l[j] = l[i] then some 2 else neonwrightref03_Signs.l1 k n l (i : Int) ((j + 1 : Nat) : Int)) (fun k => ?_) ?_
    · simp only [neonwrightref03_Signs.l1]
      rw [if_pos (by omega), if_pos (by omega), if_pos (by omega), if_pos (by omega), if_pos (by omega), rd_get l j hj, rd_get l i hi, w64 (x := (j : Int) + 1) (by omega) (by omega)]
      rfl
    · by_cases e : l[j] = l[i]
      · refine Ev.pos e ?_
        have : (l.take i).contains l[i] = true := by
          rw [List.contains_iff_mem, List.mem_take_iff_getElem]
          exact ⟨j, by omega, e⟩
        rw [if_pos this]
        exact Ev.now _
      · refine Ev.neg e (ih (j + 1) (by omega) ?_)
        rw [hnx]
        simpa using e
theorem rsigns_l0 (n : Nat) (h2 : n ≤ 12) (l : List Int) (hl : l.length ≤ 300) : ∀ d i, i + d = l.length → Ev (fun k => neonwrightref03_Signs.l0 k (n : Int) l (i : Int)) (if sgOk n (l.take i) (l.drop i) = true then 0 else 2) := by
  intro d
  induction d with
  | zero =>
    intro i h
    rw [List.drop_of_length_le (by omega)]
    refine Ev.step (f := fun _ => some 0) (fun k => ?_) (Ev.now _)
    simp only [neonwrightref03_Signs.l0]
    rw [if_neg (by omega)]
  | succ d ih =>
    intro i h
    have hi : i < l.length := by omega
    have hin : sgIn (n : Int) l[i] = true ↔ (0 ≤ l[i] ∧ l[i] < ((2 ^ n : Nat) : Int)) := by
      unfold sgIn
      rw [Int.toNat_natCast, decide_eq_true_eq]
    rw [sgOk_at (n : Int) l i hi]
    by_cases c : sgIn (n : Int) l[i] = true
    · rw [if_pos c]
      have c' := hin.1 c
      have h1 := rsigns_l1 (n : Int) l hl i hi _ (ih (i + 1) (by omega)) i 0 (by omega) (by simp)
      have e : (if (if (l.take i).contains l[i] = true then false else sgOk (n : Int) (l.take (i + 1)) (l.drop (i + 1))) = true then (0 : Int) else 2) = (if (l.take i).contains l[i] = true then 2 else (if sgOk (n : Int) (l.take (i + 1)) (l.drop (i + 1)) = true then 0 else 2)) := by
        by_cases h3 : (l.take i).contains l[i] = true
        · rw [if_pos h3, if_pos h3]; rfl
        · rw [if_neg h3, if_neg h3]
      rw [e]
      refine Ev.step (f := fun k => neonwrightref03_Signs.j1 k (n : Int) l (i : Int) false) (fun k => ?_) (Ev.step (f := fun k => neonwrightref03_Signs.l1 k (n : Int) l (i : Int) 0) (fun k => ?_) h1)
      · simp only [neonwrightref03_Signs.l0]
        rw [if_pos (by omega), if_pos (by omega), rd_get l i hi, if_neg (by omega), if_pos (by omega), shl1n (by omega), decide_eq_false (by omega)]
      · simp only [neonwrightref03_Signs.j1]
        rfl
    · rw [if_neg c]
      have c' : ¬ (0 ≤ l[i] ∧ l[i] < ((2 ^ n : Nat) : Int)) := fun h => c (hin.2 h)
      refine Ev.step (f := fun k => neonwrightref03_Signs.j1 k (n : Int) l (i : Int) true) (fun k => ?_) (Ev.step (f := fun k => some 2) (fun k => ?_) (Ev.now _))
      · simp only [neonwrightref03_Signs.l0]
        rw [if_pos (by omega), if_pos (by omega), rd_get l i hi]
        by_cases h3 : l[i] < 0
        · rw [if_pos h3]
        · rw [if_neg h3, if_pos (by omega), shl1n (by omega), decide_eq_true (by omega)]
      · simp only [neonwrightref03_Signs.j1]
        rfl
theorem rsigns_ev (n : Int) (l : List Int) : Ev (fun k => neonwrightref03_Signs.f k n l) (signsN n l) := by
  unfold signsN
  by_cases h : 1 ≤ n ∧ n ≤ 12
  · rw [if_pos h]
    obtain ⟨m, rfl⟩ : ∃ m : Nat, n = m := ⟨n.toNat, by omega⟩
    by_cases hl : (l.length : Int) > 200
    · rw [if_pos hl]
      refine Ev.at 0 (fun k _ => ?_)
      unfold neonwrightref03_Signs.f
      rw [tubes_t (by omega) (by omega), Option.bind_some, if_pos rfl, if_pos hl]
    · rw [if_neg hl]
      have h1 := rsigns_l0 m (by omega) l (by omega) l.length 0 (by omega)
      refine Ev.congr (f := fun k => neonwrightref03_Signs.l0 k (m : Int) l 0) (fun k => ?_) (by simpa using h1)
      show neonwrightref03_Signs.f k (m : Int) l = _
      unfold neonwrightref03_Signs.f
      rw [tubes_t (by omega) (by omega), Option.bind_some, if_pos rfl, if_neg hl]
  · rw [if_neg h]
    refine Ev.at 0 (fun k _ => ?_)
    unfold neonwrightref03_Signs.f
    rw [tubes_f (by omega), Option.bind_some, if_neg (by simp)]
theorem signsN_len {n : Int} {l : List Int} (h : signsN n l = 0) : l.length ≤ 200 ∧ 1 ≤ n ∧ n ≤ 12 ∧ sgOk n [] l = true := by
  unfold signsN at h
  split at h
  · split at h
    · cases h
    · split at h
      · rename_i h1 h2 h3
        exact ⟨by omega, h1.1, h1.2, h3⟩
      · cases h
  · cases h

/-! Unordered. -/
def cov (a b : Int) : Bool := Go.bits .and .i64 a b == b
def scan2 (a i : Int) : Int → List Int → Option (List Int)
  | _, [] => none
  | j, x :: xs => if (cov a x || cov x a) = true then some [i, j] else scan2 a i (j + 1) xs
def scan1 : Int → List Int → List Int
  | _, [] => []
  | i, a :: xs => match scan2 a i (i + 1) xs with
    | some r => r
    | none => scan1 (i + 1) xs
theorem unord_l1 (l : List Int) (hl : l.length ≤ 300) (i : Nat) (hi : i < l.length) (R : List Int × Int) (hR : Ev (fun k => code_Unordered.l0 k l l (l.length : Int) ((i + 1 : Nat) : Int)) R) :
    ∀ d j, j + d = l.length → Ev (fun k => code_Unordered.l1 k l (i : Int) l[i] (j : Int) l (l.length : Int) (i : Int)) (match scan2 l[i] i j (l.drop j) with | some r => (r, 0) | none => R) := by
  intro d
  induction d with
  | zero =>
    intro j h
    rw [List.drop_of_length_le (by omega)]
    refine Ev.step (f := fun k => code_Unordered.l0 k l l (l.length : Int) ((i + 1 : Nat) : Int)) (fun k => ?_) hR
    simp only [code_Unordered.l1]
    rw [if_neg (by omega), w64 (x := (i : Int) + 1) (by omega) (by omega)]
    rfl
  | succ d ih =>
    intro j h
    have hj : j < l.length := by omega
    have h1 := ih (j + 1) (by omega)
    rw [List.drop_eq_getElem_cons hj]
    refine Ev.step (f := fun k => if cov l[i] l[j] = true then some ([(i : Int), (j : Int)], 0) else (if cov l[j] l[i] = true then some ([(i : Int), (j : Int)], 0) else code_Unordered.l1 k l (i : Int) l[i] ((j + 1 : Nat) : Int) l (l.length : Int) (i : Int))) (fun k => ?_) ?_
    · simp only [code_Unordered.l1]
      rw [if_pos (by omega), if_pos (by omega), rd_get l j hj, w64 (x := (j : Int) + 1) (by omega) (by omega)]
      rfl
    · unfold scan2
      by_cases c1 : cov l[i] l[j] = true
      · rw [if_pos (by rw [c1]; rfl)]
        exact Ev.pos c1 (Ev.now _)
      · by_cases c2 : cov l[j] l[i] = true
        · rw [if_pos (by rw [c2]; simp)]
          exact Ev.neg c1 (Ev.pos c2 (Ev.now _))
        · rw [if_neg (by simp [c1, c2])]
          exact Ev.neg c1 (Ev.neg c2 h1)
theorem unord_l0 (l : List Int) (hl : l.length ≤ 300) : ∀ d i, i + d = l.length → Ev (fun k => code_Unordered.l0 k l l (l.length : Int) (i : Int)) (scan1 i (l.drop i), 0) := by
  intro d
  induction d with
  | zero =>
    intro i h
    rw [List.drop_of_length_le (by omega)]
    refine Ev.step (f := fun _ => some ([], 0)) (fun k => ?_) (Ev.now _)
    simp only [code_Unordered.l0]
    rw [if_neg (by omega)]
  | succ d ih =>
    intro i h
    have hi : i < l.length := by omega
    have h1 := unord_l1 l hl i hi _ (ih (i + 1) (by omega)) (l.length - (i + 1)) (i + 1) (by omega)
    rw [List.drop_eq_getElem_cons hi]
    have e : scan1 (i : Int) (l[i] :: l.drop (i + 1)) = (match scan2 l[i] i (i + 1) (l.drop (i + 1)) with | some r => r | none => scan1 ((i : Int) + 1) (l.drop (i + 1))) := rfl
    refine Ev.step (f := fun k => code_Unordered.l1 k l (i : Int) l[i] ((i + 1 : Nat) : Int) l (l.length : Int) (i : Int)) (fun k => ?_) ?_
    · simp only [code_Unordered.l0]
      rw [if_pos (by omega), if_pos (by omega), if_pos (by omega), rd_get l i hi, w64 (x := (i : Int) + 1) (by omega) (by omega)]
      rfl
    · rw [e]
      have e2 : (((i + 1 : Nat)) : Int) = (i : Int) + 1 := by omega
      rw [e2] at h1
      cases hs : scan2 l[i] i ((i : Int) + 1) (l.drop (i + 1)) with
      | none => rw [hs] at h1; rw [e2]; exact h1
      | some r => rw [hs] at h1; rw [e2]; exact h1
theorem runord_l1 (l : List Int) (hl : l.length ≤ 300) (i : Nat) (hi : i < l.length) (R : List Int × Int) (hR : Ev (fun k => neonwrightref03_Unordered.l0 k l ((i + 1 : Nat) : Int)) R) :
    ∀ d j, j + d = l.length → Ev (fun k => neonwrightref03_Unordered.l1 k l (i : Int) (j : Int)) (match scan2 l[i] i j (l.drop j) with | some r => (r, 0) | none => R) := by
  intro d
  induction d with
  | zero =>
    intro j h
    rw [List.drop_of_length_le (by omega)]
    refine Ev.step (f := fun k => neonwrightref03_Unordered.l0 k l ((i + 1 : Nat) : Int)) (fun k => ?_) hR
    simp only [neonwrightref03_Unordered.l1]
    rw [if_neg (by omega), w64 (x := (i : Int) + 1) (by omega) (by omega)]
    rfl
  | succ d ih =>
    intro j h
    have hj : j < l.length := by omega
    have h1 := ih (j + 1) (by omega)
    rw [List.drop_eq_getElem_cons hj]
    refine Ev.step (f := fun k => if cov l[i] l[j] = true then some ([(i : Int), (j : Int)], 0) else (if cov l[j] l[i] = true then some ([(i : Int), (j : Int)], 0) else neonwrightref03_Unordered.l1 k l (i : Int) ((j + 1 : Nat) : Int))) (fun k => ?_) ?_
    · simp only [neonwrightref03_Unordered.l1]
      rw [if_pos (by omega), if_pos (by omega), if_pos (by omega), if_pos (by omega), rd_get l j hj, rd_get l i hi, w64 (x := (j : Int) + 1) (by omega) (by omega)]
      rfl
    · unfold scan2
      by_cases c1 : cov l[i] l[j] = true
      · rw [if_pos (by rw [c1]; rfl)]
        exact Ev.pos c1 (Ev.now _)
      · by_cases c2 : cov l[j] l[i] = true
        · rw [if_pos (by rw [c2]; simp)]
          exact Ev.neg c1 (Ev.pos c2 (Ev.now _))
        · rw [if_neg (by simp [c1, c2])]
          exact Ev.neg c1 (Ev.neg c2 h1)
theorem runord_l0 (l : List Int) (hl : l.length ≤ 300) : ∀ d i, i + d = l.length → Ev (fun k => neonwrightref03_Unordered.l0 k l (i : Int)) (scan1 i (l.drop i), 0) := by
  intro d
  induction d with
  | zero =>
    intro i h
    rw [List.drop_of_length_le (by omega)]
    refine Ev.step (f := fun _ => some ([], 0)) (fun k => ?_) (Ev.now _)
    simp only [neonwrightref03_Unordered.l0]
    rw [if_neg (by omega)]
  | succ d ih =>
    intro i h
    have hi : i < l.length := by omega
    have h1 := runord_l1 l hl i hi _ (ih (i + 1) (by omega)) (l.length - (i + 1)) (i + 1) (by omega)
    rw [List.drop_eq_getElem_cons hi]
    have e : scan1 (i : Int) (l[i] :: l.drop (i + 1)) = (match scan2 l[i] i (i + 1) (l.drop (i + 1)) with | some r => r | none => scan1 ((i : Int) + 1) (l.drop (i + 1))) := rfl
    refine Ev.step (f := fun k => neonwrightref03_Unordered.l1 k l (i : Int) ((i + 1 : Nat) : Int)) (fun k => ?_) ?_
    · simp only [neonwrightref03_Unordered.l0]
      rw [if_pos (by omega), w64 (x := (i : Int) + 1) (by omega) (by omega)]
      rfl
    · rw [e]
      have e2 : (((i + 1 : Nat)) : Int) = (i : Int) + 1 := by omega
      rw [e2] at h1
      cases hs : scan2 l[i] i ((i : Int) + 1) (l.drop (i + 1)) with
      | none => rw [hs] at h1; rw [e2]; exact h1
      | some r => rw [hs] at h1; rw [e2]; exact h1
/-- What both say. -/
def unordN (n : Int) (l : List Int) : List Int × Int := if signsN n l = 0 then (scan1 0 l, 0) else ([], signsN n l)
theorem unord_ev (n : Int) (l : List Int) : Ev (fun k => code_Unordered.f k n l) (unordN n l) := by
  unfold unordN
  refine Ev.congr (f := fun k => if signsN n l = 0 then code_Unordered.l0 k l l (l.length : Int) 0 else some ([], signsN n l)) (fun k => ?_) ?_
  · show code_Unordered.f k n l = _
    unfold code_Unordered.f
    rw [signs_f, Option.bind_some]
  · by_cases h : signsN n l = 0
    · rw [if_pos h]
      have := (signsN_len h).1
      refine Ev.pos h (by simpa using unord_l0 l (by omega) l.length 0 (by omega))
    · rw [if_neg h]
      exact Ev.neg h (Ev.now _)
theorem runord_ev (n : Int) (l : List Int) : Ev (fun k => neonwrightref03_Unordered.f k n l) (unordN n l) := by
  unfold unordN
  refine Ev.congr (f := fun k => (neonwrightref03_Signs.f k n l).bind fun t239 => (if t239 = 0 then (neonwrightref03_Unordered.l0 k l 0) else (some (([] : List Int), t239)))) (fun k => rfl) (Ev.bnd (rsigns_ev n l) ?_)
  by_cases h : signsN n l = 0
  · rw [if_pos h]
    have := (signsN_len h).1
    refine Ev.pos h (by simpa using runord_l0 l (by omega) l.length 0 (by omega))
  · rw [if_neg h]
    exact Ev.neg h (Ev.now _)
theorem scan2_short (a i : Int) : ∀ (xs : List Int) (j : Int) (r : List Int), scan2 a i j xs = some r → r.length = 2 := by
  intro xs
  induction xs with
  | nil => intro j r h; cases h
  | cons x xs ih =>
    intro j r h
    unfold scan2 at h
    split at h
    · injection h with h; rw [← h]; rfl
    · exact ih _ _ h
theorem scan1_short : ∀ (xs : List Int) (i : Int), (scan1 i xs).length ≤ 2 := by
  intro xs
  induction xs with
  | nil => intro i; exact Nat.zero_le _
  | cons x xs ih =>
    intro i
    unfold scan1
    cases h : scan2 x i (i + 1) xs with
    | none => exact ih _
    | some r => simp only; rw [scan2_short _ _ _ _ _ h]; exact Nat.le_refl _
theorem unordN_short (n : Int) (l : List Int) : (unordN n l).1.length ≤ 2 := by
  unfold unordN
  split
  · exact scan1_short _ _
  · exact Nat.zero_le _

end Go.Proofs.Ytgchhheajngbfaa.P

set_option linter.unusedSimpArgs false
set_option linter.unusedVariables false
namespace Go.Proofs.Ytgchhheajngbfaa.P
open Go.RowKit Go.Proofs.YtgchhheajngbfaaW.PrintWords Go.Proofs.YtgchhheajngbfaaW.PrintMore Go.Proofs.Ytgchhheajngbfaa.Kit

theorem alive_ev : Ev (fun k => neonwrightlaw03_alive.f k) true := Ev.of (fun k => neonwrightlaw03_alive.mono k) (k := 60) (by decide +kernel)

theorem same_l0 (a b : List Int) (hl : a.length = b.length) (hn : a.length ≤ 4611686018427387904) : ∀ d (i : Nat), i + d = a.length →
    Ev (fun k => neonwrightlaw03_same.l0 k a b (i : Int)) (decide (a.drop i = b.drop i)) := by
  intro d
  induction d with
  | zero =>
    intro i h
    refine Ev.at 1 (fun k hk => ?_)
    obtain ⟨k, rfl⟩ : ∃ j, k = j + 1 := ⟨k - 1, by omega⟩
    simp only [neonwrightlaw03_same.l0]
    rw [if_neg (by omega)]
    have : decide (a.drop i = b.drop i) = true := decide_eq_true (by rw [List.drop_of_length_le (by omega), List.drop_of_length_le (by omega)])
    rw [this]
  | succ d ih =>
    intro i h
    have hi : i < a.length := by omega
    have hi' : i < b.length := by omega
    have e1 : wrap64 ((i : Int) + 1) = ((i + 1 : Nat) : Int) := by rw [w64 (by omega) (by omega)]; omega
    have hs : (decide (a.drop i = b.drop i)) = (decide (a[i] = b[i]) && decide (a.drop (i + 1) = b.drop (i + 1))) := by
      rw [List.drop_eq_getElem_cons hi, List.drop_eq_getElem_cons hi']
      simp only [List.cons.injEq, Bool.decide_and]
    refine Ev.step (f := fun k => if a[i] = b[i] then neonwrightlaw03_same.l0 k a b ((i + 1 : Nat) : Int) else some false) (fun k => ?_) ?_
    · simp only [neonwrightlaw03_same.l0]
      rw [if_pos (by omega), if_pos (by omega), if_pos (by omega), rd_get a i hi, rd_get b i hi', e1]
    · rw [hs]
      by_cases h1 : a[i] = b[i]
      · refine Ev.pos h1 ?_
        rw [decide_eq_true h1]
        exact ih (i + 1) (by omega)
      · refine Ev.neg h1 ?_
        rw [decide_eq_false h1]
        exact Ev.now _
theorem same_ev (a b : List Int) (hn : a.length ≤ 4611686018427387904) (hm : b.length ≤ 4611686018427387904) : Ev (fun k => neonwrightlaw03_same.f k a b) (decide (a = b)) := by
  by_cases h : a.length = b.length
  · refine Ev.congr (f := fun k => neonwrightlaw03_same.l0 k a b 0) (fun k => ?_) (by simpa using same_l0 a b h hn a.length 0 (by omega))
    simp only [neonwrightlaw03_same.f]
    rw [if_pos (by omega)]
  · refine Ev.at 0 (fun k hk => ?_)
    simp only [neonwrightlaw03_same.f]
    rw [if_neg (by omega), decide_eq_false (fun e => h (by rw [e]))]
theorem same_self (a : List Int) (hn : a.length ≤ 4611686018427387904) : Ev (fun k => neonwrightlaw03_same.f k a a) true := by
  have := same_ev a a hn hn
  rwa [decide_eq_true rfl] at this
theorem casts {a : Int} (h : (Lit.int .i64 a).wf = true) : -9223372036854775808 ≤ a ∧ a ≤ 9223372036854775807 := by
  have hmin : IntKind.i64.min = -9223372036854775808 := rfl
  have hmax : IntKind.i64.max = 9223372036854775807 := rfl
  simp only [Lit.wf, Bool.and_eq_true, decide_eq_true_eq] at h
  omega

end Go.Proofs.Ytgchhheajngbfaa.P
