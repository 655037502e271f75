/- Several texts of this session in one file, in build order: Pf58, Pf36, Pf52, Pf28, GrayN, FPath, FRef, Pf38, FChg, FPar, Pf25, Pf24, Pf26, Pf27. -/
import Derived.Test.YtnakkdaeehglnaaJB1
import Derived.Test.YtnakkdaeehglnaaJFlashChanges1
import Derived.Laws.BitsLemmas
import Derived.Lib.BitFns
import Derived.Test.YtnakkdaeehglnaaJB2
namespace Go.Proofs.Ytnakkdaeehglnaa.P
open Go.RowKit Go.Proofs.YtnakkdaeehglnaaW.PrintWords Go.Proofs.YtnakkdaeehglnaaW.PrintLast Go.Proofs.YtnakkdaeehglnaaW.PrintMore
attribute [local go_sem] max2_int min2_int max_two min_two max_three min_three max_four min_four   -- for this text's walks alone
set_option linter.unusedVariables false
set_option linter.unusedSimpArgs false

/-! ### neonwrightref04_path: function 58 -/
mutual
def neonwrightref04_path.l0 : Nat → List Int → Int → Option (Bool × Bool)
  | 0, _, _ => none
  | k + 1, x0, x4 => if x4 < (x0.length : Int) then (if x4 > 0 then (if 0 ≤ (wrap64 (x4 - 1)) then (if (wrap64 (x4 - 1)) < (x0.length : Int) then (if 0 ≤ x4 then ((neonwrightref04_near.f (rd x0 (wrap64 (x4 - 1))) (rd x0 x4)).bind fun t241 => (neonwrightref04_path.j1 k x0 x4 (!t241))) else (none)) else (none)) else (none)) else (neonwrightref04_path.j1 k x0 x4 false)) else (if (x0.length : Int) ≥ 4 then (if 0 < (x0.length : Int) then (if 0 ≤ (wrap64 ((x0.length : Int) - 1)) then (if (wrap64 ((x0.length : Int) - 1)) < (x0.length : Int) then ((neonwrightref04_near.f (rd x0 0) (rd x0 (wrap64 ((x0.length : Int) - 1)))).bind fun t238 => (some (true, t238))) else (none)) else (none)) else (none)) else (some (true, false)))
def neonwrightref04_path.j1 : Nat → List Int → Int → Bool → Option (Bool × Bool)
  | 0, _, _, _ => none
  | k + 1, x0, x4, x26 => if x26 = true then (some (false, false)) else (neonwrightref04_path.l1 k x0 x4 0)
def neonwrightref04_path.l1 : Nat → List Int → Int → Int → Option (Bool × Bool)
  | 0, _, _, _ => none
  | k + 1, x0, x4, x5 => if x5 < x4 then (if 0 ≤ x5 then (if x5 < (x0.length : Int) then (if 0 ≤ x4 then (if x4 < (x0.length : Int) then (if (rd x0 x5) = (rd x0 x4) then (some (false, false)) else (neonwrightref04_path.l1 k x0 x4 (wrap64 (x5 + 1)))) else (none)) else (none)) else (none)) else (none)) else (neonwrightref04_path.l0 k x0 (wrap64 (x4 + 1)))
end
def neonwrightref04_path.f (k : Nat) (l0 : List Int) : Option (Bool × Bool) := neonwrightref04_path.l0 k l0 0
theorem neonwrightref04_path.mono_l : ∀ k, (∀ y0 y1, LeO (neonwrightref04_path.l0 k y0 y1) (neonwrightref04_path.l0 (k + 1) y0 y1)) ∧ (∀ y0 y1 y2, LeO (neonwrightref04_path.j1 k y0 y1 y2) (neonwrightref04_path.j1 (k + 1) y0 y1 y2)) ∧ (∀ y0 y1 y2, LeO (neonwrightref04_path.l1 k y0 y1 y2) (neonwrightref04_path.l1 (k + 1) y0 y1 y2))
  | 0 => ⟨fun _ _ r h => by simp [neonwrightref04_path.l0] at h, fun _ _ _ r h => by simp [neonwrightref04_path.j1] at h, fun _ _ _ r h => by simp [neonwrightref04_path.l1] at h⟩
  | k + 1 => by
    obtain ⟨ih0, ih1, ih2⟩ := neonwrightref04_path.mono_l k
    refine ⟨?_, ?_, ?_⟩
    · intro y0 y1
      unfold neonwrightref04_path.l0
      repeat' first
      | (with_reducible exact ih0 _ _)
      | (with_reducible exact ih1 _ _ _)
      | (with_reducible exact ih2 _ _ _)
      | (with_reducible exact LeO.refl _)
      | (with_reducible exact LeO.none _)
      | (with_reducible refine LeO.ite ?_ ?_)
      | (with_reducible refine LeO.bind ?_ (fun _ => ?_))
      | exact ih0 _ _
      | exact ih1 _ _ _
      | exact ih2 _ _ _
      | exact LeO.none _
      | refine LeO.ite ?_ ?_
      | refine LeO.bind ?_ (fun _ => ?_)
    · intro y0 y1 y2
      unfold neonwrightref04_path.j1
      repeat' first
      | (with_reducible exact ih0 _ _)
      | (with_reducible exact ih1 _ _ _)
      | (with_reducible exact ih2 _ _ _)
      | (with_reducible exact LeO.refl _)
      | (with_reducible exact LeO.none _)
      | (with_reducible refine LeO.ite ?_ ?_)
      | (with_reducible refine LeO.bind ?_ (fun _ => ?_))
      | exact ih0 _ _
      | exact ih1 _ _ _
      | exact ih2 _ _ _
      | exact LeO.none _
      | refine LeO.ite ?_ ?_
      | refine LeO.bind ?_ (fun _ => ?_)
    · intro y0 y1 y2
      unfold neonwrightref04_path.l1
      repeat' first
      | (with_reducible exact ih0 _ _)
      | (with_reducible exact ih1 _ _ _)
      | (with_reducible exact ih2 _ _ _)
      | (with_reducible exact LeO.refl _)
      | (with_reducible exact LeO.none _)
      | (with_reducible refine LeO.ite ?_ ?_)
      | (with_reducible refine LeO.bind ?_ (fun _ => ?_))
      | exact ih0 _ _
      | exact ih1 _ _ _
      | exact ih2 _ _ _
      | exact LeO.none _
      | refine LeO.ite ?_ ?_
      | refine LeO.bind ?_ (fun _ => ?_)
theorem neonwrightref04_path.mono : ∀ a0 k, LeO (neonwrightref04_path.f k a0) (neonwrightref04_path.f (k + 1) a0) := by
  intro a0 k
  obtain ⟨ih0, ih1, ih2⟩ := neonwrightref04_path.mono_l k
  unfold neonwrightref04_path.f
  repeat' first
      | (with_reducible exact ih0 _ _)
      | (with_reducible exact ih1 _ _ _)
      | (with_reducible exact ih2 _ _ _)
      | (with_reducible exact LeO.refl _)
      | (with_reducible exact LeO.none _)
      | (with_reducible refine LeO.ite ?_ ?_)
      | (with_reducible refine LeO.bind ?_ (fun _ => ?_))
      | exact ih0 _ _
      | exact ih1 _ _ _
      | exact ih2 _ _ _
      | exact LeO.none _
      | refine LeO.ite ?_ ?_
      | refine LeO.bind ?_ (fun _ => ?_)
set_option maxHeartbeats 8000000 in
set_option maxRecDepth 100000 in
theorem neonwrightref04_path.calls (k : Nat) (A0 : Option Addr) (c0 : Nat) (l0 : List Int) (r1 : Bool) (r2 : Bool) (w : World) (hr0 : Kd.C (Kd.int .i64) w A0 l0.length l0) (hc0 : l0.length ≤ c0) (h : neonwrightref04_path.f k l0 = some (r1, r2)) :
    Calls Try.prog 58 #[.slice A0 l0.length c0] w fun e w' => e = .returned (.tuple #[.bool r1, .bool r2]) ∧ Drawn0 w w' := by
  have HR0 := Aside0.mk hr0
  have HC0 := Aside0.mk hc0
  clear hr0 hc0
  have H : (neonwrightref04_path.l0 k l0 0) = some (r1, r2) := h
  clear h
  have H' := Aside0.mk H
  clear H
  go_enter Try.func58, Try.ntmps58
  go_wp2
  repeat (go_quiet (fail); try go_wp2)
  go_loopg [4] k (fun kq v4 w' => ∃ (x4_1 : Int), v4 = .int .i64 x4_1 ∧ Aside0 (neonwrightref04_path.l0 kq l0 x4_1 = some (r1, r2)) ∧ Aside0 (kq ≤ k) ∧ Drawn0 w w')
  case atStart => exact ⟨(0), (by first | rfl | (simp; done) | (simp [*]; done)), H', ⟨Nat.le_refl _⟩, by repeat (first | exact Drawn0.refl _ | apply Drawn0.step)⟩
  case round =>
    clear H'
    obtain ⟨x4_1, rfl, HA, HK1, ⟨m1, rfl⟩⟩ := hrel
    cases gk with
    | zero => exact absurd HA.out (by simp [neonwrightref04_path.l0])
    | succ k1 =>
      have H := HA.out
      clear HA
      simp only [neonwrightref04_path.l0] at H
      by_cases c2 : x4_1 < (l0.length : Int)
      · rw [if_pos c2] at H
        have c2b0 : decide (x4_1 < (l0.length : Int)) = true := decide_eq_true c2
        clear c2
        have HC3 := Aside0.mk H
        clear H
        go_upto_region 4 with (fail)
        repeat (go_quiet (fail); go_upto_region 4 with (fail))
        go_cut [26] (fun v26 wc => ∃ (kq : Nat) (x26_2 : Bool), v26 = .bool x26_2 ∧ Aside0 (neonwrightref04_path.j1 kq l0 x4_1 x26_2 = some (r1, r2)) ∧ Aside0 (kq ≤ k1) ∧ Drawn0 w wc)
        case first =>
          have H := HC3.out
          clear HC3
          by_cases c4 : x4_1 > 0
          · rw [if_pos c4] at H
            have c4b0 : decide (0 < x4_1) = true := decide_eq_true c4
            clear c4
            (first | rw [c4b0] | (simp only [i64_w, i32_w]; rw [c4b0]) | skip)
            obtain ⟨ji5, hji5⟩ : ∃ j_ : Int, (wrap64 (x4_1 - 1)) = j_ := ⟨_, rfl⟩
            replace H : (if 0 ≤ (ji5) then (if (ji5) < (l0.length : Int) then (if 0 ≤ x4_1 then ((neonwrightref04_near.f (rd l0 (ji5)) (rd l0 x4_1)).bind fun t241 => (neonwrightref04_path.j1 k1 l0 x4_1 (!t241))) else (none)) else (none)) else (none)) = some (r1, r2) := by first | (rw [hji5] at H; exact H) | (simp only [hji5] at H ⊢; exact H)
            have hji5w : (IntKind.i64.wrap (x4_1 - 1)) = ji5 := (i64_w _).trans hji5
            by_cases c6 : 0 ≤ (ji5)
            · rw [if_pos c6] at H
              have c6b0 : decide (0 ≤ (ji5)) = true := decide_eq_true c6
              clear c6
              by_cases c7 : (ji5) < (l0.length : Int)
              · rw [if_pos c7] at H
                have c7b0 : decide ((ji5) < (l0.length : Int)) = true := decide_eq_true c7
                clear c7
                by_cases c8 : 0 ≤ x4_1
                · rw [if_pos c8] at H
                  have c8b0 : decide (0 ≤ x4_1) = true := decide_eq_true c8
                  clear c8
                  replace H := Option.bind_eq_some_iff.mp H
                  obtain ⟨t241, A90, H⟩ := H
                  replace H : (neonwrightref04_path.j1 k1 l0 x4_1 (!t241)) = some (r1, r2) := H
                  have A9 := Aside0.mk A90
                  clear A90
                  have H' := Aside0.mk H
                  clear H
                  have p239 : 0 ≤ ((ji5) : Int) := of_decide_eq_true (by first | (with_reducible assumption) | assumption)
                  have q239 : (ji5) < (l0.length : Int) := of_decide_eq_true (by first | (with_reducible assumption) | assumption)
                  obtain ⟨ad239, e239, hx239_0⟩ := Kd.at_int HR0.out (ji5) p239 q239
                  cases e239
                  replace p239 := eq_true p239
                  replace q239 := eq_true q239
                  have p240 : 0 ≤ (x4_1 : Int) := of_decide_eq_true (by first | (with_reducible assumption) | assumption)
                  have q240 : x4_1 < (l0.length : Int) := of_decide_eq_true (by first | (with_reducible assumption) | assumption)
                  obtain ⟨ad240, e240, hx240_0⟩ := Kd.at_int HR0.out x4_1 p240 q240
                  obtain rfl : ad239 = ad240 := (by injection e240)
                  replace p240 := eq_true p240
                  replace q240 := eq_true q240
                  go_wp2_with (first | (go_at_call 54; (with_reducible refine (neonwrightref04_near.calls (rd l0 (ji5)) (rd l0 x4_1) t241 _ A9.out).mono ?_); rintro e w' ⟨rfl, ⟨nd, rfl⟩⟩; (try first | exact ⟨rfl, _, World.drewN_drewN _ _ _⟩ | exact ⟨rfl, _, Eq.trans (World.drewN_drewN _ _ _) (congrArg (World.drewN _) (Nat.add_assoc _ _ _))⟩)))
                  repeat (go_quiet (first | (go_at_call 54; (with_reducible refine (neonwrightref04_near.calls (rd l0 (ji5)) (rd l0 x4_1) t241 _ A9.out).mono ?_); rintro e w' ⟨rfl, ⟨nd, rfl⟩⟩; (try first | exact ⟨rfl, _, World.drewN_drewN _ _ _⟩ | exact ⟨rfl, _, Eq.trans (World.drewN_drewN _ _ _) (congrArg (World.drewN _) (Nat.add_assoc _ _ _))⟩))); try go_wp2_with (first | (go_at_call 54; (with_reducible refine (neonwrightref04_near.calls (rd l0 (ji5)) (rd l0 x4_1) t241 _ A9.out).mono ?_); rintro e w' ⟨rfl, ⟨nd, rfl⟩⟩; (try first | exact ⟨rfl, _, World.drewN_drewN _ _ _⟩ | exact ⟨rfl, _, Eq.trans (World.drewN_drewN _ _ _) (congrArg (World.drewN _) (Nat.add_assoc _ _ _))⟩))))
                  go_meet
                  case rel => exact ⟨_, (!t241), (by first | rfl | (simp; done) | (simp [*]; done)), H', ⟨by have := HK1.out; first | omega | exact Nat.le_refl _⟩, by repeat (first | exact Drawn0.refl _ | apply Drawn0.step)⟩
                · rw [if_neg c8] at H
                  exact absurd H (by simp)
              · rw [if_neg c7] at H
                exact absurd H (by simp)
            · rw [if_neg c6] at H
              exact absurd H (by simp)
          · rw [if_neg c4] at H
            have c4b0 : decide (0 < x4_1) = false := decide_eq_false c4
            clear c4
            (first | rw [c4b0] | (simp only [i64_w, i32_w]; rw [c4b0]) | skip)
            have H' := Aside0.mk H
            clear H
            go_wp2
            repeat (go_quiet (fail); try go_wp2)
            go_meet
            case rel => exact ⟨_, (false), (by first | rfl | (simp; done) | (simp [*]; done)), H', ⟨by have := HK1.out; first | omega | exact Nat.le_refl _⟩, by repeat (first | exact Drawn0.refl _ | apply Drawn0.step)⟩
        case rest =>
          clear HC3
          try clear c2
          try clear c2b0
          try clear p2
          try clear q2
          try clear hx2
          try clear c4
          try clear c4b0
          try clear c5
          try clear c6
          try clear c6b0
          try clear p6
          try clear c7
          try clear c7b0
          try clear c8
          try clear c8b0
          try clear hx239_0
          try clear hx240_0
          try clear p239
          try clear p240
          try clear q239
          try clear q240
          obtain ⟨kq, x26_2, rfl, HA, HJ2, ⟨mc2, rfl⟩⟩ := hcut
          cases kq with
          | zero => exact absurd HA.out (by simp [neonwrightref04_path.j1])
          | succ kj2 =>
            have H := HA.out
            clear HA
            simp only [neonwrightref04_path.j1] at H
            by_cases c10 : x26_2 = true
            · subst c10
              have H1 : (some (false, false)) = some (r1, r2) := by rw [if_pos rfl] at H; exact H
              clear H
              have H := H1
              clear H1
              simp only [Option.some.injEq, Prod.mk.injEq] at H
              obtain ⟨rfl, rfl⟩ := H
              go_wp2
              repeat (go_quiet (fail); try go_wp2)
              go_ret2
              exact ⟨by first | rfl | (simp; done) | (simp [*]; done), by repeat (first | exact Drawn0.refl _ | apply Drawn0.step)⟩
            · replace c10 := Bool.eq_false_iff.mpr c10
              subst c10
              have H1 : (neonwrightref04_path.l1 kj2 l0 x4_1 0) = some (r1, r2) := by rw [if_neg (show ¬ (false = true) by decide)] at H; exact H
              clear H
              have H := H1
              clear H1
              have H' := Aside0.mk H
              clear H
              go_wp2
              repeat (go_quiet (fail); try go_wp2)
              go_loopg [5] kj2 (fun kq v5 w' => ∃ (x5_3 : Int), v5 = .int .i64 x5_3 ∧ Aside0 (neonwrightref04_path.l1 kq l0 x4_1 x5_3 = some (r1, r2)) ∧ Aside0 (kq ≤ kj2) ∧ Drawn0 w w')
              case atStart => exact ⟨(0), (by first | rfl | (simp; done) | (simp [*]; done)), H', ⟨Nat.le_refl _⟩, by repeat (first | exact Drawn0.refl _ | apply Drawn0.step)⟩
              case round =>
                clear H'
                try clear c1
                try clear c2
                try clear c2b0
                try clear p2
                try clear q2
                try clear hx2
                try clear c4
                try clear c4b0
                try clear c5
                try clear c6
                try clear c6b0
                try clear p6
                try clear c7
                try clear c7b0
                try clear c8
                try clear c8b0
                try clear c10
                try clear hx239_0
                try clear hx240_0
                try clear p2
                try clear p239
                try clear p240
                try clear p6
                try clear q2
                try clear q239
                try clear q240
                obtain ⟨x5_3, rfl, HA, HK3, ⟨m3, rfl⟩⟩ := hrel
                cases gk with
                | zero => exact absurd HA.out (by simp [neonwrightref04_path.l1])
                | succ k3 =>
                  have H := HA.out
                  clear HA
                  simp only [neonwrightref04_path.l1] at H
                  by_cases c11 : x5_3 < x4_1
                  · rw [if_pos c11] at H
                    have c11b0 : decide (x5_3 < x4_1) = true := decide_eq_true c11
                    clear c11
                    by_cases c12 : 0 ≤ x5_3
                    · rw [if_pos c12] at H
                      have c12b0 : decide (0 ≤ x5_3) = true := decide_eq_true c12
                      clear c12
                      by_cases c13 : x5_3 < (l0.length : Int)
                      · rw [if_pos c13] at H
                        have c13b0 : decide (x5_3 < (l0.length : Int)) = true := decide_eq_true c13
                        clear c13
                        by_cases c14 : 0 ≤ x4_1
                        · rw [if_pos c14] at H
                          have c14b0 : decide (0 ≤ x4_1) = true := decide_eq_true c14
                          clear c14
                          by_cases c15 : x4_1 < (l0.length : Int)
                          · rw [if_pos c15] at H
                            have c15b0 : decide (x4_1 < (l0.length : Int)) = true := decide_eq_true c15
                            clear c15
                            by_cases c16 : (rd l0 x5_3) = (rd l0 x4_1)
                            · rw [if_pos c16] at H
                              have c16b0 : ((rd l0 x5_3) == (rd l0 x4_1)) = true := beq_iff_eq.mpr c16
                              have c16b1 : ((rd l0 x5_3) != (rd l0 x4_1)) = false := bne_eq_false_iff_eq.mpr c16
                              clear c16
                              simp only [Option.some.injEq, Prod.mk.injEq] at H
                              obtain ⟨rfl, rfl⟩ := H
                              have p242 : 0 ≤ (x5_3 : Int) := of_decide_eq_true (by first | (with_reducible assumption) | assumption)
                              have q242 : x5_3 < (l0.length : Int) := of_decide_eq_true (by first | (with_reducible assumption) | assumption)
                              obtain ⟨ad242, e242, hx242_0⟩ := Kd.at_int HR0.out x5_3 p242 q242
                              cases e242
                              replace p242 := eq_true p242
                              replace q242 := eq_true q242
                              have p243 : 0 ≤ (x4_1 : Int) := of_decide_eq_true (by first | (with_reducible assumption) | assumption)
                              have q243 : x4_1 < (l0.length : Int) := of_decide_eq_true (by first | (with_reducible assumption) | assumption)
                              obtain ⟨ad243, e243, hx243_0⟩ := Kd.at_int HR0.out x4_1 p243 q243
                              obtain rfl : ad242 = ad243 := (by injection e243)
                              replace p243 := eq_true p243
                              replace q243 := eq_true q243
                              go_wp2
                              repeat (go_quiet (fail); try go_wp2)
                              go_ret2
                              exact ⟨by first | rfl | (simp; done) | (simp [*]; done), by repeat (first | exact Drawn0.refl _ | apply Drawn0.step)⟩
                            · rw [if_neg c16] at H
                              have c16b0 : ((rd l0 x5_3) == (rd l0 x4_1)) = false := beq_eq_false_iff_ne.mpr c16
                              have c16b1 : ((rd l0 x5_3) != (rd l0 x4_1)) = true := bne_iff_ne.mpr c16
                              have H' := Aside0.mk H
                              clear H
                              have p242 : 0 ≤ (x5_3 : Int) := of_decide_eq_true (by first | (with_reducible assumption) | assumption)
                              have q242 : x5_3 < (l0.length : Int) := of_decide_eq_true (by first | (with_reducible assumption) | assumption)
                              obtain ⟨ad242, e242, hx242_0⟩ := Kd.at_int HR0.out x5_3 p242 q242
                              cases e242
                              replace p242 := eq_true p242
                              replace q242 := eq_true q242
                              have p243 : 0 ≤ (x4_1 : Int) := of_decide_eq_true (by first | (with_reducible assumption) | assumption)
                              have q243 : x4_1 < (l0.length : Int) := of_decide_eq_true (by first | (with_reducible assumption) | assumption)
                              obtain ⟨ad243, e243, hx243_0⟩ := Kd.at_int HR0.out x4_1 p243 q243
                              obtain rfl : ad242 = ad243 := (by injection e243)
                              replace p243 := eq_true p243
                              replace q243 := eq_true q243
                              go_wp2
                              repeat (go_quiet (fail); try go_wp2)
                              go_roundg k3
                              case measure => have := HK1.out; have := HJ2.out; have := HK3.out; omega
                              case rel => exact ⟨(wrap64 (x5_3 + 1)), (by first | rfl | (simp; done) | (simp [*]; done)), H', ⟨by have := HK1.out; have := HJ2.out; have := HK3.out; omega⟩, by repeat (first | exact Drawn0.refl _ | apply Drawn0.step)⟩
                          · rw [if_neg c15] at H
                            exact absurd H (by simp)
                        · rw [if_neg c14] at H
                          exact absurd H (by simp)
                      · rw [if_neg c13] at H
                        exact absurd H (by simp)
                    · rw [if_neg c12] at H
                      exact absurd H (by simp)
                  · rw [if_neg c11] at H
                    have c11b0 : decide (x5_3 < x4_1) = false := decide_eq_false c11
                    clear c11
                    have H' := Aside0.mk H
                    clear H
                    go_wp2
                    repeat (go_quiet (fail); try go_wp2)
                    go_roundg k3
                    case measure => have := HK1.out; have := HJ2.out; have := HK3.out; omega
                    case rel => exact ⟨(wrap64 (x4_1 + 1)), (by first | rfl | (simp; done) | (simp [*]; done)), H', ⟨by have := HK1.out; have := HJ2.out; have := HK3.out; omega⟩, by repeat (first | exact Drawn0.refl _ | apply Drawn0.step)⟩
      · rw [if_neg c2] at H
        have c2b0 : decide (x4_1 < (l0.length : Int)) = false := decide_eq_false c2
        clear c2
        by_cases c17 : (l0.length : Int) ≥ 4
        · rw [if_pos c17] at H
          have c17b0 : decide (4 ≤ (l0.length : Int)) = true := decide_eq_true c17
          have c17b1 : decide (4 ≤ l0.length) = true := decide_eq_true (by omega)
          clear c17
          by_cases c18 : 0 < (l0.length : Int)
          · rw [if_pos c18] at H
            have c18b0 : decide (0 < (l0.length : Int)) = true := decide_eq_true c18
            have c18b1 : decide (0 < l0.length) = true := decide_eq_true (by omega)
            clear c18
            obtain ⟨ji19, hji19⟩ : ∃ j_ : Int, (wrap64 ((l0.length : Int) - 1)) = j_ := ⟨_, rfl⟩
            replace H : (if 0 ≤ (ji19) then (if (ji19) < (l0.length : Int) then ((neonwrightref04_near.f (rd l0 0) (rd l0 (ji19))).bind fun t238 => (some (true, t238))) else (none)) else (none)) = some (r1, r2) := by first | (rw [hji19] at H; exact H) | (simp only [hji19] at H ⊢; exact H)
            have hji19w : (IntKind.i64.wrap ((l0.length : Int) - 1)) = ji19 := (i64_w _).trans hji19
            by_cases c20 : 0 ≤ (ji19)
            · rw [if_pos c20] at H
              have c20b0 : decide (0 ≤ (ji19)) = true := decide_eq_true c20
              clear c20
              by_cases c21 : (ji19) < (l0.length : Int)
              · rw [if_pos c21] at H
                have c21b0 : decide ((ji19) < (l0.length : Int)) = true := decide_eq_true c21
                clear c21
                replace H := Option.bind_eq_some_iff.mp H
                obtain ⟨t238, A220, H⟩ := H
                replace H : (some (true, t238)) = some (r1, r2) := H
                have A22 := Aside0.mk A220
                clear A220
                simp only [Option.some.injEq, Prod.mk.injEq] at H
                obtain ⟨rfl, rfl⟩ := H
                have p236 : 0 ≤ (0 : Int) := (by omega)
                have q236 : 0 < (l0.length : Int) := of_decide_eq_true (by first | (with_reducible assumption) | assumption)
                obtain ⟨ad236, e236, hx236_0⟩ := Kd.at_int HR0.out 0 p236 q236
                cases e236
                have qi236 : (0 < l0.length) = True := eq_true (by omega)
                (try rw [show ((0 : Int)).toNat = 0 from rfl] at hx236_0)
                (try rw [Addr.add_zero'] at hx236_0)
                replace p236 := eq_true p236
                replace q236 := eq_true q236
                have p237 : 0 ≤ ((ji19) : Int) := of_decide_eq_true (by first | (with_reducible assumption) | assumption)
                have q237 : (ji19) < (l0.length : Int) := of_decide_eq_true (by first | (with_reducible assumption) | assumption)
                obtain ⟨ad237, e237, hx237_0⟩ := Kd.at_int HR0.out (ji19) p237 q237
                obtain rfl : ad236 = ad237 := (by injection e237)
                replace p237 := eq_true p237
                replace q237 := eq_true q237
                go_wp2_with (first | (go_at_call 54; (with_reducible refine (neonwrightref04_near.calls (rd l0 0) (rd l0 (ji19)) t238 _ A22.out).mono ?_); rintro e w' ⟨rfl, ⟨nd, rfl⟩⟩; (try first | exact ⟨rfl, _, World.drewN_drewN _ _ _⟩ | exact ⟨rfl, _, Eq.trans (World.drewN_drewN _ _ _) (congrArg (World.drewN _) (Nat.add_assoc _ _ _))⟩)))
                repeat (go_quiet (first | (go_at_call 54; (with_reducible refine (neonwrightref04_near.calls (rd l0 0) (rd l0 (ji19)) t238 _ A22.out).mono ?_); rintro e w' ⟨rfl, ⟨nd, rfl⟩⟩; (try first | exact ⟨rfl, _, World.drewN_drewN _ _ _⟩ | exact ⟨rfl, _, Eq.trans (World.drewN_drewN _ _ _) (congrArg (World.drewN _) (Nat.add_assoc _ _ _))⟩))); try go_wp2_with (first | (go_at_call 54; (with_reducible refine (neonwrightref04_near.calls (rd l0 0) (rd l0 (ji19)) t238 _ A22.out).mono ?_); rintro e w' ⟨rfl, ⟨nd, rfl⟩⟩; (try first | exact ⟨rfl, _, World.drewN_drewN _ _ _⟩ | exact ⟨rfl, _, Eq.trans (World.drewN_drewN _ _ _) (congrArg (World.drewN _) (Nat.add_assoc _ _ _))⟩))))
                go_ret2
                exact ⟨by first | rfl | (simp; done) | (simp only [← hji19] <;> (first | rfl | simp)) | (simp [*]; done), by repeat (first | exact Drawn0.refl _ | apply Drawn0.step)⟩
              · rw [if_neg c21] at H
                exact absurd H (by simp)
            · rw [if_neg c20] at H
              exact absurd H (by simp)
          · rw [if_neg c18] at H
            exact absurd H (by simp)
        · rw [if_neg c17] at H
          have c17b0 : decide (4 ≤ (l0.length : Int)) = false := decide_eq_false c17
          have c17b1 : decide (4 ≤ l0.length) = false := decide_eq_false (by omega)
          clear c17
          simp only [Option.some.injEq, Prod.mk.injEq] at H
          obtain ⟨rfl, rfl⟩ := H
          go_wp2
          repeat (go_quiet (fail); try go_wp2)
          go_ret2
          exact ⟨by first | rfl | (simp; done) | (simp [*]; done), by repeat (first | exact Drawn0.refl _ | apply Drawn0.step)⟩

end Go.Proofs.Ytnakkdaeehglnaa.P

namespace Go.Proofs.Ytnakkdaeehglnaa.P
open Go.RowKit Go.Proofs.YtnakkdaeehglnaaW.PrintWords Go.Proofs.YtnakkdaeehglnaaW.PrintLast Go.Proofs.YtnakkdaeehglnaaW.PrintMore
attribute [local go_sem] max2_int min2_int max_two min_two max_three min_three max_four min_four   -- for this text's walks alone
set_option linter.unusedVariables false
set_option linter.unusedSimpArgs false

/-! ### neonwrightref04_Path: function 36 -/
def neonwrightref04_Path.f (k : Nat) (a0 : Int) (l1 : List Int) : Option (Bool × Bool × Int) := (neonwrightref04_States.f k a0 l1).bind fun t401 => (if t401 = 0 then ((neonwrightref04_path.f k l1).bind fun bt402 => (some (bt402.1, bt402.2, 0))) else (some (false, false, t401)))
theorem neonwrightref04_Path.mono : ∀ a0 a1 k, LeO (neonwrightref04_Path.f k a0 a1) (neonwrightref04_Path.f (k + 1) a0 a1) := by
  intro a0 a1 k
  unfold neonwrightref04_Path.f
  repeat' first
      | (with_reducible exact neonwrightref04_States.mono _ _ _)
      | (with_reducible exact neonwrightref04_path.mono _ _)
      | (with_reducible exact LeO.refl _)
      | (with_reducible exact LeO.none _)
      | (with_reducible refine LeO.ite ?_ ?_)
      | (with_reducible refine LeO.bind ?_ (fun _ => ?_))
      | exact neonwrightref04_States.mono _ _ _
      | exact neonwrightref04_path.mono _ _
      | exact LeO.none _
      | refine LeO.ite ?_ ?_
      | refine LeO.bind ?_ (fun _ => ?_)
set_option maxHeartbeats 8000000 in
set_option maxRecDepth 100000 in
theorem neonwrightref04_Path.calls (k : Nat) (a0 : Int) (A1 : Option Addr) (c1 : Nat) (l1 : List Int) (r1 : Bool) (r2 : Bool) (r3 : Int) (w : World) (hr1 : Kd.C (Kd.int .i64) w A1 l1.length l1) (hc1 : l1.length ≤ c1) (h : neonwrightref04_Path.f k a0 l1 = some (r1, r2, r3)) :
    Calls Try.prog 36 #[.int .i64 a0, .slice A1 l1.length c1] w fun e w' => e = .returned (.tuple #[.bool r1, .bool r2, .int .i64 r3]) ∧ Drawn0 w w' := by
  have HR1 := Aside0.mk hr1
  have HC1 := Aside0.mk hc1
  clear hr1 hc1
  have H : ((neonwrightref04_States.f k a0 l1).bind fun t401 => (if t401 = 0 then ((neonwrightref04_path.f k l1).bind fun bt402 => (some (bt402.1, bt402.2, 0))) else (some (false, false, t401)))) = some (r1, r2, r3) := h
  clear h
  replace H := Option.bind_eq_some_iff.mp H
  obtain ⟨t401, A30, H⟩ := H
  replace H : (if t401 = 0 then ((neonwrightref04_path.f k l1).bind fun bt402 => (some (bt402.1, bt402.2, 0))) else (some (false, false, t401))) = some (r1, r2, r3) := H
  have A3 := Aside0.mk A30
  clear A30
  by_cases c4 : t401 = 0
  · rw [if_pos c4] at H
    have c4b0 : (t401 == 0) = true := beq_iff_eq.mpr c4
    have c4b1 : (t401 != 0) = false := bne_eq_false_iff_eq.mpr c4
    clear c4
    replace H := Option.bind_eq_some_iff.mp H
    obtain ⟨⟨t402, t403⟩, A50, H⟩ := H
    replace H : (some (t402, t403, 0)) = some (r1, r2, r3) := H
    have A5 := Aside0.mk A50
    clear A50
    simp only [Option.some.injEq, Prod.mk.injEq] at H
    obtain ⟨rfl, rfl, rfl⟩ := H
    go_enter Try.func36, Try.ntmps36
    go_wp2_with (first | ((with_reducible refine gate_callee (f := 51) rfl ?_); refine goesL_ (some 12) rfl rfl Try.func51 (by kernel_rfl) rfl #[.int .i64 a0, .slice A1 l1.length c1] rfl (by (try simp only [List.map_toArray, List.map_cons, List.map_nil]); first | done | rfl | (simp only [List.length_drop, List.length_take]; rfl)) ?_; (with_reducible refine (neonwrightref04_States.calls k a0 _ _ l1 t401 _ ?side1 ?side2 A3.out).mono ?_); (case side1 => repeat (first | exact HR1.out | (with_reducible refine Kd.C_alloc ?_ _) | (with_reducible refine Kd.C_drewN ?_ _) | (with_reducible refine Kd.C_drew ?_))); (case side2 => exact HC1.out); rintro e w' ⟨rfl, ⟨nd, rfl⟩⟩; refine ⟨_, rfl, ?_⟩) | ((with_reducible refine gate_callee (f := 58) rfl ?_); refine goesL_ (some 18) rfl rfl Try.func58 (by kernel_rfl) rfl #[.slice A1 l1.length c1] rfl (by (try simp only [List.map_toArray, List.map_cons, List.map_nil]); first | done | rfl | (simp only [List.length_drop, List.length_take]; rfl)) ?_; (with_reducible refine (neonwrightref04_path.calls k _ _ l1 t402 t403 _ ?side1 ?side2 A5.out).mono ?_); (case side1 => repeat (first | exact HR1.out | (with_reducible refine Kd.C_alloc ?_ _) | (with_reducible refine Kd.C_drewN ?_ _) | (with_reducible refine Kd.C_drew ?_))); (case side2 => exact HC1.out); rintro e w' ⟨rfl, ⟨nd, rfl⟩⟩; refine ⟨_, rfl, ?_⟩))
    go_ret3
    exact ⟨by first | rfl | (simp; done) | (simp [*]; done), by repeat (first | exact Drawn0.refl _ | apply Drawn0.step)⟩
  · rw [if_neg c4] at H
    have c4b0 : (t401 == 0) = false := beq_eq_false_iff_ne.mpr c4
    have c4b1 : (t401 != 0) = true := bne_iff_ne.mpr c4
    simp only [Option.some.injEq, Prod.mk.injEq] at H
    obtain ⟨rfl, rfl, rfl⟩ := H
    go_enter Try.func36, Try.ntmps36
    go_wp2_with (first | ((with_reducible refine gate_callee (f := 51) rfl ?_); refine goesL_ (some 12) rfl rfl Try.func51 (by kernel_rfl) rfl #[.int .i64 a0, .slice A1 l1.length c1] rfl (by (try simp only [List.map_toArray, List.map_cons, List.map_nil]); first | done | rfl | (simp only [List.length_drop, List.length_take]; rfl)) ?_; (with_reducible refine (neonwrightref04_States.calls k a0 _ _ l1 t401 _ ?side1 ?side2 A3.out).mono ?_); (case side1 => repeat (first | exact HR1.out | (with_reducible refine Kd.C_alloc ?_ _) | (with_reducible refine Kd.C_drewN ?_ _) | (with_reducible refine Kd.C_drew ?_))); (case side2 => exact HC1.out); rintro e w' ⟨rfl, ⟨nd, rfl⟩⟩; refine ⟨_, rfl, ?_⟩))
    go_ret3
    exact ⟨by first | rfl | (simp; done) | (simp [*]; done), by repeat (first | exact Drawn0.refl _ | apply Drawn0.step)⟩

end Go.Proofs.Ytnakkdaeehglnaa.P

namespace Go.Proofs.Ytnakkdaeehglnaa.P
open Go.RowKit Go.Proofs.YtnakkdaeehglnaaW.PrintWords Go.Proofs.YtnakkdaeehglnaaW.PrintLast Go.Proofs.YtnakkdaeehglnaaW.PrintMore
attribute [local go_sem] max2_int min2_int max_two min_two max_three min_three max_four min_four   -- for this text's walks alone
set_option linter.unusedVariables false
set_option linter.unusedSimpArgs false

/-! ### neonwrightref04_snake: function 52 -/
mutual
def neonwrightref04_snake.l0 : Nat → List Int → Bool → Bool → Int → Option (Bool × Bool)
  | 0, _, _, _, _ => none
  | k + 1, x0, x5, x6, x7 => if x7 < (x0.length : Int) then (neonwrightref04_snake.l1 k x0 x5 x6 x7 0) else (some (x6, x5))
def neonwrightref04_snake.l1 : Nat → List Int → Bool → Bool → Int → Int → Option (Bool × Bool)
  | 0, _, _, _, _, _ => none
  | k + 1, x0, x5, x6, x7, x8 => if x8 < (wrap64 (x7 - 1)) then (if x8 = 0 then (if 0 ≤ x7 then (if x7 < (x0.length : Int) then (if 0 ≤ x8 then (if x8 < (x0.length : Int) then ((neonwrightref04_near.f (rd x0 x7) (rd x0 x8)).bind fun t248 => (if t248 = true then (if x5 = true then (neonwrightref04_snake.l1 k x0 (x7 == (wrap64 ((x0.length : Int) - 1))) false x7 (wrap64 (x8 + 1))) else (neonwrightref04_snake.l1 k x0 false false x7 (wrap64 (x8 + 1)))) else (neonwrightref04_snake.l1 k x0 x5 x6 x7 (wrap64 (x8 + 1))))) else (none)) else (none)) else (none)) else (none)) else (if 0 ≤ x7 then (if x7 < (x0.length : Int) then (if 0 ≤ x8 then (if x8 < (x0.length : Int) then ((neonwrightref04_near.f (rd x0 x7) (rd x0 x8)).bind fun t251 => (if t251 = true then (if x5 = true then (neonwrightref04_snake.l1 k x0 false false x7 (wrap64 (x8 + 1))) else (neonwrightref04_snake.l1 k x0 false false x7 (wrap64 (x8 + 1)))) else (neonwrightref04_snake.l1 k x0 x5 x6 x7 (wrap64 (x8 + 1))))) else (none)) else (none)) else (none)) else (none))) else (neonwrightref04_snake.l0 k x0 x5 x6 (wrap64 (x7 + 1)))
end
def neonwrightref04_snake.f (k : Nat) (l0 : List Int) : Option (Bool × Bool) := (neonwrightref04_path.f k l0).bind fun bt244 => (if bt244.1 = true then (neonwrightref04_snake.l0 k l0 bt244.2 true 0) else (some (false, false)))
theorem neonwrightref04_snake.mono_l : ∀ k, (∀ y0 y1 y2 y3, LeO (neonwrightref04_snake.l0 k y0 y1 y2 y3) (neonwrightref04_snake.l0 (k + 1) y0 y1 y2 y3)) ∧ (∀ y0 y1 y2 y3 y4, LeO (neonwrightref04_snake.l1 k y0 y1 y2 y3 y4) (neonwrightref04_snake.l1 (k + 1) y0 y1 y2 y3 y4))
  | 0 => ⟨fun _ _ _ _ r h => by simp [neonwrightref04_snake.l0] at h, fun _ _ _ _ _ r h => by simp [neonwrightref04_snake.l1] at h⟩
  | k + 1 => by
    obtain ⟨ih0, ih1⟩ := neonwrightref04_snake.mono_l k
    refine ⟨?_, ?_⟩
    · intro y0 y1 y2 y3
      unfold neonwrightref04_snake.l0
      repeat' first
      | (with_reducible exact ih0 _ _ _ _)
      | (with_reducible exact ih1 _ _ _ _ _)
      | (with_reducible exact neonwrightref04_path.mono _ _)
      | (with_reducible exact LeO.refl _)
      | (with_reducible exact LeO.none _)
      | (with_reducible refine LeO.ite ?_ ?_)
      | (with_reducible refine LeO.bind ?_ (fun _ => ?_))
      | exact ih0 _ _ _ _
      | exact ih1 _ _ _ _ _
      | exact neonwrightref04_path.mono _ _
      | exact LeO.none _
      | refine LeO.ite ?_ ?_
      | refine LeO.bind ?_ (fun _ => ?_)
    · intro y0 y1 y2 y3 y4
      unfold neonwrightref04_snake.l1
      repeat' first
      | (with_reducible exact ih0 _ _ _ _)
      | (with_reducible exact ih1 _ _ _ _ _)
      | (with_reducible exact neonwrightref04_path.mono _ _)
      | (with_reducible exact LeO.refl _)
      | (with_reducible exact LeO.none _)
      | (with_reducible refine LeO.ite ?_ ?_)
      | (with_reducible refine LeO.bind ?_ (fun _ => ?_))
      | exact ih0 _ _ _ _
      | exact ih1 _ _ _ _ _
      | exact neonwrightref04_path.mono _ _
      | exact LeO.none _
      | refine LeO.ite ?_ ?_
      | refine LeO.bind ?_ (fun _ => ?_)
theorem neonwrightref04_snake.mono : ∀ a0 k, LeO (neonwrightref04_snake.f k a0) (neonwrightref04_snake.f (k + 1) a0) := by
  intro a0 k
  obtain ⟨ih0, ih1⟩ := neonwrightref04_snake.mono_l k
  unfold neonwrightref04_snake.f
  repeat' first
      | (with_reducible exact ih0 _ _ _ _)
      | (with_reducible exact ih1 _ _ _ _ _)
      | (with_reducible exact neonwrightref04_path.mono _ _)
      | (with_reducible exact LeO.refl _)
      | (with_reducible exact LeO.none _)
      | (with_reducible refine LeO.ite ?_ ?_)
      | (with_reducible refine LeO.bind ?_ (fun _ => ?_))
      | exact ih0 _ _ _ _
      | exact ih1 _ _ _ _ _
      | exact neonwrightref04_path.mono _ _
      | exact LeO.none _
      | refine LeO.ite ?_ ?_
      | refine LeO.bind ?_ (fun _ => ?_)
set_option maxHeartbeats 8000000 in
set_option maxRecDepth 100000 in
theorem neonwrightref04_snake.calls (k : Nat) (A0 : Option Addr) (c0 : Nat) (l0 : List Int) (r1 : Bool) (r2 : Bool) (w : World) (hr0 : Kd.C (Kd.int .i64) w A0 l0.length l0) (hc0 : l0.length ≤ c0) (h : neonwrightref04_snake.f k l0 = some (r1, r2)) :
    Calls Try.prog 52 #[.slice A0 l0.length c0] w fun e w' => e = .returned (.tuple #[.bool r1, .bool r2]) ∧ Drawn0 w w' := by
  have HR0 := Aside0.mk hr0
  have HC0 := Aside0.mk hc0
  clear hr0 hc0
  have H : ((neonwrightref04_path.f k l0).bind fun bt244 => (if bt244.1 = true then (neonwrightref04_snake.l0 k l0 bt244.2 true 0) else (some (false, false)))) = some (r1, r2) := h
  clear h
  replace H := Option.bind_eq_some_iff.mp H
  obtain ⟨⟨t244, t245⟩, A20, H⟩ := H
  replace H : (if t244 = true then (neonwrightref04_snake.l0 k l0 t245 true 0) else (some (false, false))) = some (r1, r2) := H
  have A2 := Aside0.mk A20
  clear A20
  by_cases c3 : t244 = true
  · subst c3
    have H1 : (neonwrightref04_snake.l0 k l0 t245 true 0) = some (r1, r2) := by rw [if_pos rfl] at H; exact H
    clear H
    have H := H1
    clear H1
    have H' := Aside0.mk H
    clear H
    go_enter Try.func52, Try.ntmps52
    go_wp2_with (first | (go_at_call 58; (with_reducible refine (neonwrightref04_path.calls k _ _ l0 true t245 _ ?side1 ?side2 A2.out).mono ?_); (case side1 => repeat (first | exact HR0.out | (with_reducible refine Kd.C_alloc ?_ _) | (with_reducible refine Kd.C_drewN ?_ _) | (with_reducible refine Kd.C_drew ?_))); (case side2 => exact HC0.out); rintro e w' ⟨rfl, ⟨nd, rfl⟩⟩; (try first | exact ⟨rfl, _, World.drewN_drewN _ _ _⟩ | exact ⟨rfl, _, Eq.trans (World.drewN_drewN _ _ _) (congrArg (World.drewN _) (Nat.add_assoc _ _ _))⟩)))
    repeat (go_quiet (first | (go_at_call 58; (with_reducible refine (neonwrightref04_path.calls k _ _ l0 true t245 _ ?side1 ?side2 A2.out).mono ?_); (case side1 => repeat (first | exact HR0.out | (with_reducible refine Kd.C_alloc ?_ _) | (with_reducible refine Kd.C_drewN ?_ _) | (with_reducible refine Kd.C_drew ?_))); (case side2 => exact HC0.out); rintro e w' ⟨rfl, ⟨nd, rfl⟩⟩; (try first | exact ⟨rfl, _, World.drewN_drewN _ _ _⟩ | exact ⟨rfl, _, Eq.trans (World.drewN_drewN _ _ _) (congrArg (World.drewN _) (Nat.add_assoc _ _ _))⟩))); try go_wp2_with (first | (go_at_call 58; (with_reducible refine (neonwrightref04_path.calls k _ _ l0 true t245 _ ?side1 ?side2 A2.out).mono ?_); (case side1 => repeat (first | exact HR0.out | (with_reducible refine Kd.C_alloc ?_ _) | (with_reducible refine Kd.C_drewN ?_ _) | (with_reducible refine Kd.C_drew ?_))); (case side2 => exact HC0.out); rintro e w' ⟨rfl, ⟨nd, rfl⟩⟩; (try first | exact ⟨rfl, _, World.drewN_drewN _ _ _⟩ | exact ⟨rfl, _, Eq.trans (World.drewN_drewN _ _ _) (congrArg (World.drewN _) (Nat.add_assoc _ _ _))⟩))))
    go_loopg [5, 6, 7] k (fun kq v5 v6 v7 w' => ∃ (x5_1 : Bool) (x6_1 : Bool) (x7_1 : Int), v5 = .bool x5_1 ∧ v6 = .bool x6_1 ∧ v7 = .int .i64 x7_1 ∧ Aside0 (neonwrightref04_snake.l0 kq l0 x5_1 x6_1 x7_1 = some (r1, r2)) ∧ Aside0 (kq ≤ k) ∧ Drawn0 w w')
    case atStart => exact ⟨(t245), (true), (0), (by first | rfl | (simp; done) | (simp [*]; done)), (by first | rfl | (simp; done) | (simp [*]; done)), (by first | rfl | (simp; done) | (simp [*]; done)), H', ⟨Nat.le_refl _⟩, by repeat (first | exact Drawn0.refl _ | apply Drawn0.step)⟩
    case round =>
      clear H'
      try clear p2
      try clear c3
      obtain ⟨x5_1, x6_1, x7_1, rfl, rfl, rfl, HA, HK1, ⟨m1, rfl⟩⟩ := hrel
      cases gk with
      | zero => exact absurd HA.out (by simp [neonwrightref04_snake.l0])
      | succ k1 =>
        have H := HA.out
        clear HA
        simp only [neonwrightref04_snake.l0] at H
        by_cases c4 : x7_1 < (l0.length : Int)
        · rw [if_pos c4] at H
          have c4b0 : decide (x7_1 < (l0.length : Int)) = true := decide_eq_true c4
          clear c4
          have H' := Aside0.mk H
          clear H
          go_wp2
          repeat (go_quiet (fail); try go_wp2)
          go_loopg [5, 6, 8] k1 (fun kq v5 v6 v8 w' => ∃ (x5_2 : Bool) (x6_2 : Bool) (x8_2 : Int), v5 = .bool x5_2 ∧ v6 = .bool x6_2 ∧ v8 = .int .i64 x8_2 ∧ Aside0 (neonwrightref04_snake.l1 kq l0 x5_2 x6_2 x7_1 x8_2 = some (r1, r2)) ∧ Aside0 (kq ≤ k1) ∧ Drawn0 w w')
          case atStart => exact ⟨(x5_1), (x6_1), (0), (by first | rfl | (simp; done) | (simp [*]; done)), (by first | rfl | (simp; done) | (simp [*]; done)), (by first | rfl | (simp; done) | (simp [*]; done)), H', ⟨Nat.le_refl _⟩, by repeat (first | exact Drawn0.refl _ | apply Drawn0.step)⟩
          case round =>
            clear H'
            try clear p2
            try clear c3
            try clear c4
            try clear c4b0
            try clear p2
            obtain ⟨x5_2, x6_2, x8_2, rfl, rfl, rfl, HA, HK2, ⟨m2, rfl⟩⟩ := hrel
            cases gk with
            | zero => exact absurd HA.out (by simp [neonwrightref04_snake.l1])
            | succ k2 =>
              have H := HA.out
              clear HA
              simp only [neonwrightref04_snake.l1] at H
              by_cases c5 : x8_2 < (wrap64 (x7_1 - 1))
              · rw [if_pos c5] at H
                have c5b0 : decide (x8_2 < (wrap64 (x7_1 - 1))) = true := decide_eq_true c5
                clear c5
                by_cases c6 : x8_2 = 0
                · rw [if_pos c6] at H
                  have c6b0 : (x8_2 == 0) = true := beq_iff_eq.mpr c6
                  have c6b1 : (x8_2 != 0) = false := bne_eq_false_iff_eq.mpr c6
                  clear c6
                  by_cases c7 : 0 ≤ x7_1
                  · rw [if_pos c7] at H
                    have c7b0 : decide (0 ≤ x7_1) = true := decide_eq_true c7
                    clear c7
                    by_cases c8 : x7_1 < (l0.length : Int)
                    · rw [if_pos c8] at H
                      have c8b0 : decide (x7_1 < (l0.length : Int)) = true := decide_eq_true c8
                      clear c8
                      by_cases c9 : 0 ≤ x8_2
                      · rw [if_pos c9] at H
                        have c9b0 : decide (0 ≤ x8_2) = true := decide_eq_true c9
                        clear c9
                        by_cases c10 : x8_2 < (l0.length : Int)
                        · rw [if_pos c10] at H
                          have c10b0 : decide (x8_2 < (l0.length : Int)) = true := decide_eq_true c10
                          clear c10
                          replace H := Option.bind_eq_some_iff.mp H
                          obtain ⟨t248, A110, H⟩ := H
                          replace H : (if t248 = true then (if x5_2 = true then (neonwrightref04_snake.l1 k2 l0 (x7_1 == (wrap64 ((l0.length : Int) - 1))) false x7_1 (wrap64 (x8_2 + 1))) else (neonwrightref04_snake.l1 k2 l0 false false x7_1 (wrap64 (x8_2 + 1)))) else (neonwrightref04_snake.l1 k2 l0 x5_2 x6_2 x7_1 (wrap64 (x8_2 + 1)))) = some (r1, r2) := H
                          have A11 := Aside0.mk A110
                          clear A110
                          by_cases c12 : t248 = true
                          · subst c12
                            have H1 : (if x5_2 = true then (neonwrightref04_snake.l1 k2 l0 (x7_1 == (wrap64 ((l0.length : Int) - 1))) false x7_1 (wrap64 (x8_2 + 1))) else (neonwrightref04_snake.l1 k2 l0 false false x7_1 (wrap64 (x8_2 + 1)))) = some (r1, r2) := by rw [if_pos rfl] at H; exact H
                            clear H
                            have H := H1
                            clear H1
                            by_cases c13 : x5_2 = true
                            · subst c13
                              have H1 : (neonwrightref04_snake.l1 k2 l0 (x7_1 == (wrap64 ((l0.length : Int) - 1))) false x7_1 (wrap64 (x8_2 + 1))) = some (r1, r2) := by rw [if_pos rfl] at H; exact H
                              clear H
                              have H := H1
                              clear H1
                              have H' := Aside0.mk H
                              clear H
                              have p246 : 0 ≤ (x7_1 : Int) := of_decide_eq_true (by first | (with_reducible assumption) | assumption)
                              have q246 : x7_1 < (l0.length : Int) := of_decide_eq_true (by first | (with_reducible assumption) | assumption)
                              obtain ⟨ad246, e246, hx246_0⟩ := Kd.at_int HR0.out x7_1 p246 q246
                              cases e246
                              replace p246 := eq_true p246
                              replace q246 := eq_true q246
                              have p247 : 0 ≤ (x8_2 : Int) := of_decide_eq_true (by first | (with_reducible assumption) | assumption)
                              have q247 : x8_2 < (l0.length : Int) := of_decide_eq_true (by first | (with_reducible assumption) | assumption)
                              obtain ⟨ad247, e247, hx247_0⟩ := Kd.at_int HR0.out x8_2 p247 q247
                              obtain rfl : ad246 = ad247 := (by injection e247)
                              replace p247 := eq_true p247
                              replace q247 := eq_true q247
                              go_wp2_with (first | (go_at_call 54; (with_reducible refine (neonwrightref04_near.calls (rd l0 x7_1) (rd l0 x8_2) true _ A11.out).mono ?_); rintro e w' ⟨rfl, ⟨nd, rfl⟩⟩; (try first | exact ⟨rfl, _, World.drewN_drewN _ _ _⟩ | exact ⟨rfl, _, Eq.trans (World.drewN_drewN _ _ _) (congrArg (World.drewN _) (Nat.add_assoc _ _ _))⟩)))
                              repeat (go_quiet (first | (go_at_call 54; (with_reducible refine (neonwrightref04_near.calls (rd l0 x7_1) (rd l0 x8_2) true _ A11.out).mono ?_); rintro e w' ⟨rfl, ⟨nd, rfl⟩⟩; (try first | exact ⟨rfl, _, World.drewN_drewN _ _ _⟩ | exact ⟨rfl, _, Eq.trans (World.drewN_drewN _ _ _) (congrArg (World.drewN _) (Nat.add_assoc _ _ _))⟩))); try go_wp2_with (first | (go_at_call 54; (with_reducible refine (neonwrightref04_near.calls (rd l0 x7_1) (rd l0 x8_2) true _ A11.out).mono ?_); rintro e w' ⟨rfl, ⟨nd, rfl⟩⟩; (try first | exact ⟨rfl, _, World.drewN_drewN _ _ _⟩ | exact ⟨rfl, _, Eq.trans (World.drewN_drewN _ _ _) (congrArg (World.drewN _) (Nat.add_assoc _ _ _))⟩))))
                              go_roundg k2
                              case measure => have := HK1.out; have := HK2.out; omega
                              case rel => exact ⟨((x7_1 == (wrap64 ((l0.length : Int) - 1)))), (false), (wrap64 (x8_2 + 1)), (by first | rfl | (simp; done) | (simp [*]; done)), (by first | rfl | (simp; done) | (simp [*]; done)), (by first | rfl | (simp; done) | (simp [*]; done)), H', ⟨by have := HK1.out; have := HK2.out; omega⟩, by repeat (first | exact Drawn0.refl _ | apply Drawn0.step)⟩
                            · replace c13 := Bool.eq_false_iff.mpr c13
                              subst c13
                              have H1 : (neonwrightref04_snake.l1 k2 l0 false false x7_1 (wrap64 (x8_2 + 1))) = some (r1, r2) := by rw [if_neg (show ¬ (false = true) by decide)] at H; exact H
                              clear H
                              have H := H1
                              clear H1
                              have H' := Aside0.mk H
                              clear H
                              have p246 : 0 ≤ (x7_1 : Int) := of_decide_eq_true (by first | (with_reducible assumption) | assumption)
                              have q246 : x7_1 < (l0.length : Int) := of_decide_eq_true (by first | (with_reducible assumption) | assumption)
                              obtain ⟨ad246, e246, hx246_0⟩ := Kd.at_int HR0.out x7_1 p246 q246
                              cases e246
                              replace p246 := eq_true p246
                              replace q246 := eq_true q246
                              have p247 : 0 ≤ (x8_2 : Int) := of_decide_eq_true (by first | (with_reducible assumption) | assumption)
                              have q247 : x8_2 < (l0.length : Int) := of_decide_eq_true (by first | (with_reducible assumption) | assumption)
                              obtain ⟨ad247, e247, hx247_0⟩ := Kd.at_int HR0.out x8_2 p247 q247
                              obtain rfl : ad246 = ad247 := (by injection e247)
                              replace p247 := eq_true p247
                              replace q247 := eq_true q247
                              go_wp2_with (first | (go_at_call 54; (with_reducible refine (neonwrightref04_near.calls (rd l0 x7_1) (rd l0 x8_2) true _ A11.out).mono ?_); rintro e w' ⟨rfl, ⟨nd, rfl⟩⟩; (try first | exact ⟨rfl, _, World.drewN_drewN _ _ _⟩ | exact ⟨rfl, _, Eq.trans (World.drewN_drewN _ _ _) (congrArg (World.drewN _) (Nat.add_assoc _ _ _))⟩)))
                              repeat (go_quiet (first | (go_at_call 54; (with_reducible refine (neonwrightref04_near.calls (rd l0 x7_1) (rd l0 x8_2) true _ A11.out).mono ?_); rintro e w' ⟨rfl, ⟨nd, rfl⟩⟩; (try first | exact ⟨rfl, _, World.drewN_drewN _ _ _⟩ | exact ⟨rfl, _, Eq.trans (World.drewN_drewN _ _ _) (congrArg (World.drewN _) (Nat.add_assoc _ _ _))⟩))); try go_wp2_with (first | (go_at_call 54; (with_reducible refine (neonwrightref04_near.calls (rd l0 x7_1) (rd l0 x8_2) true _ A11.out).mono ?_); rintro e w' ⟨rfl, ⟨nd, rfl⟩⟩; (try first | exact ⟨rfl, _, World.drewN_drewN _ _ _⟩ | exact ⟨rfl, _, Eq.trans (World.drewN_drewN _ _ _) (congrArg (World.drewN _) (Nat.add_assoc _ _ _))⟩))))
                              go_roundg k2
                              case measure => have := HK1.out; have := HK2.out; omega
                              case rel => exact ⟨(false), (false), (wrap64 (x8_2 + 1)), (by first | rfl | (simp; done) | (simp [*]; done)), (by first | rfl | (simp; done) | (simp [*]; done)), (by first | rfl | (simp; done) | (simp [*]; done)), H', ⟨by have := HK1.out; have := HK2.out; omega⟩, by repeat (first | exact Drawn0.refl _ | apply Drawn0.step)⟩
                          · replace c12 := Bool.eq_false_iff.mpr c12
                            subst c12
                            have H1 : (neonwrightref04_snake.l1 k2 l0 x5_2 x6_2 x7_1 (wrap64 (x8_2 + 1))) = some (r1, r2) := by rw [if_neg (show ¬ (false = true) by decide)] at H; exact H
                            clear H
                            have H := H1
                            clear H1
                            have H' := Aside0.mk H
                            clear H
                            have p246 : 0 ≤ (x7_1 : Int) := of_decide_eq_true (by first | (with_reducible assumption) | assumption)
                            have q246 : x7_1 < (l0.length : Int) := of_decide_eq_true (by first | (with_reducible assumption) | assumption)
                            obtain ⟨ad246, e246, hx246_0⟩ := Kd.at_int HR0.out x7_1 p246 q246
                            cases e246
                            replace p246 := eq_true p246
                            replace q246 := eq_true q246
                            have p247 : 0 ≤ (x8_2 : Int) := of_decide_eq_true (by first | (with_reducible assumption) | assumption)
                            have q247 : x8_2 < (l0.length : Int) := of_decide_eq_true (by first | (with_reducible assumption) | assumption)
                            obtain ⟨ad247, e247, hx247_0⟩ := Kd.at_int HR0.out x8_2 p247 q247
                            obtain rfl : ad246 = ad247 := (by injection e247)
                            replace p247 := eq_true p247
                            replace q247 := eq_true q247
                            go_wp2_with (first | (go_at_call 54; (with_reducible refine (neonwrightref04_near.calls (rd l0 x7_1) (rd l0 x8_2) false _ A11.out).mono ?_); rintro e w' ⟨rfl, ⟨nd, rfl⟩⟩; (try first | exact ⟨rfl, _, World.drewN_drewN _ _ _⟩ | exact ⟨rfl, _, Eq.trans (World.drewN_drewN _ _ _) (congrArg (World.drewN _) (Nat.add_assoc _ _ _))⟩)))
                            repeat (go_quiet (first | (go_at_call 54; (with_reducible refine (neonwrightref04_near.calls (rd l0 x7_1) (rd l0 x8_2) false _ A11.out).mono ?_); rintro e w' ⟨rfl, ⟨nd, rfl⟩⟩; (try first | exact ⟨rfl, _, World.drewN_drewN _ _ _⟩ | exact ⟨rfl, _, Eq.trans (World.drewN_drewN _ _ _) (congrArg (World.drewN _) (Nat.add_assoc _ _ _))⟩))); try go_wp2_with (first | (go_at_call 54; (with_reducible refine (neonwrightref04_near.calls (rd l0 x7_1) (rd l0 x8_2) false _ A11.out).mono ?_); rintro e w' ⟨rfl, ⟨nd, rfl⟩⟩; (try first | exact ⟨rfl, _, World.drewN_drewN _ _ _⟩ | exact ⟨rfl, _, Eq.trans (World.drewN_drewN _ _ _) (congrArg (World.drewN _) (Nat.add_assoc _ _ _))⟩))))
                            go_roundg k2
                            case measure => have := HK1.out; have := HK2.out; omega
                            case rel => exact ⟨(x5_2), (x6_2), (wrap64 (x8_2 + 1)), (by first | rfl | (simp; done) | (simp [*]; done)), (by first | rfl | (simp; done) | (simp [*]; done)), (by first | rfl | (simp; done) | (simp [*]; done)), H', ⟨by have := HK1.out; have := HK2.out; omega⟩, by repeat (first | exact Drawn0.refl _ | apply Drawn0.step)⟩
                        · rw [if_neg c10] at H
                          exact absurd H (by simp)
                      · rw [if_neg c9] at H
                        exact absurd H (by simp)
                    · rw [if_neg c8] at H
                      exact absurd H (by simp)
                  · rw [if_neg c7] at H
                    exact absurd H (by simp)
                · rw [if_neg c6] at H
                  have c6b0 : (x8_2 == 0) = false := beq_eq_false_iff_ne.mpr c6
                  have c6b1 : (x8_2 != 0) = true := bne_iff_ne.mpr c6
                  by_cases c14 : 0 ≤ x7_1
                  · rw [if_pos c14] at H
                    have c14b0 : decide (0 ≤ x7_1) = true := decide_eq_true c14
                    clear c14
                    by_cases c15 : x7_1 < (l0.length : Int)
                    · rw [if_pos c15] at H
                      have c15b0 : decide (x7_1 < (l0.length : Int)) = true := decide_eq_true c15
                      clear c15
                      by_cases c16 : 0 ≤ x8_2
                      · rw [if_pos c16] at H
                        have c16b0 : decide (0 ≤ x8_2) = true := decide_eq_true c16
                        clear c16
                        by_cases c17 : x8_2 < (l0.length : Int)
                        · rw [if_pos c17] at H
                          have c17b0 : decide (x8_2 < (l0.length : Int)) = true := decide_eq_true c17
                          clear c17
                          replace H := Option.bind_eq_some_iff.mp H
                          obtain ⟨t251, A180, H⟩ := H
                          replace H : (if t251 = true then (if x5_2 = true then (neonwrightref04_snake.l1 k2 l0 false false x7_1 (wrap64 (x8_2 + 1))) else (neonwrightref04_snake.l1 k2 l0 false false x7_1 (wrap64 (x8_2 + 1)))) else (neonwrightref04_snake.l1 k2 l0 x5_2 x6_2 x7_1 (wrap64 (x8_2 + 1)))) = some (r1, r2) := H
                          have A18 := Aside0.mk A180
                          clear A180
                          by_cases c19 : t251 = true
                          · subst c19
                            have H1 : (if x5_2 = true then (neonwrightref04_snake.l1 k2 l0 false false x7_1 (wrap64 (x8_2 + 1))) else (neonwrightref04_snake.l1 k2 l0 false false x7_1 (wrap64 (x8_2 + 1)))) = some (r1, r2) := by rw [if_pos rfl] at H; exact H
                            clear H
                            have H := H1
                            clear H1
                            by_cases c20 : x5_2 = true
                            · subst c20
                              have H1 : (neonwrightref04_snake.l1 k2 l0 false false x7_1 (wrap64 (x8_2 + 1))) = some (r1, r2) := by rw [if_pos rfl] at H; exact H
                              clear H
                              have H := H1
                              clear H1
                              have H' := Aside0.mk H
                              clear H
                              have p249 : 0 ≤ (x7_1 : Int) := of_decide_eq_true (by first | (with_reducible assumption) | assumption)
                              have q249 : x7_1 < (l0.length : Int) := of_decide_eq_true (by first | (with_reducible assumption) | assumption)
                              obtain ⟨ad249, e249, hx249_0⟩ := Kd.at_int HR0.out x7_1 p249 q249
                              cases e249
                              replace p249 := eq_true p249
                              replace q249 := eq_true q249
                              have p250 : 0 ≤ (x8_2 : Int) := of_decide_eq_true (by first | (with_reducible assumption) | assumption)
                              have q250 : x8_2 < (l0.length : Int) := of_decide_eq_true (by first | (with_reducible assumption) | assumption)
                              obtain ⟨ad250, e250, hx250_0⟩ := Kd.at_int HR0.out x8_2 p250 q250
                              obtain rfl : ad249 = ad250 := (by injection e250)
                              replace p250 := eq_true p250
                              replace q250 := eq_true q250
                              go_wp2_with (first | (go_at_call 54; (with_reducible refine (neonwrightref04_near.calls (rd l0 x7_1) (rd l0 x8_2) true _ A18.out).mono ?_); rintro e w' ⟨rfl, ⟨nd, rfl⟩⟩; (try first | exact ⟨rfl, _, World.drewN_drewN _ _ _⟩ | exact ⟨rfl, _, Eq.trans (World.drewN_drewN _ _ _) (congrArg (World.drewN _) (Nat.add_assoc _ _ _))⟩)))
                              repeat (go_quiet (first | (go_at_call 54; (with_reducible refine (neonwrightref04_near.calls (rd l0 x7_1) (rd l0 x8_2) true _ A18.out).mono ?_); rintro e w' ⟨rfl, ⟨nd, rfl⟩⟩; (try first | exact ⟨rfl, _, World.drewN_drewN _ _ _⟩ | exact ⟨rfl, _, Eq.trans (World.drewN_drewN _ _ _) (congrArg (World.drewN _) (Nat.add_assoc _ _ _))⟩))); try go_wp2_with (first | (go_at_call 54; (with_reducible refine (neonwrightref04_near.calls (rd l0 x7_1) (rd l0 x8_2) true _ A18.out).mono ?_); rintro e w' ⟨rfl, ⟨nd, rfl⟩⟩; (try first | exact ⟨rfl, _, World.drewN_drewN _ _ _⟩ | exact ⟨rfl, _, Eq.trans (World.drewN_drewN _ _ _) (congrArg (World.drewN _) (Nat.add_assoc _ _ _))⟩))))
                              go_roundg k2
                              case measure => have := HK1.out; have := HK2.out; omega
                              case rel => exact ⟨(false), (false), (wrap64 (x8_2 + 1)), (by first | rfl | (simp; done) | (simp [*]; done)), (by first | rfl | (simp; done) | (simp [*]; done)), (by first | rfl | (simp; done) | (simp [*]; done)), H', ⟨by have := HK1.out; have := HK2.out; omega⟩, by repeat (first | exact Drawn0.refl _ | apply Drawn0.step)⟩
                            · replace c20 := Bool.eq_false_iff.mpr c20
                              subst c20
                              have H1 : (neonwrightref04_snake.l1 k2 l0 false false x7_1 (wrap64 (x8_2 + 1))) = some (r1, r2) := by rw [if_neg (show ¬ (false = true) by decide)] at H; exact H
                              clear H
                              have H := H1
                              clear H1
                              have H' := Aside0.mk H
                              clear H
                              have p249 : 0 ≤ (x7_1 : Int) := of_decide_eq_true (by first | (with_reducible assumption) | assumption)
                              have q249 : x7_1 < (l0.length : Int) := of_decide_eq_true (by first | (with_reducible assumption) | assumption)
                              obtain ⟨ad249, e249, hx249_0⟩ := Kd.at_int HR0.out x7_1 p249 q249
                              cases e249
                              replace p249 := eq_true p249
                              replace q249 := eq_true q249
                              have p250 : 0 ≤ (x8_2 : Int) := of_decide_eq_true (by first | (with_reducible assumption) | assumption)
                              have q250 : x8_2 < (l0.length : Int) := of_decide_eq_true (by first | (with_reducible assumption) | assumption)
                              obtain ⟨ad250, e250, hx250_0⟩ := Kd.at_int HR0.out x8_2 p250 q250
                              obtain rfl : ad249 = ad250 := (by injection e250)
                              replace p250 := eq_true p250
                              replace q250 := eq_true q250
                              go_wp2_with (first | (go_at_call 54; (with_reducible refine (neonwrightref04_near.calls (rd l0 x7_1) (rd l0 x8_2) true _ A18.out).mono ?_); rintro e w' ⟨rfl, ⟨nd, rfl⟩⟩; (try first | exact ⟨rfl, _, World.drewN_drewN _ _ _⟩ | exact ⟨rfl, _, Eq.trans (World.drewN_drewN _ _ _) (congrArg (World.drewN _) (Nat.add_assoc _ _ _))⟩)))
                              repeat (go_quiet (first | (go_at_call 54; (with_reducible refine (neonwrightref04_near.calls (rd l0 x7_1) (rd l0 x8_2) true _ A18.out).mono ?_); rintro e w' ⟨rfl, ⟨nd, rfl⟩⟩; (try first | exact ⟨rfl, _, World.drewN_drewN _ _ _⟩ | exact ⟨rfl, _, Eq.trans (World.drewN_drewN _ _ _) (congrArg (World.drewN _) (Nat.add_assoc _ _ _))⟩))); try go_wp2_with (first | (go_at_call 54; (with_reducible refine (neonwrightref04_near.calls (rd l0 x7_1) (rd l0 x8_2) true _ A18.out).mono ?_); rintro e w' ⟨rfl, ⟨nd, rfl⟩⟩; (try first | exact ⟨rfl, _, World.drewN_drewN _ _ _⟩ | exact ⟨rfl, _, Eq.trans (World.drewN_drewN _ _ _) (congrArg (World.drewN _) (Nat.add_assoc _ _ _))⟩))))
                              go_roundg k2
                              case measure => have := HK1.out; have := HK2.out; omega
                              case rel => exact ⟨(false), (false), (wrap64 (x8_2 + 1)), (by first | rfl | (simp; done) | (simp [*]; done)), (by first | rfl | (simp; done) | (simp [*]; done)), (by first | rfl | (simp; done) | (simp [*]; done)), H', ⟨by have := HK1.out; have := HK2.out; omega⟩, by repeat (first | exact Drawn0.refl _ | apply Drawn0.step)⟩
                          · replace c19 := Bool.eq_false_iff.mpr c19
                            subst c19
                            have H1 : (neonwrightref04_snake.l1 k2 l0 x5_2 x6_2 x7_1 (wrap64 (x8_2 + 1))) = some (r1, r2) := by rw [if_neg (show ¬ (false = true) by decide)] at H; exact H
                            clear H
                            have H := H1
                            clear H1
                            have H' := Aside0.mk H
                            clear H
                            have p249 : 0 ≤ (x7_1 : Int) := of_decide_eq_true (by first | (with_reducible assumption) | assumption)
                            have q249 : x7_1 < (l0.length : Int) := of_decide_eq_true (by first | (with_reducible assumption) | assumption)
                            obtain ⟨ad249, e249, hx249_0⟩ := Kd.at_int HR0.out x7_1 p249 q249
                            cases e249
                            replace p249 := eq_true p249
                            replace q249 := eq_true q249
                            have p250 : 0 ≤ (x8_2 : Int) := of_decide_eq_true (by first | (with_reducible assumption) | assumption)
                            have q250 : x8_2 < (l0.length : Int) := of_decide_eq_true (by first | (with_reducible assumption) | assumption)
                            obtain ⟨ad250, e250, hx250_0⟩ := Kd.at_int HR0.out x8_2 p250 q250
                            obtain rfl : ad249 = ad250 := (by injection e250)
                            replace p250 := eq_true p250
                            replace q250 := eq_true q250
                            go_wp2_with (first | (go_at_call 54; (with_reducible refine (neonwrightref04_near.calls (rd l0 x7_1) (rd l0 x8_2) false _ A18.out).mono ?_); rintro e w' ⟨rfl, ⟨nd, rfl⟩⟩; (try first | exact ⟨rfl, _, World.drewN_drewN _ _ _⟩ | exact ⟨rfl, _, Eq.trans (World.drewN_drewN _ _ _) (congrArg (World.drewN _) (Nat.add_assoc _ _ _))⟩)))
                            repeat (go_quiet (first | (go_at_call 54; (with_reducible refine (neonwrightref04_near.calls (rd l0 x7_1) (rd l0 x8_2) false _ A18.out).mono ?_); rintro e w' ⟨rfl, ⟨nd, rfl⟩⟩; (try first | exact ⟨rfl, _, World.drewN_drewN _ _ _⟩ | exact ⟨rfl, _, Eq.trans (World.drewN_drewN _ _ _) (congrArg (World.drewN _) (Nat.add_assoc _ _ _))⟩))); try go_wp2_with (first | (go_at_call 54; (with_reducible refine (neonwrightref04_near.calls (rd l0 x7_1) (rd l0 x8_2) false _ A18.out).mono ?_); rintro e w' ⟨rfl, ⟨nd, rfl⟩⟩; (try first | exact ⟨rfl, _, World.drewN_drewN _ _ _⟩ | exact ⟨rfl, _, Eq.trans (World.drewN_drewN _ _ _) (congrArg (World.drewN _) (Nat.add_assoc _ _ _))⟩))))
                            go_roundg k2
                            case measure => have := HK1.out; have := HK2.out; omega
                            case rel => exact ⟨(x5_2), (x6_2), (wrap64 (x8_2 + 1)), (by first | rfl | (simp; done) | (simp [*]; done)), (by first | rfl | (simp; done) | (simp [*]; done)), (by first | rfl | (simp; done) | (simp [*]; done)), H', ⟨by have := HK1.out; have := HK2.out; omega⟩, by repeat (first | exact Drawn0.refl _ | apply Drawn0.step)⟩
                        · rw [if_neg c17] at H
                          exact absurd H (by simp)
                      · rw [if_neg c16] at H
                        exact absurd H (by simp)
                    · rw [if_neg c15] at H
                      exact absurd H (by simp)
                  · rw [if_neg c14] at H
                    exact absurd H (by simp)
              · rw [if_neg c5] at H
                have c5b0 : decide (x8_2 < (wrap64 (x7_1 - 1))) = false := decide_eq_false c5
                clear c5
                have H' := Aside0.mk H
                clear H
                go_wp2
                repeat (go_quiet (fail); try go_wp2)
                go_roundg k2
                case measure => have := HK1.out; have := HK2.out; omega
                case rel => exact ⟨(x5_2), (x6_2), (wrap64 (x7_1 + 1)), (by first | rfl | (simp; done) | (simp [*]; done)), (by first | rfl | (simp; done) | (simp [*]; done)), (by first | rfl | (simp; done) | (simp [*]; done)), H', ⟨by have := HK1.out; have := HK2.out; omega⟩, by repeat (first | exact Drawn0.refl _ | apply Drawn0.step)⟩
        · rw [if_neg c4] at H
          have c4b0 : decide (x7_1 < (l0.length : Int)) = false := decide_eq_false c4
          clear c4
          simp only [Option.some.injEq, Prod.mk.injEq] at H
          obtain ⟨rfl, rfl⟩ := H
          go_wp2
          repeat (go_quiet (fail); try go_wp2)
          go_ret2
          exact ⟨by first | rfl | (simp; done) | (simp [*]; done), by repeat (first | exact Drawn0.refl _ | apply Drawn0.step)⟩
  · replace c3 := Bool.eq_false_iff.mpr c3
    subst c3
    have H1 : (some (false, false)) = some (r1, r2) := by rw [if_neg (show ¬ (false = true) by decide)] at H; exact H
    clear H
    have H := H1
    clear H1
    simp only [Option.some.injEq, Prod.mk.injEq] at H
    obtain ⟨rfl, rfl⟩ := H
    go_enter Try.func52, Try.ntmps52
    go_wp2_with (first | (go_at_call 58; (with_reducible refine (neonwrightref04_path.calls k _ _ l0 false t245 _ ?side1 ?side2 A2.out).mono ?_); (case side1 => repeat (first | exact HR0.out | (with_reducible refine Kd.C_alloc ?_ _) | (with_reducible refine Kd.C_drewN ?_ _) | (with_reducible refine Kd.C_drew ?_))); (case side2 => exact HC0.out); rintro e w' ⟨rfl, ⟨nd, rfl⟩⟩; (try first | exact ⟨rfl, _, World.drewN_drewN _ _ _⟩ | exact ⟨rfl, _, Eq.trans (World.drewN_drewN _ _ _) (congrArg (World.drewN _) (Nat.add_assoc _ _ _))⟩)))
    repeat (go_quiet (first | (go_at_call 58; (with_reducible refine (neonwrightref04_path.calls k _ _ l0 false t245 _ ?side1 ?side2 A2.out).mono ?_); (case side1 => repeat (first | exact HR0.out | (with_reducible refine Kd.C_alloc ?_ _) | (with_reducible refine Kd.C_drewN ?_ _) | (with_reducible refine Kd.C_drew ?_))); (case side2 => exact HC0.out); rintro e w' ⟨rfl, ⟨nd, rfl⟩⟩; (try first | exact ⟨rfl, _, World.drewN_drewN _ _ _⟩ | exact ⟨rfl, _, Eq.trans (World.drewN_drewN _ _ _) (congrArg (World.drewN _) (Nat.add_assoc _ _ _))⟩))); try go_wp2_with (first | (go_at_call 58; (with_reducible refine (neonwrightref04_path.calls k _ _ l0 false t245 _ ?side1 ?side2 A2.out).mono ?_); (case side1 => repeat (first | exact HR0.out | (with_reducible refine Kd.C_alloc ?_ _) | (with_reducible refine Kd.C_drewN ?_ _) | (with_reducible refine Kd.C_drew ?_))); (case side2 => exact HC0.out); rintro e w' ⟨rfl, ⟨nd, rfl⟩⟩; (try first | exact ⟨rfl, _, World.drewN_drewN _ _ _⟩ | exact ⟨rfl, _, Eq.trans (World.drewN_drewN _ _ _) (congrArg (World.drewN _) (Nat.add_assoc _ _ _))⟩))))
    go_ret2
    exact ⟨by first | rfl | (simp; done) | (simp [*]; done), by repeat (first | exact Drawn0.refl _ | apply Drawn0.step)⟩

end Go.Proofs.Ytnakkdaeehglnaa.P

namespace Go.Proofs.Ytnakkdaeehglnaa.P
open Go.RowKit Go.Proofs.YtnakkdaeehglnaaW.PrintWords Go.Proofs.YtnakkdaeehglnaaW.PrintLast Go.Proofs.YtnakkdaeehglnaaW.PrintMore
attribute [local go_sem] max2_int min2_int max_two min_two max_three min_three max_four min_four   -- for this text's walks alone
set_option linter.unusedVariables false
set_option linter.unusedSimpArgs false

/-! ### neonwrightref04_Snake: function 28 -/
def neonwrightref04_Snake.f (k : Nat) (a0 : Int) (l1 : List Int) : Option (Bool × Bool × Int) := (neonwrightref04_States.f k a0 l1).bind fun t252 => (if t252 = 0 then ((neonwrightref04_snake.f k l1).bind fun bt253 => (some (bt253.1, bt253.2, 0))) else (some (false, false, t252)))
theorem neonwrightref04_Snake.mono : ∀ a0 a1 k, LeO (neonwrightref04_Snake.f k a0 a1) (neonwrightref04_Snake.f (k + 1) a0 a1) := by
  intro a0 a1 k
  unfold neonwrightref04_Snake.f
  repeat' first
      | (with_reducible exact neonwrightref04_States.mono _ _ _)
      | (with_reducible exact neonwrightref04_snake.mono _ _)
      | (with_reducible exact LeO.refl _)
      | (with_reducible exact LeO.none _)
      | (with_reducible refine LeO.ite ?_ ?_)
      | (with_reducible refine LeO.bind ?_ (fun _ => ?_))
      | exact neonwrightref04_States.mono _ _ _
      | exact neonwrightref04_snake.mono _ _
      | exact LeO.none _
      | refine LeO.ite ?_ ?_
      | refine LeO.bind ?_ (fun _ => ?_)
set_option maxHeartbeats 8000000 in
set_option maxRecDepth 100000 in
theorem neonwrightref04_Snake.calls (k : Nat) (a0 : Int) (A1 : Option Addr) (c1 : Nat) (l1 : List Int) (r1 : Bool) (r2 : Bool) (r3 : Int) (w : World) (hr1 : Kd.C (Kd.int .i64) w A1 l1.length l1) (hc1 : l1.length ≤ c1) (h : neonwrightref04_Snake.f k a0 l1 = some (r1, r2, r3)) :
    Calls Try.prog 28 #[.int .i64 a0, .slice A1 l1.length c1] w fun e w' => e = .returned (.tuple #[.bool r1, .bool r2, .int .i64 r3]) ∧ Drawn0 w w' := by
  have HR1 := Aside0.mk hr1
  have HC1 := Aside0.mk hc1
  clear hr1 hc1
  have H : ((neonwrightref04_States.f k a0 l1).bind fun t252 => (if t252 = 0 then ((neonwrightref04_snake.f k l1).bind fun bt253 => (some (bt253.1, bt253.2, 0))) else (some (false, false, t252)))) = some (r1, r2, r3) := h
  clear h
  replace H := Option.bind_eq_some_iff.mp H
  obtain ⟨t252, A30, H⟩ := H
  replace H : (if t252 = 0 then ((neonwrightref04_snake.f k l1).bind fun bt253 => (some (bt253.1, bt253.2, 0))) else (some (false, false, t252))) = some (r1, r2, r3) := H
  have A3 := Aside0.mk A30
  clear A30
  by_cases c4 : t252 = 0
  · rw [if_pos c4] at H
    have c4b0 : (t252 == 0) = true := beq_iff_eq.mpr c4
    have c4b1 : (t252 != 0) = false := bne_eq_false_iff_eq.mpr c4
    clear c4
    replace H := Option.bind_eq_some_iff.mp H
    obtain ⟨⟨t253, t254⟩, A50, H⟩ := H
    replace H : (some (t253, t254, 0)) = some (r1, r2, r3) := H
    have A5 := Aside0.mk A50
    clear A50
    simp only [Option.some.injEq, Prod.mk.injEq] at H
    obtain ⟨rfl, rfl, rfl⟩ := H
    go_enter Try.func28, Try.ntmps28
    go_wp2_with (first | ((with_reducible refine gate_callee (f := 51) rfl ?_); refine goesL_ (some 12) rfl rfl Try.func51 (by kernel_rfl) rfl #[.int .i64 a0, .slice A1 l1.length c1] rfl (by (try simp only [List.map_toArray, List.map_cons, List.map_nil]); first | done | rfl | (simp only [List.length_drop, List.length_take]; rfl)) ?_; (with_reducible refine (neonwrightref04_States.calls k a0 _ _ l1 t252 _ ?side1 ?side2 A3.out).mono ?_); (case side1 => repeat (first | exact HR1.out | (with_reducible refine Kd.C_alloc ?_ _) | (with_reducible refine Kd.C_drewN ?_ _) | (with_reducible refine Kd.C_drew ?_))); (case side2 => exact HC1.out); rintro e w' ⟨rfl, ⟨nd, rfl⟩⟩; refine ⟨_, rfl, ?_⟩) | ((with_reducible refine gate_callee (f := 52) rfl ?_); refine goesL_ (some 18) rfl rfl Try.func52 (by kernel_rfl) rfl #[.slice A1 l1.length c1] rfl (by (try simp only [List.map_toArray, List.map_cons, List.map_nil]); first | done | rfl | (simp only [List.length_drop, List.length_take]; rfl)) ?_; (with_reducible refine (neonwrightref04_snake.calls k _ _ l1 t253 t254 _ ?side1 ?side2 A5.out).mono ?_); (case side1 => repeat (first | exact HR1.out | (with_reducible refine Kd.C_alloc ?_ _) | (with_reducible refine Kd.C_drewN ?_ _) | (with_reducible refine Kd.C_drew ?_))); (case side2 => exact HC1.out); rintro e w' ⟨rfl, ⟨nd, rfl⟩⟩; refine ⟨_, rfl, ?_⟩))
    go_ret3
    exact ⟨by first | rfl | (simp; done) | (simp [*]; done), by repeat (first | exact Drawn0.refl _ | apply Drawn0.step)⟩
  · rw [if_neg c4] at H
    have c4b0 : (t252 == 0) = false := beq_eq_false_iff_ne.mpr c4
    have c4b1 : (t252 != 0) = true := bne_iff_ne.mpr c4
    simp only [Option.some.injEq, Prod.mk.injEq] at H
    obtain ⟨rfl, rfl, rfl⟩ := H
    go_enter Try.func28, Try.ntmps28
    go_wp2_with (first | ((with_reducible refine gate_callee (f := 51) rfl ?_); refine goesL_ (some 12) rfl rfl Try.func51 (by kernel_rfl) rfl #[.int .i64 a0, .slice A1 l1.length c1] rfl (by (try simp only [List.map_toArray, List.map_cons, List.map_nil]); first | done | rfl | (simp only [List.length_drop, List.length_take]; rfl)) ?_; (with_reducible refine (neonwrightref04_States.calls k a0 _ _ l1 t252 _ ?side1 ?side2 A3.out).mono ?_); (case side1 => repeat (first | exact HR1.out | (with_reducible refine Kd.C_alloc ?_ _) | (with_reducible refine Kd.C_drewN ?_ _) | (with_reducible refine Kd.C_drew ?_))); (case side2 => exact HC1.out); rintro e w' ⟨rfl, ⟨nd, rfl⟩⟩; refine ⟨_, rfl, ?_⟩))
    go_ret3
    exact ⟨by first | rfl | (simp; done) | (simp [*]; done), by repeat (first | exact Drawn0.refl _ | apply Drawn0.step)⟩

end Go.Proofs.Ytnakkdaeehglnaa.P

set_option linter.unusedSimpArgs false
set_option linter.unusedVariables false
namespace Go.Proofs.Ytnakkdaeehglnaa.Kit

def gray (i : Nat) : Nat := i ^^^ (i / 2)
theorem xor_half (a b : Nat) : (a ^^^ b) / 2 = (a / 2) ^^^ (b / 2) := by
  have := @Nat.xor_div_two_pow a b 1
  simpa using this
theorem xor_low (a b : Nat) : (a ^^^ b) % 2 = (a % 2 + b % 2) % 2 := by
  have h := @Nat.xor_mod_two_pow a b 1
  rw [Nat.pow_one] at h
  rw [h]
  rcases Nat.mod_two_eq_zero_or_one a with ha | ha <;> rcases Nat.mod_two_eq_zero_or_one b with hb | hb <;> rw [ha, hb] <;> rfl
theorem xor_split (a b c d : Nat) (hb : b < 2) (hd : d < 2) : (2 * a + b) ^^^ (2 * c + d) = 2 * (a ^^^ c) + (b + d) % 2 := by
  have h1 := xor_half (2 * a + b) (2 * c + d)
  have h2 := xor_low (2 * a + b) (2 * c + d)
  rw [show (2 * a + b) / 2 = a from by omega, show (2 * c + d) / 2 = c from by omega] at h1
  rw [show (2 * a + b) % 2 = b from by omega, show (2 * c + d) % 2 = d from by omega] at h2
  omega
theorem gray_rec (x y : Nat) (hy : y < 2) : gray (2 * x + y) = 2 * gray x + (x + y) % 2 := by
  unfold gray
  rw [show (2 * x + y) / 2 = x from by omega]
  have h := xor_split x y (x / 2) (x % 2) hy (by omega)
  rw [show 2 * (x / 2) + x % 2 = x from by omega] at h
  rw [h]
  omega
theorem gray_zero : gray 0 = 0 := rfl
theorem gray_half (i : Nat) : gray i / 2 = gray (i / 2) := by
  have h := gray_rec (i / 2) (i % 2) (by omega)
  rw [show 2 * (i / 2) + i % 2 = i from by omega] at h
  omega
theorem gray_up : ∀ t j, j < 2 ^ t → gray (2 ^ t + j) = 2 ^ t + gray (2 ^ t - 1 - j) := by
  intro t
  induction t with
  | zero =>
    intro j hj
    have : j = 0 := by simpa using hj
    subst this
    rfl
  | succ t ih =>
    intro j hj
    rw [Nat.pow_succ] at hj ⊢
    have hp := Nat.two_pow_pos t
    have h1 := ih (j / 2) (by omega)
    have h2 := gray_rec (2 ^ t + j / 2) (j % 2) (by omega)
    have h3 := gray_rec (2 ^ t - 1 - j / 2) (1 - j % 2) (by omega)
    rw [show 2 * (2 ^ t + j / 2) + j % 2 = 2 ^ t * 2 + j from by omega] at h2
    rw [show 2 * (2 ^ t - 1 - j / 2) + (1 - j % 2) = 2 ^ t * 2 - 1 - j from by omega] at h3
    omega
theorem gray_lt : ∀ t i, i < 2 ^ t → gray i < 2 ^ t := fun t i h => Nat.xor_lt_two_pow h (Nat.lt_of_le_of_lt (Nat.div_le_self _ _) h)
/-- Exclusive or of a number and all that come of it by halving. -/
def rankN : Nat → Nat → Nat
  | 0, _ => 0
  | f + 1, x => if 0 < x then x ^^^ rankN f (x / 2) else 0
theorem rank_gray : ∀ f i, i < 2 ^ f → rankN f (gray i) = i := by
  intro f
  induction f with
  | zero => intro i h; have : i = 0 := by simpa using h
            subst this; rfl
  | succ f ih =>
    intro i h
    unfold rankN
    rw [Nat.pow_succ] at h
    by_cases h0 : 0 < gray i
    · rw [if_pos h0, gray_half, ih (i / 2) (by omega)]
      unfold gray
      rw [Nat.xor_assoc, Nat.xor_self, Nat.xor_zero]
    · rw [if_neg h0]
      have hz : gray i = 0 := by omega
      have h1 := gray_half i
      rw [hz] at h1
      have h2 := ih (i / 2) (by omega)
      rw [← h1] at h2
      have h3 : rankN f (0 / 2) = 0 := by cases f <;> rfl
      rw [h3] at h2
      have : i < 2 := by omega
      have h4 : i = 0 ∨ i = 1 := by omega
      rcases h4 with rfl | rfl
      · rfl
      · cases hz
theorem gray_inj {i j : Nat} (h : gray i = gray j) : i = j := by
  have h1 := rank_gray (i + j) i (Nat.lt_of_le_of_lt (Nat.le_add_right i j) Nat.lt_two_pow_self)
  have h2 := rank_gray (i + j) j (Nat.lt_of_le_of_lt (Nat.le_add_left j i) Nat.lt_two_pow_self)
  rw [h] at h1
  exact h1.symm.trans h2
/-- The place of a state, from the low bit on. -/
def placeN (s : Nat) : Nat → Nat
  | 0 => 0
  | t + 1 => if s / 2 ^ t % 2 = 1 then 2 ^ (t + 1) - 1 - placeN s t else placeN s t
theorem place_gray (s : Nat) : ∀ t, placeN s t < 2 ^ t ∧ gray (placeN s t) = s % 2 ^ t := by
  intro t
  induction t with
  | zero => exact ⟨by simp [placeN], by simp [placeN, gray_zero, Nat.mod_one]⟩
  | succ t ih =>
    obtain ⟨h1, h2⟩ := ih
    have hp := Nat.two_pow_pos t
    have hm : s % 2 ^ (t + 1) = s % 2 ^ t + 2 ^ t * (s / 2 ^ t % 2) := Nat.mod_mul
    unfold placeN
    by_cases hb : s / 2 ^ t % 2 = 1
    · rw [if_pos hb]
      have hu := gray_up t (2 ^ t - 1 - placeN s t) (by omega)
      rw [show 2 ^ t - 1 - (2 ^ t - 1 - placeN s t) = placeN s t from by omega] at hu
      rw [Nat.pow_succ] at hm ⊢
      rw [show 2 ^ t * 2 - 1 - placeN s t = 2 ^ t + (2 ^ t - 1 - placeN s t) from by omega]
      refine ⟨by omega, ?_⟩
      rw [hu, hm, hb, h2]
      omega
    · rw [if_neg hb]
      have hb0 : s / 2 ^ t % 2 = 0 := by omega
      refine ⟨Nat.lt_of_lt_of_le h1 (Nat.pow_le_pow_right (by decide) (by omega)), ?_⟩
      rw [hm, hb0, h2]
      omega
/-- Downwards: what is added, and where one goes on. -/
def upN : Nat → Nat → Nat → Nat
  | 0, _, out => out
  | t + 1, i, out => if 2 ^ t ≤ i then upN t (2 ^ (t + 1) - 1 - i) (out + 2 ^ t) else upN t i out
theorem up_gray : ∀ t i out, i < 2 ^ t → upN t i out = out + gray i := by
  intro t
  induction t with
  | zero => intro i out h; have : i = 0 := by simpa using h
            subst this; rfl
  | succ t ih =>
    intro i out h
    unfold upN
    have hp := Nat.two_pow_pos t
    by_cases hb : 2 ^ t ≤ i
    · rw [if_pos hb]
      have h2 := h
      rw [Nat.pow_succ] at h2
      have hu := gray_up t (i - 2 ^ t) (by omega)
      rw [show 2 ^ t + (i - 2 ^ t) = i from by omega] at hu
      rw [Nat.pow_succ, show 2 ^ t * 2 - 1 - i = 2 ^ t - 1 - (i - 2 ^ t) from by omega, ih _ _ (by omega), hu]
      omega
    · rw [if_neg hb, ih _ _ (by omega)]
/-- A number is a power of 2. -/
def oneN (x : Nat) : Bool := decide (0 < x) && (x &&& (x - 1) == 0)
theorem one_pow (t : Nat) : oneN (2 ^ t) = true := by
  unfold oneN
  rw [decide_eq_true (Nat.two_pow_pos t), Bool.true_and, Nat.and_two_pow_sub_one_eq_mod, Nat.mod_self]
  rfl
theorem gray_next : ∀ n i, 0 < i → i ≤ n → ∃ t, gray i ^^^ gray (i - 1) = 2 ^ t ∧ 2 ^ t ≤ i := by
  intro n
  induction n with
  | zero => intro i h0 h; omega
  | succ n ih =>
    intro i h0 h
    have h1 := gray_rec (i / 2) (i % 2) (by omega)
    rw [show 2 * (i / 2) + i % 2 = i from by omega] at h1
    rcases Nat.mod_two_eq_zero_or_one i with hm | hm
    · obtain ⟨t, ht, hle⟩ := ih (i / 2) (by omega) (by omega)
      have h2 := gray_rec (i / 2 - 1) 1 (by omega)
      rw [show 2 * (i / 2 - 1) + 1 = i - 1 from by omega] at h2
      refine ⟨t + 1, ?_, by rw [Nat.pow_succ]; omega⟩
      rw [h1, h2, xor_split _ _ _ _ (by omega) (by omega), ht, Nat.pow_succ]
      omega
    · have h2 := gray_rec (i / 2) 0 (by omega)
      rw [show 2 * (i / 2) + 0 = i - 1 from by omega] at h2
      refine ⟨0, ?_, by simp; omega⟩
      rw [h1, h2, xor_split _ _ _ _ (by omega) (by omega), Nat.xor_self]
      omega
theorem gray_last (n : Nat) (hn : 1 ≤ n) : gray (2 ^ n - 1) = 2 ^ (n - 1) := by
  obtain ⟨m, rfl⟩ : ∃ m, n = m + 1 := ⟨n - 1, by omega⟩
  have hp := Nat.two_pow_pos m
  have h := gray_up m (2 ^ m - 1) (by omega)
  rw [show 2 ^ m - 1 - (2 ^ m - 1) = 0 from by omega, gray_zero] at h
  rw [Nat.pow_succ, show 2 ^ m * 2 - 1 = 2 ^ m + (2 ^ m - 1) from by omega, h]
  simp
end Go.Proofs.Ytnakkdaeehglnaa.Kit

set_option linter.unusedSimpArgs false
set_option linter.unusedVariables false
namespace Go.Proofs.Ytnakkdaeehglnaa.P
open Go.Lib Go.RowKit Go.Proofs.YtnakkdaeehglnaaW.PrintWords Go.Proofs.YtnakkdaeehglnaaW.PrintMore Go.Proofs.Ytnakkdaeehglnaa.Kit

/-- Something is so at d places from j on. -/
def okFrom (p : Nat → Bool) : Nat → Nat → Bool
  | 0, _ => true
  | d + 1, j => p j && okFrom p d (j + 1)
theorem okFrom_iff (p : Nat → Bool) : ∀ d j, okFrom p d j = true ↔ ∀ x, j ≤ x → x < j + d → p x = true := by
  intro d
  induction d with
  | zero => intro j; exact ⟨fun _ x h1 h2 => by omega, fun _ => rfl⟩
  | succ d ih =>
    intro j
    unfold okFrom
    rw [Bool.and_eq_true, ih]
    constructor
    · rintro ⟨h1, h2⟩ x hx1 hx2
      rcases Nat.eq_or_lt_of_le hx1 with rfl | h
      · exact h1
      · exact h2 x (by omega) (by omega)
    · intro h
      exact ⟨h j (Nat.le_refl _) (by omega), fun x h1 h2 => h x (by omega) (by omega)⟩
def listedN (n : Int) (l : List Int) : Int :=
  if 1 ≤ n ∧ n ≤ 12 then (if (l.length : Int) > ((2 ^ n.toNat : Nat) : Int) then 3 else if l.length = 0 then 2 else if l.any (stOut n) = true then 2 else 0) else 2
theorem listed_f (n : Int) (l : List Int) : flash_listed.f n l = some (listedN n l) := by
  unfold flash_listed.f listedN
  split
  · split
    · rfl
    · split
      · rfl
      · split <;> rfl
  · rfl
/-- A list that there may be. -/
structure Fine (n : Nat) (l : List Int) : Prop where
  n1 : 1 ≤ n
  n2 : n ≤ 12
  pos : 0 < l.length
  len : l.length ≤ 2 ^ n
  all : ∀ x, x ∈ l → 0 ≤ x ∧ x < ((2 ^ n : Nat) : Int)
theorem listedN_fine {n : Int} {l : List Int} (h : listedN n l = 0) : ∃ m : Nat, n = m ∧ Fine m l := by
  unfold listedN at h
  split at h
  · rename_i hn
    obtain ⟨m, rfl⟩ : ∃ m : Nat, n = m := ⟨n.toNat, by omega⟩
    rw [Int.toNat_natCast] at h
    split at h
    · cases h
    · split at h
      · cases h
      · split at h
        · cases h
        · rename_i h1 h2 h3
          refine ⟨m, rfl, by omega, by omega, by omega, by omega, fun x hx => ?_⟩
          have h4 : stOut (m : Int) x = false := by
            rw [Bool.eq_false_iff]
            intro h5
            exact h3 (List.any_eq_true.2 ⟨x, hx, h5⟩)
          unfold stOut at h4
          rw [Bool.or_eq_false_iff, Int.toNat_natCast] at h4
          have := of_decide_eq_false h4.1
          have := of_decide_eq_false h4.2
          omega
  · cases h
theorem fine_listed {n : Nat} {l : List Int} (h : Fine n l) : listedN n l = 0 := by
  unfold listedN
  have := h.n1; have := h.n2; have := h.len; have := h.pos
  rw [if_pos (by omega), Int.toNat_natCast, if_neg (by omega), if_neg (by omega), if_neg]
  rw [List.any_eq_true]
  rintro ⟨x, hx, h5⟩
  have := h.all x hx
  unfold stOut at h5
  rw [Bool.or_eq_true, Int.toNat_natCast] at h5
  rcases h5 with h5 | h5
  · have := of_decide_eq_true h5; omega
  · have := of_decide_eq_true h5; omega
theorem pow12' {n : Nat} (h : n ≤ 12) : 2 ^ n ≤ 4096 := by
  have : 2 ^ n ≤ 2 ^ 12 := Nat.pow_le_pow_right (by decide) h
  simpa using this
theorem Fine.small {n : Nat} {l : List Int} (h : Fine n l) : l.all small = true := by
  rw [List.all_eq_true]
  intro x hx
  have := h.all x hx
  have := pow12' h.n2
  exact decide_eq_true (by omega)
theorem Fine.rd {n : Nat} {l : List Int} (h : Fine n l) (i : Nat) (hi : i < l.length) : 0 ≤ rd l (i : Int) ∧ rd l (i : Int) < 4096 := by
  rw [rd_get l i hi]
  have := h.all _ (List.getElem_mem hi)
  have := pow12' h.n2
  omega
theorem ones_one_all : ((List.range 64).all fun a => (List.range 64).all fun b => (onesCount (64 * a + b) == 1) == oneN (64 * a + b)) = true := by decide +kernel
theorem ones_one {x : Nat} (h : x < 4096) : (onesCount x == 1) = oneN x := by
  have h1 := ones_one_all
  rw [List.all_eq_true] at h1
  have h2 := h1 (x / 64) (List.mem_range.2 (by omega))
  rw [List.all_eq_true] at h2
  have h3 := h2 (x % 64) (List.mem_range.2 (by omega))
  rw [show 64 * (x / 64) + x % 64 = x from by omega] at h3
  exact beq_iff_eq.1 h3
theorem nx_comm (a b : Int) : nx a b = nx b a := by unfold nx; rw [Nat.xor_comm]
theorem nx_one {a b : Int} (ha : 0 ≤ a ∧ a < 4096) (hb : 0 ≤ b ∧ b < 4096) : nx a b = oneN (a.toNat ^^^ b.toNat) := by
  unfold nx
  exact ones_one (Nat.xor_lt_two_pow (n := 12) (by omega) (by omega))
theorem sm {a : Int} (ha : 0 ≤ a ∧ a < 4096) : small a = true := decide_eq_true (by omega)
theorem next_nx {a b : Int} (ha : 0 ≤ a ∧ a < 4096) (hb : 0 ≤ b ∧ b < 4096) : flash_next.f a b = some (nx a b) := next_small (sm ha) (sm hb)
theorem rone_f {x : Nat} (h : x < 4096) : neonwrightref04_one.f (x : Int) = some (oneN x) := by
  unfold neonwrightref04_one.f oneN
  by_cases h0 : 0 < x
  · rw [if_pos (by omega), w64 (x := (x : Int) - 1) (by omega) (by omega), show (x : Int) - 1 = ((x - 1 : Nat) : Int) from by omega, and64 x (x - 1) (by omega) (by omega), decide_eq_true h0, Bool.true_and]
    congr 1
    rw [Bool.eq_iff_iff, beq_iff_eq, beq_iff_eq]
    omega
  · rw [if_neg (by omega), decide_eq_false h0]
    rfl
theorem near_nx {a b : Int} (ha : 0 ≤ a ∧ a < 4096) (hb : 0 ≤ b ∧ b < 4096) : neonwrightref04_near.f a b = some (nx a b) := by
  unfold neonwrightref04_near.f
  rw [nx_one ha hb]
  obtain ⟨m, rfl⟩ : ∃ m : Nat, a = m := ⟨a.toNat, by omega⟩
  obtain ⟨k, rfl⟩ : ∃ k : Nat, b = k := ⟨b.toNat, by omega⟩
  have hx : m ^^^ k < 4096 := Nat.xor_lt_two_pow (n := 12) (by omega) (by omega)
  rw [xor64 m k (by omega) (by omega), rone_f hx, Option.bind_some, Int.toNat_natCast, Int.toNat_natCast]
/-- The ends are neighbours. -/
def closedB (l : List Int) : Bool := decide (4 ≤ l.length) && nx (rd l 0) (rd l ((l.length - 1 : Nat) : Int))
theorem last_w {l : List Int} (h : 0 < l.length) (h2 : l.length ≤ 5000) : wrap64 ((l.length : Int) - 1) = ((l.length - 1 : Nat) : Int) := by
  rw [w64 (by omega) (by omega)]; omega
theorem Fine.le {n : Nat} {l : List Int} (h : Fine n l) : l.length ≤ 4096 := Nat.le_trans h.len (pow12' h.n2)
theorem closed_f {n : Nat} {l : List Int} (h : Fine n l) : flash_closed.f l = some (closedB l) := by
  have hp := h.pos
  have hl := h.le
  unfold flash_closed.f closedB
  by_cases h4 : 4 ≤ l.length
  · rw [if_pos (by omega), if_pos (by omega), last_w hp (by omega), if_pos (by omega), if_pos (by omega), decide_eq_true h4, Bool.true_and]
    have h0 := next_nx (h.rd 0 hp) (h.rd (l.length - 1) (by omega))
    rw [show ((0 : Nat) : Int) = 0 from rfl] at h0
    rw [h0, Option.bind_some]
  · rw [if_neg (by omega), decide_eq_false h4]
    rfl
def pairOk (l : List Int) (r : Bool) (i j : Nat) : Bool := !nx (rd l (i : Int)) (rd l (j : Int)) || (r && decide (i = 0) && decide (j = l.length - 1))
def snakeB (l : List Int) (r : Bool) : Bool := okFrom (fun i => okFrom (pairOk l r i) (l.length - (i + 2)) (i + 2)) l.length 0
theorem snake_l1 {n : Nat} {l : List Int} (h : Fine n l) (r : Bool) (i : Nat) (hi : i < l.length) (R : Bool) (hR : Ev (fun k => flash_snake.l0 k l r l (l.length : Int) ((i + 1 : Nat) : Int)) R) :
    ∀ d j, l.length - j = d → i + 2 ≤ j → j ≤ l.length + 2 → Ev (fun k => flash_snake.l1 k l r (i : Int) (rd l (i : Int)) (j : Int) l (l.length : Int) (i : Int)) (okFrom (pairOk l r i) (l.length - j) j && R) := by
  have hl := h.le
  have hw : wrap64 ((i : Int) + 1) = ((i + 1 : Nat) : Int) := by rw [w64 (by omega) (by omega)]; rfl
  intro d
  induction d with
  | zero =>
    intro j hd h2 hj
    rw [hd]
    refine Ev.step (f := fun k => flash_snake.l0 k l r l (l.length : Int) ((i + 1 : Nat) : Int)) (fun k => ?_) hR
    simp only [flash_snake.l1]
    rw [if_neg (by omega), hw]
  | succ d ih =>
    intro j hd h2 hj
    have hjl : j < l.length := by omega
    have h1 := ih (j + 1) (by omega) (by omega) (by omega)
    have hj1 : wrap64 ((j : Int) + 1) = ((j + 1 : Nat) : Int) := by rw [w64 (by omega) (by omega)]; rfl
    have hn := next_nx (h.rd i hi) (h.rd j hjl)
    rw [show l.length - j = (l.length - (j + 1)) + 1 from by omega]
    unfold okFrom
    refine Ev.step (f := fun k => if pairOk l r i j = true then flash_snake.l1 k l r (i : Int) (rd l (i : Int)) ((j + 1 : Nat) : Int) l (l.length : Int) (i : Int) else some false) (fun k => ?_) ?_
    · simp only [flash_snake.l1]
      rw [if_pos (by omega), if_pos (by omega), hn, Option.bind_some, hj1, last_w h.pos (by omega)]
      unfold pairOk
      cases nx (rd l (i : Int)) (rd l (j : Int)) with
      | false => rw [if_neg (by decide), if_pos (by rfl)]
      | true =>
        rw [if_pos rfl]
        cases r with
        | false => rw [if_neg (by decide), if_neg (by simp)]
        | true =>
          rw [if_pos rfl]
          by_cases h0 : i = 0
          · rw [if_pos (by omega)]
            by_cases h3 : j = l.length - 1
            · rw [if_pos (by omega), if_pos (by simp [h0, h3])]
            · rw [if_neg (by omega), if_neg (by simp [h0, h3])]
          · rw [if_neg (by omega), if_neg (by simp [h0])]
    · cases hb : pairOk l r i j with
      | true => exact Ev.pos rfl (by simpa using h1)
      | false => exact Ev.neg (by decide) (Ev.now _)
theorem snake_l0 {n : Nat} {l : List Int} (h : Fine n l) (r : Bool) : ∀ d i, l.length - i = d → i ≤ l.length →
    Ev (fun k => flash_snake.l0 k l r l (l.length : Int) (i : Int)) (okFrom (fun i => okFrom (pairOk l r i) (l.length - (i + 2)) (i + 2)) d i) := by
  have hl := h.le
  intro d
  induction d with
  | zero =>
    intro i hd hi
    refine Ev.step (f := fun _ => some true) (fun k => ?_) (Ev.now _)
    simp only [flash_snake.l0]
    rw [if_neg (by omega)]
  | succ d ih =>
    intro i hd hi
    have hil : i < l.length := by omega
    have h1 := snake_l1 h r i hil _ (ih (i + 1) (by omega) (by omega)) (l.length - (i + 2)) (i + 2) rfl (Nat.le_refl _) (by omega)
    unfold okFrom
    refine Ev.step (f := fun k => flash_snake.l1 k l r (i : Int) (rd l (i : Int)) ((i + 2 : Nat) : Int) l (l.length : Int) (i : Int)) (fun k => ?_) h1
    simp only [flash_snake.l0]
    rw [if_pos (by omega), if_pos (by omega), if_pos (by omega), w64 (x := (i : Int) + 2) (by omega) (by omega)]
    rfl
theorem snake_ev {n : Nat} {l : List Int} (h : Fine n l) (r : Bool) : Ev (fun k => flash_snake.f k l r) (snakeB l r) := by
  have := snake_l0 h r l.length 0 (by omega) (by omega)
  exact this
/-- What Path and Snake say. -/
def pathR (n : Int) (l : List Int) : Bool × Bool × Int := if listedN n l = 0 then (pathB l, pathB l && closedB l, 0) else (false, false, listedN n l)
def snakeR (n : Int) (l : List Int) : Bool × Bool × Int := if listedN n l = 0 then (pathB l && snakeB l false, pathB l && closedB l && snakeB l true, 0) else (false, false, listedN n l)
theorem path_f (n : Int) (l : List Int) : flash_Path.f n l = some (pathR n l) := by
  unfold flash_Path.f pathR
  rw [listed_f, Option.bind_some]
  by_cases h : listedN n l = 0
  · obtain ⟨m, rfl, hf⟩ := listedN_fine h
    rw [if_pos h, if_pos h]
    unfold flash_path.f
    rw [if_pos hf.small, Option.bind_some, closed_f hf]
    cases pathB l <;> simp
  · rw [if_neg h, if_neg h]
theorem snakeR_ev (n : Int) (l : List Int) : Ev (fun k => flash_Snake.f k n l) (snakeR n l) := by
  unfold snakeR
  by_cases h : listedN n l = 0
  · obtain ⟨m, rfl, hf⟩ := listedN_fine h
    rw [if_pos h]
    refine Ev.congr (f := fun k => if pathB l = true then ((flash_snake.f k l false).bind fun t172 => (if closedB l = true then ((flash_snake.f k l true).bind fun t174 => (some (t172, t174, 0))) else (some (t172, false, 0)))) else (some (false, false, 0))) (fun k => ?_) ?_
    · show flash_Snake.f k _ _ = _
      unfold flash_Snake.f
      rw [listed_f, Option.bind_some, if_pos h]
      unfold flash_path.f
      rw [if_pos hf.small, Option.bind_some, closed_f hf]
      rfl
    · cases pathB l with
      | false => exact Ev.neg (by decide) (Ev.now _)
      | true =>
        refine Ev.pos rfl (Ev.bnd (snake_ev hf false) ?_)
        cases closedB l with
        | false => exact Ev.neg (by decide) (by simpa using Ev.now _)
        | true => exact Ev.pos rfl (Ev.bnd (snake_ev hf true) (by simpa using Ev.now _))
  · rw [if_neg h]
    refine Ev.at 0 (fun k _ => ?_)
    unfold flash_Snake.f
    rw [listed_f, Option.bind_some, if_neg h]
end Go.Proofs.Ytnakkdaeehglnaa.P

set_option linter.unusedSimpArgs false
set_option linter.unusedVariables false
namespace Go.Proofs.Ytnakkdaeehglnaa.P
open Go.Lib Go.RowKit Go.Proofs.YtnakkdaeehglnaaW.PrintWords Go.Proofs.YtnakkdaeehglnaaW.PrintMore Go.Proofs.Ytnakkdaeehglnaa.Kit

theorem states_l0 (n : Nat) (h2 : n ≤ 12) (l : List Int) (hl : l.length ≤ 4096) : ∀ d i, l.length - i = d → i ≤ l.length →
    Ev (fun k => neonwrightref04_States.l0 k (n : Int) l (i : Int)) (if okFrom (fun i => !stOut (n : Int) (rd l (i : Int))) d i = true then 0 else 2) := by
  intro d
  induction d with
  | zero =>
    intro i hd hi
    refine Ev.step (f := fun _ => some 0) (fun k => ?_) (Ev.now _)
    simp only [neonwrightref04_States.l0]
    rw [if_neg (by omega)]
  | succ d ih =>
    intro i hd hi
    have hil : i < l.length := by omega
    have h1 := ih (i + 1) (by omega) (by omega)
    have hw : wrap64 ((i : Int) + 1) = ((i + 1 : Nat) : Int) := by rw [w64 (by omega) (by omega)]; rfl
    unfold okFrom
    refine Ev.step (f := fun k => if stOut (n : Int) (rd l (i : Int)) = true then some 2 else neonwrightref04_States.l0 k (n : Int) l ((i + 1 : Nat) : Int)) (fun k => ?_) ?_
    · simp only [neonwrightref04_States.l0]
      rw [if_pos (by omega), if_pos (by omega), hw]
      unfold stOut
      rw [Int.toNat_natCast]
      by_cases c : rd l (i : Int) < 0
      · rw [if_pos c, decide_eq_true c, if_pos (by rfl)]
      · rw [if_neg c, if_pos (by omega), shl1n (by omega), decide_eq_false c, Bool.false_or]
        by_cases c2 : rd l (i : Int) ≥ ((2 ^ n : Nat) : Int)
        · rw [if_pos c2, if_pos (decide_eq_true c2)]
        · rw [if_neg c2, if_neg (by rw [decide_eq_false c2]; decide)]
    · cases hb : stOut (n : Int) (rd l (i : Int)) with
      | true => exact Ev.pos rfl (Ev.now _)
      | false => exact Ev.neg (by decide) (by simpa using h1)
theorem any_okFrom (n : Int) (l : List Int) : okFrom (fun i => !stOut n (rd l (i : Int))) l.length 0 = !l.any (stOut n) := by
  rw [Bool.eq_iff_iff, okFrom_iff, Bool.not_eq_true', Bool.eq_false_iff]
  constructor
  · intro h h2
    obtain ⟨x, hx, h3⟩ := List.any_eq_true.1 h2
    obtain ⟨i, hi, rfl⟩ := List.getElem_of_mem hx
    have h4 := h i (by omega) (by omega)
    rw [rd_get l i hi, h3] at h4
    cases h4
  · intro h i _ hi
    rw [rd_get l i (by omega), Bool.not_eq_true', Bool.eq_false_iff]
    intro h3
    exact h (List.any_eq_true.2 ⟨_, List.getElem_mem _, h3⟩)
theorem states_ev (n : Int) (l : List Int) : Ev (fun k => neonwrightref04_States.f k n l) (listedN n l) := by
  unfold listedN
  by_cases hn : 1 ≤ n ∧ n ≤ 12
  · rw [if_pos hn]
    obtain ⟨m, rfl⟩ : ∃ m : Nat, n = m := ⟨n.toNat, by omega⟩
    have hp := pow12' (n := m) (by omega)
    rw [Int.toNat_natCast]
    by_cases h1 : (l.length : Int) > ((2 ^ m : Nat) : Int)
    · rw [if_pos h1]
      refine Ev.at 0 (fun k _ => ?_)
      unfold neonwrightref04_States.f
      rw [tubes_f, Option.bind_some, decide_eq_true hn, if_pos rfl, if_pos (by omega), shl1n (by omega), if_pos h1]
    · rw [if_neg h1]
      by_cases h2 : l.length = 0
      · rw [if_pos h2]
        refine Ev.at 0 (fun k _ => ?_)
        unfold neonwrightref04_States.f
        rw [tubes_f, Option.bind_some, decide_eq_true hn, if_pos rfl, if_pos (by omega), shl1n (by omega), if_neg h1, if_pos (by omega)]
      · rw [if_neg h2]
        have h3 := states_l0 m (by omega) l (by omega) l.length 0 (by omega) (by omega)
        rw [any_okFrom] at h3
        have e : (if (!l.any (stOut (m : Int))) = true then (0 : Int) else 2) = (if l.any (stOut (m : Int)) = true then 2 else 0) := by cases l.any (stOut (m : Int)) <;> rfl
        rw [e] at h3
        refine Ev.congr (f := fun k => neonwrightref04_States.l0 k (m : Int) l ((0 : Nat) : Int)) (fun k => ?_) h3
        show neonwrightref04_States.f k _ _ = _
        unfold neonwrightref04_States.f
        rw [tubes_f, Option.bind_some, decide_eq_true hn, if_pos rfl, if_pos (by omega), shl1n (by omega), if_neg h1, if_neg (by omega)]
        rfl
  · rw [if_neg hn]
    refine Ev.at 0 (fun k _ => ?_)
    unfold neonwrightref04_States.f
    rw [tubes_f, Option.bind_some, decide_eq_false hn, if_neg (by decide)]
/-- A state differs from those before it. -/
def newB (l : List Int) (i : Nat) : Nat → Nat → Bool := okFrom (fun q => decide (rd l (q : Int) ≠ rd l (i : Int)))
theorem rpath_l1 {n : Nat} {l : List Int} (h : Fine n l) (i : Nat) (hi : i < l.length) (R : Bool × Bool) (hR : Ev (fun k => neonwrightref04_path.l0 k l ((i + 1 : Nat) : Int)) R) :
    ∀ d j, i - j = d → j ≤ i → Ev (fun k => neonwrightref04_path.l1 k l (i : Int) (j : Int)) (if newB l i d j = true then R else (false, false)) := by
  have hl := h.le
  intro d
  induction d with
  | zero =>
    intro j hd hj
    refine Ev.step (f := fun k => neonwrightref04_path.l0 k l ((i + 1 : Nat) : Int)) (fun k => ?_) hR
    simp only [neonwrightref04_path.l1]
    rw [if_neg (by omega), w64 (x := (i : Int) + 1) (by omega) (by omega)]
    rfl
  | succ d ih =>
    intro j hd hj
    have h1 := ih (j + 1) (by omega) (by omega)
    unfold newB at h1 ⊢
    unfold okFrom
    refine Ev.step (f := fun k => if rd l (j : Int) = rd l (i : Int) then some (false, false) else neonwrightref04_path.l1 k l (i : Int) ((j + 1 : Nat) : Int)) (fun k => ?_) ?_
    · simp only [neonwrightref04_path.l1]
      rw [if_pos (by omega), if_pos (by omega), if_pos (by omega), if_pos (by omega), if_pos (by omega), w64 (x := (j : Int) + 1) (by omega) (by omega)]
      rfl
    · by_cases c : rd l (j : Int) = rd l (i : Int)
      · refine Ev.pos c ?_
        rw [decide_eq_false (fun hne => hne c), Bool.false_and, if_neg (by decide)]
        exact Ev.now _
      · refine Ev.neg c ?_
        rw [decide_eq_true c, Bool.true_and]
        exact h1
def stepB (l : List Int) (i : Nat) : Bool := (decide (i = 0) || nx (rd l ((i - 1 : Nat) : Int)) (rd l (i : Int))) && newB l i i 0
theorem rpath_l0 {n : Nat} {l : List Int} (h : Fine n l) : ∀ d i, l.length - i = d → i ≤ l.length →
    Ev (fun k => neonwrightref04_path.l0 k l (i : Int)) (if okFrom (stepB l) d i = true then (true, closedB l) else (false, false)) := by
  have hl := h.le
  intro d
  induction d with
  | zero =>
    intro i hd hi
    refine Ev.step (f := fun _ => some (true, closedB l)) (fun k => ?_) (Ev.now _)
    simp only [neonwrightref04_path.l0]
    rw [if_neg (by omega), last_w h.pos (by omega)]
    unfold closedB
    have hp := h.pos
    by_cases h4 : 4 ≤ l.length
    · rw [if_pos (by omega), if_pos (by omega), if_pos (by omega), if_pos (by omega), decide_eq_true h4, Bool.true_and]
      have h0 := near_nx (h.rd 0 hp) (h.rd (l.length - 1) (by omega))
      rw [show ((0 : Nat) : Int) = 0 from rfl] at h0
      rw [h0, Option.bind_some]
    · rw [if_neg (by omega), decide_eq_false h4]
      rfl
  | succ d ih =>
    intro i hd hi
    have hil : i < l.length := by omega
    have h1 := rpath_l1 h i hil _ (ih (i + 1) (by omega) (by omega)) i 0 (by omega) (by omega)
    unfold okFrom
    have e : (if (stepB l i && okFrom (stepB l) d (i + 1)) = true then (true, closedB l) else (false, false)) = (if (decide (i = 0) || nx (rd l ((i - 1 : Nat) : Int)) (rd l (i : Int))) = true then (if newB l i i 0 = true then (if okFrom (stepB l) d (i + 1) = true then (true, closedB l) else (false, false)) else (false, false)) else (false, false)) := by
      unfold stepB
      cases (decide (i = 0) || nx (rd l ((i - 1 : Nat) : Int)) (rd l (i : Int))) <;> cases newB l i i 0 <;> simp
    rw [e]
    refine Ev.step (f := fun k => neonwrightref04_path.j1 k l (i : Int) (!(decide (i = 0) || nx (rd l ((i - 1 : Nat) : Int)) (rd l (i : Int))))) (fun k => ?_) ?_
    · simp only [neonwrightref04_path.l0]
      rw [if_pos (by omega)]
      by_cases c : i = 0
      · rw [if_neg (by omega), decide_eq_true c, Bool.true_or]
        rfl
      · rw [if_pos (by omega), w64 (x := (i : Int) - 1) (by omega) (by omega), show (i : Int) - 1 = ((i - 1 : Nat) : Int) from by omega, if_pos (by omega), if_pos (by omega), if_pos (by omega), near_nx (h.rd (i - 1) (by omega)) (h.rd i hil), Option.bind_some, decide_eq_false c, Bool.false_or]
    · cases (decide (i = 0) || nx (rd l ((i - 1 : Nat) : Int)) (rd l (i : Int))) with
      | false =>
        refine Ev.step (f := fun _ => some (false, false)) (fun k => ?_) (Ev.now _)
        simp only [neonwrightref04_path.j1]; rfl
      | true =>
        refine Ev.step (f := fun k => neonwrightref04_path.l1 k l (i : Int) ((0 : Nat) : Int)) (fun k => ?_) h1
        simp only [neonwrightref04_path.j1]; rfl
theorem newB_has {l : List Int} {i : Nat} (hi : i < l.length) : newB l i i 0 = !(l.take i).contains (rd l (i : Int)) := by
  unfold newB
  rw [Bool.eq_iff_iff, okFrom_iff, Bool.not_eq_true', Bool.eq_false_iff, ne_eq, List.contains_iff_mem, List.mem_take_iff_getElem]
  constructor
  · rintro h ⟨j, hj, e⟩
    have h2 := of_decide_eq_true (h j (by omega) (by omega))
    rw [rd_get l j (by omega)] at h2
    exact h2 e
  · intro h j _ hj
    refine decide_eq_true (fun e => h ⟨j, by omega, ?_⟩)
    rw [rd_get l j (by omega)] at e
    exact e
theorem stepB_p {l : List Int} {i : Nat} (hi : i < l.length) : stepB l i = pStep l i := by
  unfold stepB pStep
  rw [newB_has hi, Bool.and_comm]
  by_cases h0 : i = 0
  · rw [decide_eq_true h0, Bool.true_or, Bool.true_or]
  · rw [show ((i - 1 : Nat) : Int) = (i : Int) - 1 from by omega]
theorem path_ok (l : List Int) : okFrom (stepB l) l.length 0 = pathB l := by
  unfold pathB
  rw [Bool.eq_iff_iff, okFrom_iff, List.all_eq_true]
  constructor
  · intro h i hi
    rw [← stepB_p (List.mem_range.1 hi)]
    exact h i (by omega) (by have := List.mem_range.1 hi; omega)
  · intro h i _ hi
    rw [stepB_p (by omega)]
    exact h i (List.mem_range.2 (by omega))
theorem rpath_ev {n : Nat} {l : List Int} (h : Fine n l) : Ev (fun k => neonwrightref04_path.f k l) (pathB l, pathB l && closedB l) := by
  have h1 := rpath_l0 h l.length 0 (by omega) (by omega)
  rw [path_ok] at h1
  have e : (if pathB l = true then (true, closedB l) else (false, false)) = (pathB l, pathB l && closedB l) := by cases pathB l <;> simp
  rw [e] at h1
  exact h1
theorem rPath_ev (n : Int) (l : List Int) : Ev (fun k => neonwrightref04_Path.f k n l) (pathR n l) := by
  unfold pathR
  refine Ev.congr (f := fun k => (neonwrightref04_States.f k n l).bind fun t401 => (if t401 = 0 then ((neonwrightref04_path.f k l).bind fun bt402 => (some (bt402.1, bt402.2, 0))) else (some (false, false, t401)))) (fun k => rfl) (Ev.bnd (states_ev n l) ?_)
  by_cases hz : listedN n l = 0
  · obtain ⟨m, rfl, hf⟩ := listedN_fine hz
    rw [if_pos hz]
    exact Ev.pos hz (Ev.bnd (rpath_ev hf) (Ev.now _))
  · rw [if_neg hz]
    exact Ev.neg hz (Ev.now _)
/-- The reference's pairs. -/
def farB (l : List Int) (i k : Nat) : Bool := !nx (rd l (i : Int)) (rd l (k : Int))
def endB (l : List Int) (i k : Nat) : Bool := !nx (rd l (i : Int)) (rd l (k : Int)) || (decide (k = 0) && decide (i = l.length - 1))
theorem rsnake_l1 {n : Nat} {l : List Int} (h : Fine n l) (i : Nat) (hi : i < l.length) (R : Bool → Bool → Bool × Bool) (hR : ∀ c s, Ev (fun k => neonwrightref04_snake.l0 k l c s ((i + 1 : Nat) : Int)) (R c s)) :
    ∀ d k0 c s, (i - 1) - k0 = d → Ev (fun k => neonwrightref04_snake.l1 k l c s (i : Int) (k0 : Int)) (R (c && okFrom (endB l i) d k0) (s && okFrom (farB l i) d k0)) := by
  have hl := h.le
  have hp := h.pos
  intro d
  induction d with
  | zero =>
    intro k0 c s hd
    rw [show okFrom (endB l i) 0 k0 = true from rfl, show okFrom (farB l i) 0 k0 = true from rfl, Bool.and_true, Bool.and_true]
    refine Ev.step (f := fun k => neonwrightref04_snake.l0 k l c s ((i + 1 : Nat) : Int)) (fun k => ?_) (hR c s)
    simp only [neonwrightref04_snake.l1]
    rw [w64 (x := (i : Int) - 1) (by omega) (by omega), if_neg (by omega), w64 (x := (i : Int) + 1) (by omega) (by omega)]
    rfl
  | succ d ih =>
    intro k0 c s hd
    have hk : k0 < l.length := by omega
    have h1 := ih (k0 + 1) (c && endB l i k0) (s && farB l i k0) (by omega)
    unfold okFrom
    rw [← Bool.and_assoc, ← Bool.and_assoc]
    have hw : wrap64 ((k0 : Int) + 1) = ((k0 + 1 : Nat) : Int) := by rw [w64 (by omega) (by omega)]; rfl
    refine Ev.step (f := fun k => neonwrightref04_snake.l1 k l (c && endB l i k0) (s && farB l i k0) (i : Int) ((k0 + 1 : Nat) : Int)) (fun k => ?_) h1
    simp only [neonwrightref04_snake.l1]
    rw [w64 (x := (i : Int) - 1) (by omega) (by omega), if_pos (by omega), hw, last_w hp (by omega)]
    unfold endB farB
    have hn := near_nx (h.rd i hi) (h.rd k0 hk)
    by_cases c0 : k0 = 0
    · rw [if_pos (by omega), if_pos (by omega), if_pos (by omega), if_pos (by omega), if_pos (by omega), hn, Option.bind_some]
      have e : ((i : Int) == ((l.length - 1 : Nat) : Int)) = decide (i = l.length - 1) := by
        rw [Bool.eq_iff_iff, beq_iff_eq, decide_eq_true_eq]; omega
      rw [e]
      cases nx (rd l (i : Int)) (rd l (k0 : Int)) with
      | false => rw [if_neg (by decide)]; simp
      | true =>
        rw [if_pos rfl]
        cases c with
        | true => rw [if_pos rfl]; simp [c0]
        | false => rw [if_neg (by decide)]; simp
    · rw [if_neg (by omega), if_pos (by omega), if_pos (by omega), if_pos (by omega), if_pos (by omega), hn, Option.bind_some]
      cases nx (rd l (i : Int)) (rd l (k0 : Int)) with
      | false => rw [if_neg (by decide)]; simp
      | true =>
        rw [if_pos rfl]
        cases c with
        | true => rw [if_pos rfl]; simp [c0]
        | false => rw [if_neg (by decide)]; simp
theorem rsnake_l0 {n : Nat} {l : List Int} (h : Fine n l) : ∀ d i c s, l.length - i = d → i ≤ l.length →
    Ev (fun k => neonwrightref04_snake.l0 k l c s (i : Int)) (s && okFrom (fun i => okFrom (farB l i) (i - 1) 0) d i, c && okFrom (fun i => okFrom (endB l i) (i - 1) 0) d i) := by
  intro d
  induction d with
  | zero =>
    intro i c s hd hi
    rw [show okFrom (fun i => okFrom (farB l i) (i - 1) 0) 0 i = true from rfl, show okFrom (fun i => okFrom (endB l i) (i - 1) 0) 0 i = true from rfl, Bool.and_true, Bool.and_true]
    refine Ev.step (f := fun _ => some (s, c)) (fun k => ?_) (Ev.now _)
    simp only [neonwrightref04_snake.l0]
    rw [if_neg (by omega)]
  | succ d ih =>
    intro i c s hd hi
    have hil : i < l.length := by omega
    have h1 := rsnake_l1 h i hil (fun c s => (s && okFrom (fun i => okFrom (farB l i) (i - 1) 0) d (i + 1), c && okFrom (fun i => okFrom (endB l i) (i - 1) 0) d (i + 1))) (fun c s => ih (i + 1) c s (by omega) (by omega)) (i - 1) 0 c s (by omega)
    unfold okFrom
    rw [← Bool.and_assoc, ← Bool.and_assoc]
    refine Ev.step (f := fun k => neonwrightref04_snake.l1 k l c s (i : Int) ((0 : Nat) : Int)) (fun k => ?_) h1
    simp only [neonwrightref04_snake.l0]
    rw [if_pos (by omega)]
    rfl
theorem far_snake (l : List Int) : okFrom (fun i => okFrom (farB l i) (i - 1) 0) l.length 0 = snakeB l false := by
  unfold snakeB
  rw [Bool.eq_iff_iff, okFrom_iff, okFrom_iff]
  constructor
  · intro h i _ hi
    rw [okFrom_iff]
    intro j h1 h2
    have h3 := (okFrom_iff _ _ _).1 (h j (by omega) (by omega)) i (by omega) (by omega)
    unfold farB at h3
    unfold pairOk
    rw [nx_comm, h3]
    rfl
  · intro h j _ hj
    rw [okFrom_iff]
    intro i h1 h2
    have h3 := (okFrom_iff _ _ _).1 (h i (by omega) (by omega)) j (by omega) (by omega)
    unfold pairOk at h3
    unfold farB
    rw [nx_comm]
    simpa using h3
theorem end_snake (l : List Int) : okFrom (fun i => okFrom (endB l i) (i - 1) 0) l.length 0 = snakeB l true := by
  unfold snakeB
  rw [Bool.eq_iff_iff, okFrom_iff, okFrom_iff]
  constructor
  · intro h i _ hi
    rw [okFrom_iff]
    intro j h1 h2
    have h3 := (okFrom_iff _ _ _).1 (h j (by omega) (by omega)) i (by omega) (by omega)
    unfold endB at h3
    unfold pairOk
    rw [nx_comm, Bool.true_and]
    exact h3
  · intro h j _ hj
    rw [okFrom_iff]
    intro i h1 h2
    have h3 := (okFrom_iff _ _ _).1 (h i (by omega) (by omega)) j (by omega) (by omega)
    unfold pairOk at h3
    unfold endB
    rw [nx_comm]
    rw [Bool.true_and] at h3
    exact h3
theorem rsnake_ev {n : Nat} {l : List Int} (h : Fine n l) : Ev (fun k => neonwrightref04_snake.f k l) (pathB l && snakeB l false, pathB l && closedB l && snakeB l true) := by
  refine Ev.congr (f := fun k => (neonwrightref04_path.f k l).bind fun bt244 => (if bt244.1 = true then (neonwrightref04_snake.l0 k l bt244.2 true ((0 : Nat) : Int)) else (some (false, false)))) (fun k => rfl) (Ev.bnd (rpath_ev h) ?_)
  have h1 := rsnake_l0 h l.length 0 (pathB l && closedB l) true (by omega) (by omega)
  rw [far_snake, end_snake, Bool.true_and] at h1
  cases hp : pathB l with
  | false => exact Ev.neg (by simp) (by simpa using Ev.now _)
  | true =>
    rw [hp] at h1
    exact Ev.pos rfl (by simpa using h1)
theorem rSnake_ev (n : Int) (l : List Int) : Ev (fun k => neonwrightref04_Snake.f k n l) (snakeR n l) := by
  unfold snakeR
  refine Ev.congr (f := fun k => (neonwrightref04_States.f k n l).bind fun t252 => (if t252 = 0 then ((neonwrightref04_snake.f k l).bind fun bt253 => (some (bt253.1, bt253.2, 0))) else (some (false, false, t252)))) (fun k => rfl) (Ev.bnd (states_ev n l) ?_)
  by_cases hz : listedN n l = 0
  · obtain ⟨m, rfl, hf⟩ := listedN_fine hz
    rw [if_pos hz]
    exact Ev.pos hz (Ev.bnd (rsnake_ev hf) (Ev.now _))
  · rw [if_neg hz]
    exact Ev.neg hz (Ev.now _)
end Go.Proofs.Ytnakkdaeehglnaa.P

namespace Go.Proofs.Ytnakkdaeehglnaa.P
open Go.RowKit Go.Proofs.YtnakkdaeehglnaaW.PrintWords Go.Proofs.YtnakkdaeehglnaaW.PrintLast Go.Proofs.YtnakkdaeehglnaaW.PrintMore
attribute [local go_sem] max2_int min2_int max_two min_two max_three min_three max_four min_four   -- for this text's walks alone
set_option linter.unusedVariables false
set_option linter.unusedSimpArgs false

/-! ### neonwrightref04_Changes: function 38 -/
mutual
def neonwrightref04_Changes.l0 : Nat → Int → List Int → Bool → List Int → Int → Option (List Int × Int)
  | 0, _, _, _, _, _ => none
  | k + 1, x0, x1, x8, x9, x10 => if x10 < (x1.length : Int) then (if (wrap64 (x10 + 1)) = (x1.length : Int) then (if x8 = true then (neonwrightref04_Changes.j1 k x0 x1 x8 x9 x10 0) else (some (x9, 0))) else (neonwrightref04_Changes.j1 k x0 x1 x8 x9 x10 (wrap64 (x10 + 1)))) else (some (x9, 0))
def neonwrightref04_Changes.j1 : Nat → Int → List Int → Bool → List Int → Int → Int → Option (List Int × Int)
  | 0, _, _, _, _, _, _ => none
  | k + 1, x0, x1, x8, x9, x10, x11 => neonwrightref04_Changes.l1 k x0 x1 x8 x9 x10 x11 0
def neonwrightref04_Changes.l1 : Nat → Int → List Int → Bool → List Int → Int → Int → Int → Option (List Int × Int)
  | 0, _, _, _, _, _, _, _ => none
  | k + 1, x0, x1, x8, x9, x10, x11, x12 => if x12 < x0 then (if 0 ≤ x12 then (if x12 < (x9.length : Int) then (if 0 ≤ x10 then (if x10 < (x1.length : Int) then (if 0 ≤ x11 then (if x11 < (x1.length : Int) then (neonwrightref04_Changes.l1 k x0 x1 x8 (x9.set (x12 : Int).toNat (wrap64 ((rd x9 x12) + (Int.tmod (shr .i64 (Go.bits .xor .i64 (rd x1 x10) (rd x1 x11)) x12) 2)))) x10 x11 (wrap64 (x12 + 1))) else (none)) else (none)) else (none)) else (none)) else (none)) else (none)) else (neonwrightref04_Changes.l0 k x0 x1 x8 x9 (wrap64 (x10 + 1)))
end
def neonwrightref04_Changes.f (k : Nat) (a0 : Int) (l1 : List Int) : Option (List Int × Int) := (neonwrightref04_States.f k a0 l1).bind fun t420 => (if t420 = 0 then ((neonwrightref04_path.f k l1).bind fun bt421 => (if bt421.1 = true then (if 0 ≤ a0 then (if (a0 : Int).toNat ≤ 35184372088832 then (neonwrightref04_Changes.l0 k a0 l1 bt421.2 (List.replicate (a0 : Int).toNat 0) 0) else (none)) else (none)) else (some (([] : List Int), 5)))) else (some (([] : List Int), t420)))
theorem neonwrightref04_Changes.mono_l : ∀ k, (∀ y0 y1 y2 y3 y4, LeO (neonwrightref04_Changes.l0 k y0 y1 y2 y3 y4) (neonwrightref04_Changes.l0 (k + 1) y0 y1 y2 y3 y4)) ∧ (∀ y0 y1 y2 y3 y4 y5, LeO (neonwrightref04_Changes.j1 k y0 y1 y2 y3 y4 y5) (neonwrightref04_Changes.j1 (k + 1) y0 y1 y2 y3 y4 y5)) ∧ (∀ y0 y1 y2 y3 y4 y5 y6, LeO (neonwrightref04_Changes.l1 k y0 y1 y2 y3 y4 y5 y6) (neonwrightref04_Changes.l1 (k + 1) y0 y1 y2 y3 y4 y5 y6))
  | 0 => ⟨fun _ _ _ _ _ r h => by simp [neonwrightref04_Changes.l0] at h, fun _ _ _ _ _ _ r h => by simp [neonwrightref04_Changes.j1] at h, fun _ _ _ _ _ _ _ r h => by simp [neonwrightref04_Changes.l1] at h⟩
  | k + 1 => by
    obtain ⟨ih0, ih1, ih2⟩ := neonwrightref04_Changes.mono_l k
    refine ⟨?_, ?_, ?_⟩
    · intro y0 y1 y2 y3 y4
      unfold neonwrightref04_Changes.l0
      repeat' first
      | (with_reducible exact ih0 _ _ _ _ _)
      | (with_reducible exact ih1 _ _ _ _ _ _)
      | (with_reducible exact ih2 _ _ _ _ _ _ _)
      | (with_reducible exact neonwrightref04_States.mono _ _ _)
      | (with_reducible exact neonwrightref04_path.mono _ _)
      | (with_reducible exact LeO.refl _)
      | (with_reducible exact LeO.none _)
      | (with_reducible refine LeO.ite ?_ ?_)
      | (with_reducible refine LeO.bind ?_ (fun _ => ?_))
      | exact ih0 _ _ _ _ _
      | exact ih1 _ _ _ _ _ _
      | exact ih2 _ _ _ _ _ _ _
      | exact neonwrightref04_States.mono _ _ _
      | exact neonwrightref04_path.mono _ _
      | exact LeO.none _
      | refine LeO.ite ?_ ?_
      | refine LeO.bind ?_ (fun _ => ?_)
    · intro y0 y1 y2 y3 y4 y5
      unfold neonwrightref04_Changes.j1
      repeat' first
      | (with_reducible exact ih0 _ _ _ _ _)
      | (with_reducible exact ih1 _ _ _ _ _ _)
      | (with_reducible exact ih2 _ _ _ _ _ _ _)
      | (with_reducible exact neonwrightref04_States.mono _ _ _)
      | (with_reducible exact neonwrightref04_path.mono _ _)
      | (with_reducible exact LeO.refl _)
      | (with_reducible exact LeO.none _)
      | (with_reducible refine LeO.ite ?_ ?_)
      | (with_reducible refine LeO.bind ?_ (fun _ => ?_))
      | exact ih0 _ _ _ _ _
      | exact ih1 _ _ _ _ _ _
      | exact ih2 _ _ _ _ _ _ _
      | exact neonwrightref04_States.mono _ _ _
      | exact neonwrightref04_path.mono _ _
      | exact LeO.none _
      | refine LeO.ite ?_ ?_
      | refine LeO.bind ?_ (fun _ => ?_)
    · intro y0 y1 y2 y3 y4 y5 y6
      unfold neonwrightref04_Changes.l1
      repeat' first
      | (with_reducible exact ih0 _ _ _ _ _)
      | (with_reducible exact ih1 _ _ _ _ _ _)
      | (with_reducible exact ih2 _ _ _ _ _ _ _)
      | (with_reducible exact neonwrightref04_States.mono _ _ _)
      | (with_reducible exact neonwrightref04_path.mono _ _)
      | (with_reducible exact LeO.refl _)
      | (with_reducible exact LeO.none _)
      | (with_reducible refine LeO.ite ?_ ?_)
      | (with_reducible refine LeO.bind ?_ (fun _ => ?_))
      | exact ih0 _ _ _ _ _
      | exact ih1 _ _ _ _ _ _
      | exact ih2 _ _ _ _ _ _ _
      | exact neonwrightref04_States.mono _ _ _
      | exact neonwrightref04_path.mono _ _
      | exact LeO.none _
      | refine LeO.ite ?_ ?_
      | refine LeO.bind ?_ (fun _ => ?_)
theorem neonwrightref04_Changes.mono : ∀ a0 a1 k, LeO (neonwrightref04_Changes.f k a0 a1) (neonwrightref04_Changes.f (k + 1) a0 a1) := by
  intro a0 a1 k
  obtain ⟨ih0, ih1, ih2⟩ := neonwrightref04_Changes.mono_l k
  unfold neonwrightref04_Changes.f
  repeat' first
      | (with_reducible exact ih0 _ _ _ _ _)
      | (with_reducible exact ih1 _ _ _ _ _ _)
      | (with_reducible exact ih2 _ _ _ _ _ _ _)
      | (with_reducible exact neonwrightref04_States.mono _ _ _)
      | (with_reducible exact neonwrightref04_path.mono _ _)
      | (with_reducible exact LeO.refl _)
      | (with_reducible exact LeO.none _)
      | (with_reducible refine LeO.ite ?_ ?_)
      | (with_reducible refine LeO.bind ?_ (fun _ => ?_))
      | exact ih0 _ _ _ _ _
      | exact ih1 _ _ _ _ _ _
      | exact ih2 _ _ _ _ _ _ _
      | exact neonwrightref04_States.mono _ _ _
      | exact neonwrightref04_path.mono _ _
      | exact LeO.none _
      | refine LeO.ite ?_ ?_
      | refine LeO.bind ?_ (fun _ => ?_)
def neonwrightref04_Changes.T18 : Bool × List (List Nat × List Nat) := (true, [([], []), ([], []), ([0, 1], [0, 1]), ([2], [2]), ([], []), ([], []), ([4, 5], [4, 5]), ([6], [6]), ([], []), ([], []), ([8, 9], [8, 9]), ([10], [10]), ([7, 11], [7, 11]), ([], []), ([12, 13], [12, 13]), ([14], [14]), ([3, 15], [3, 15]), ([0, 1, 0, 1, 2, 3, 4, 5, 6, 7, 8, 9, 10, 11, 12, 13, 14, 15, 16], [0, 1]), ([17, 16, 0, 1, 2, 3, 4, 5, 6, 7, 8, 9, 10, 11, 12, 13, 14, 15, 16], [16, 17])])
def neonwrightref04_Changes.B18 : List Nat := [0, 0, 3, 7, 0, 0, 48, 112, 0, 0, 768, 1792, 4080, 0, 16368, 32752, 65535, 131071, 262143]
theorem neonwrightref04_Changes.tab18 : rtab .any (opsOf Try.f38 18) = neonwrightref04_Changes.T18 := by kernel_rfl
theorem neonwrightref04_Changes.bits18 : waitsOk neonwrightref04_Changes.T18.2 neonwrightref04_Changes.B18 = true := by kernel_rfl
set_option maxHeartbeats 8000000 in
set_option maxRecDepth 100000 in
theorem neonwrightref04_Changes.calls (k : Nat) (a0 : Int) (A1 : Option Addr) (c1 : Nat) (l1 : List Int) (r1 : List Int) (r2 : Int) (w : World) (hr1 : Kd.C (Kd.int .i64) w A1 l1.length l1) (hc1 : l1.length ≤ c1) (h : neonwrightref04_Changes.f k a0 l1 = some (r1, r2)) :
    Calls Try.prog 38 #[.int .i64 a0, .slice A1 l1.length c1] w fun e w' => ∃ v0_ : Value, e = .returned (.tuple #[v0_, .int .i64 r2]) ∧ Kd.R (Kd.int .i64) 3 w' w.heap.size (fun _ => True) v0_ r1 ∧ Below w.heap.size w w' := by
  have HR1 := Aside0.mk hr1
  have HC1 := Aside0.mk hc1
  clear hr1 hc1
  have HB := Aside0.mk (Below.refl w.heap.size w)
  have H : ((neonwrightref04_States.f k a0 l1).bind fun t420 => (if t420 = 0 then ((neonwrightref04_path.f k l1).bind fun bt421 => (if bt421.1 = true then (if 0 ≤ a0 then (if (a0 : Int).toNat ≤ 35184372088832 then (neonwrightref04_Changes.l0 k a0 l1 bt421.2 (List.replicate (a0 : Int).toNat 0) 0) else (none)) else (none)) else (some (([] : List Int), 5)))) else (some (([] : List Int), t420)))) = some (r1, r2) := h
  clear h
  replace H := Option.bind_eq_some_iff.mp H
  obtain ⟨t420, A30, H⟩ := H
  replace H : (if t420 = 0 then ((neonwrightref04_path.f k l1).bind fun bt421 => (if bt421.1 = true then (if 0 ≤ a0 then (if (a0 : Int).toNat ≤ 35184372088832 then (neonwrightref04_Changes.l0 k a0 l1 bt421.2 (List.replicate (a0 : Int).toNat 0) 0) else (none)) else (none)) else (some (([] : List Int), 5)))) else (some (([] : List Int), t420))) = some (r1, r2) := H
  have A3 := Aside0.mk A30
  clear A30
  by_cases c4 : t420 = 0
  · rw [if_pos c4] at H
    have c4b0 : (t420 == 0) = true := beq_iff_eq.mpr c4
    have c4b1 : (t420 != 0) = false := bne_eq_false_iff_eq.mpr c4
    clear c4
    replace H := Option.bind_eq_some_iff.mp H
    obtain ⟨⟨t421, t422⟩, A50, H⟩ := H
    replace H : (if t421 = true then (if 0 ≤ a0 then (if (a0 : Int).toNat ≤ 35184372088832 then (neonwrightref04_Changes.l0 k a0 l1 t422 (List.replicate (a0 : Int).toNat 0) 0) else (none)) else (none)) else (some (([] : List Int), 5))) = some (r1, r2) := H
    have A5 := Aside0.mk A50
    clear A50
    by_cases c6 : t421 = true
    · subst c6
      have H1 : (if 0 ≤ a0 then (if (a0 : Int).toNat ≤ 35184372088832 then (neonwrightref04_Changes.l0 k a0 l1 t422 (List.replicate (a0 : Int).toNat 0) 0) else (none)) else (none)) = some (r1, r2) := by rw [if_pos rfl] at H; exact H
      clear H
      have H := H1
      clear H1
      by_cases c7 : 0 ≤ a0
      · rw [if_pos c7] at H
        have c7b0 := eq_true c7
        have c7b1 : decide (0 ≤ a0) = true := decide_eq_true c7
        clear c7
        by_cases c8 : (a0 : Int).toNat ≤ 35184372088832
        · rw [if_pos c8] at H
          have c8b0 := eq_true c8
          have c8b1 : decide ((a0 : Int).toNat ≤ 35184372088832) = true := decide_eq_true c8
          clear c8
          obtain ⟨y423, hy423⟩ : ∃ y_ : List Int, y_ = (List.replicate (a0 : Int).toNat 0) := ⟨_, rfl⟩
          replace H : (neonwrightref04_Changes.l0 k a0 l1 t422 y423 0) = some (r1, r2) := by first | (rw [hy423]; with_reducible exact H) | (have H2_ := (Option.bind_some _ _).symm.trans H; rw [hy423]; with_reducible exact H2_) | (have H2_ := (Option.bind_some _ _).symm.trans H; with_reducible exact H2_) | with_reducible exact H | (rw [hy423]; exact H) | exact H
          have Ny423 := Aside0.mk hy423
          clear hy423
          have H' := Aside0.mk H
          clear H
          go_enter Try.func38, Try.ntmps38
          go_wp2_with (first | ((with_reducible refine gate_callee (f := 51) rfl ?_); refine goesL_ (some 15) rfl rfl Try.func51 (by kernel_rfl) rfl #[.int .i64 a0, .slice A1 l1.length c1] rfl (by (try simp only [List.map_toArray, List.map_cons, List.map_nil]); first | done | rfl | (simp only [List.length_drop, List.length_take]; rfl)) ?_; (with_reducible refine (neonwrightref04_States.calls k a0 _ _ l1 t420 _ ?side1 ?side2 A3.out).mono ?_); (case side1 => repeat (first | exact HR1.out | (with_reducible refine Kd.C_alloc ?_ _) | (with_reducible refine Kd.C_drewN ?_ _) | (with_reducible refine Kd.C_drew ?_))); (case side2 => exact HC1.out); rintro e w' ⟨rfl, ⟨nd, rfl⟩⟩; refine ⟨_, rfl, ?_⟩) | ((with_reducible refine gate_callee (f := 58) rfl ?_); refine goesL_ (some 21) rfl rfl Try.func58 (by kernel_rfl) rfl #[.slice A1 l1.length c1] rfl (by (try simp only [List.map_toArray, List.map_cons, List.map_nil]); first | done | rfl | (simp only [List.length_drop, List.length_take]; rfl)) ?_; (with_reducible refine (neonwrightref04_path.calls k _ _ l1 true t422 _ ?side1 ?side2 A5.out).mono ?_); (case side1 => repeat (first | exact HR1.out | (with_reducible refine Kd.C_alloc ?_ _) | (with_reducible refine Kd.C_drewN ?_ _) | (with_reducible refine Kd.C_drew ?_))); (case side2 => exact HC1.out); rintro e w' ⟨rfl, ⟨nd, rfl⟩⟩; refine ⟨_, rfl, ?_⟩) | ((with_reducible refine gate_dst (N := 27) rfl ?_); refine Kd.R_make (Kd.int .i64) _ 3 rfl (N := 27) rfl 22 _ _ rfl a0 rfl rfl Try.underlying22 (.int .i64 0) 8 info3 rfl (by decide) (by omega) 0 (ok := fun _ => True) (okp := fun _ => True) rfl (fun _ hk => hk) trivial (of_decide_eq_true (by first | (with_reducible assumption) | assumption)) (Nat.le_trans (Nat.mul_le_mul_right _ (of_decide_eq_true (by first | (with_reducible assumption) | assumption) : a0.toNat ≤ 35184372088832)) (by omega)) (Below.refl _ _) (Nat.le_refl _) ?_; intro v424 w9 ho10 hb hg_ hnew_; clear hg_ hnew_; (first | rw [← Ny423.out] at ho10 | (simp only [Int.reduceToNat] at ho10; rw [← Ny423.out] at ho10)); have n0_ := Aside0.mk (Kd.R_lower ho10 (below_size (by repeat (first | (with_reducible first | exact HB.out | apply below_alloc | apply pw_below_drewN | apply below_drew1) | exact HB.out)))); have n1_ := Aside0.mk (below_step (by repeat (first | (with_reducible first | exact HB.out | apply below_alloc | apply pw_below_drewN | apply below_drew1) | exact HB.out)) hb); clear HB; have HO425 := n0_; have HB := n1_; clear n0_ n1_; clear hb ho10))
          go_loopg [10] k (fun kq v10 w' => ∃ (x9_1 : List Int) (x10_1 : Int), v10 = .int .i64 x10_1 ∧ Aside0 (neonwrightref04_Changes.l0 kq a0 l1 t422 x9_1 x10_1 = some (r1, r2)) ∧ Aside0 (kq ≤ k) ∧ Aside0 (Kd.R (Kd.int .i64) 3 w' w.heap.size (fun _ => True) v424 x9_1) ∧ Aside0 (Below w.heap.size w w'))
          case atStart => exact ⟨(y423), (0), (by first | rfl | (simp; done) | (simp [*]; done)), H', ⟨Nat.le_refl _⟩, ⟨by (with_reducible repeat (first | apply Kd.R_alloc | apply Kd.R_drewN | apply Kd.R_drew)); first | exact HO425.out | exact Kd.R_mono HO425.out (fun k_ h_ => ne_own_len h_)⟩, ⟨by repeat (first | (with_reducible first | exact HB.out | apply below_alloc | apply pw_below_drewN | apply below_drew1) | exact HB.out)⟩⟩
          case round =>
            clear H'
            try clear c1
            try clear p2
            try clear c3
            try clear c4
            try clear c4b0
            try clear c4b1
            try clear c5
            try clear c6
            try clear c7
            try clear c7b0
            try clear c7b1
            try clear c8
            try clear c8b0
            try clear c8b1
            obtain ⟨x9_1, x10_1, rfl, HA, HK1, HO_9, HB⟩ := hrel
            cases gk with
            | zero => exact absurd HA.out (by simp [neonwrightref04_Changes.l0])
            | succ k1 =>
              have H := HA.out
              clear HA
              simp only [neonwrightref04_Changes.l0] at H
              by_cases c11 : x10_1 < (l1.length : Int)
              · rw [if_pos c11] at H
                have c11b0 : decide (x10_1 < (l1.length : Int)) = true := decide_eq_true c11
                clear c11
                have HC12 := Aside0.mk H
                clear H
                go_upto_if 39 with (fail)
                go_cut [11] (fun v11 wc => ∃ (kq : Nat) (x11_11 : Int), v11 = .int .i64 x11_11 ∧ Aside0 (neonwrightref04_Changes.j1 kq a0 l1 t422 x9_1 x10_1 x11_11 = some (r1, r2)) ∧ Aside0 (kq ≤ k1) ∧ Aside0 (Kd.R (Kd.int .i64) 3 wc w.heap.size (fun _ => True) v424 x9_1) ∧ Aside0 (Below w.heap.size w wc))
                case first =>
                  have H := HC12.out
                  clear HC12
                  by_cases c13 : (wrap64 (x10_1 + 1)) = (l1.length : Int)
                  · rw [if_pos c13] at H
                    have c13b0 : ((wrap64 (x10_1 + 1)) == (l1.length : Int)) = true := beq_iff_eq.mpr c13
                    have c13b1 : ((wrap64 (x10_1 + 1)) != (l1.length : Int)) = false := bne_eq_false_iff_eq.mpr c13
                    clear c13
                    (first | rw [c13b0] | (simp only [i64_w, i32_w]; rw [c13b0]) | skip)
                    by_cases c14 : t422 = true
                    · subst c14
                      have H1 : (neonwrightref04_Changes.j1 k1 a0 l1 true x9_1 x10_1 0) = some (r1, r2) := by rw [if_pos rfl] at H; exact H
                      clear H
                      have H := H1
                      clear H1
                      have H' := Aside0.mk H
                      clear H
                      go_wp2
                      go_meet
                      case rel => exact ⟨_, (0), (by first | rfl | (simp; done) | (simp [*]; done)), H', ⟨by have := HK1.out; first | omega | exact Nat.le_refl _⟩, ⟨by (with_reducible repeat (first | apply Kd.R_alloc | apply Kd.R_drewN | apply Kd.R_drew)); first | exact HO_9.out | exact Kd.R_mono HO_9.out (fun k_ h_ => ne_own_len h_)⟩, ⟨by repeat (first | (with_reducible first | exact HB.out | apply below_alloc | apply pw_below_drewN | apply below_drew1) | exact HB.out)⟩⟩
                    · replace c14 := Bool.eq_false_iff.mpr c14
                      subst c14
                      have H1 : (some (x9_1, 0)) = some (r1, r2) := by rw [if_neg (show ¬ (false = true) by decide)] at H; exact H
                      clear H
                      have H := H1
                      clear H1
                      simp only [Option.some.injEq, Prod.mk.injEq] at H
                      obtain ⟨rfl, rfl⟩ := H
                      go_wp2
                      go_ret2
                      exact ⟨_, by first | rfl | (simp [errW_none, errW_some] <;> rfl) | (simp [*, errW_none, errW_some] <;> rfl), by (with_reducible repeat (first | apply Kd.R_alloc | apply Kd.R_drewN | apply Kd.R_drew)); exact HO_9.out, by repeat (first | (with_reducible first | exact HB.out | apply below_alloc | apply pw_below_drewN | apply below_drew1) | exact HB.out)⟩
                  · rw [if_neg c13] at H
                    have c13b0 : ((wrap64 (x10_1 + 1)) == (l1.length : Int)) = false := beq_eq_false_iff_ne.mpr c13
                    have c13b1 : ((wrap64 (x10_1 + 1)) != (l1.length : Int)) = true := bne_iff_ne.mpr c13
                    (first | rw [c13b0] | (simp only [i64_w, i32_w]; rw [c13b0]) | skip)
                    have H' := Aside0.mk H
                    clear H
                    go_wp2
                    go_meet
                    case rel => exact ⟨_, (wrap64 (x10_1 + 1)), (by first | rfl | (simp; done) | (simp [*]; done)), H', ⟨by have := HK1.out; first | omega | exact Nat.le_refl _⟩, ⟨by (with_reducible repeat (first | apply Kd.R_alloc | apply Kd.R_drewN | apply Kd.R_drew)); first | exact HO_9.out | exact Kd.R_mono HO_9.out (fun k_ h_ => ne_own_len h_)⟩, ⟨by repeat (first | (with_reducible first | exact HB.out | apply below_alloc | apply pw_below_drewN | apply below_drew1) | exact HB.out)⟩⟩
                case rest =>
                  clear HC12
                  try clear c1
                  try clear p2
                  try clear c3
                  try clear c4
                  try clear c4b0
                  try clear c4b1
                  try clear c5
                  try clear c6
                  try clear p6
                  try clear c7
                  try clear c7b0
                  try clear c7b1
                  try clear c8
                  try clear c8b0
                  try clear c8b1
                  try clear c11
                  try clear c11b0
                  try clear c13
                  try clear c13b0
                  try clear c13b1
                  try clear c14
                  try clear p2
                  obtain ⟨kq, x11_11, rfl, HA, HJ11, HO_9, HB⟩ := hcut
                  cases kq with
                  | zero => exact absurd HA.out (by simp [neonwrightref04_Changes.j1])
                  | succ kj11 =>
                    have H := HA.out
                    clear HA
                    simp only [neonwrightref04_Changes.j1] at H
                    have H' := Aside0.mk H
                    clear H
                    go_wp2
                    go_loopg [12] kj11 (fun kq v12 w' => ∃ (x9_3 : List Int) (x12_3 : Int), v12 = .int .i64 x12_3 ∧ Aside0 (neonwrightref04_Changes.l1 kq a0 l1 t422 x9_3 x10_1 x11_11 x12_3 = some (r1, r2)) ∧ Aside0 (kq ≤ kj11) ∧ Aside0 (Kd.R (Kd.int .i64) 3 w' w.heap.size (fun _ => True) v424 x9_3) ∧ Aside0 (Below w.heap.size w w'))
                    case atStart => exact ⟨(x9_1), (0), (by first | rfl | (simp; done) | (simp [*]; done)), H', ⟨Nat.le_refl _⟩, ⟨by (with_reducible repeat (first | apply Kd.R_alloc | apply Kd.R_drewN | apply Kd.R_drew)); first | exact HO_9.out | exact Kd.R_mono HO_9.out (fun k_ h_ => ne_own_len h_)⟩, ⟨by repeat (first | (with_reducible first | exact HB.out | apply below_alloc | apply pw_below_drewN | apply below_drew1) | exact HB.out)⟩⟩
                    case round =>
                      clear H'
                      try clear c1
                      try clear p2
                      try clear c3
                      try clear c4
                      try clear c4b0
                      try clear c4b1
                      try clear c5
                      try clear c6
                      try clear p6
                      try clear c7
                      try clear c7b0
                      try clear c7b1
                      try clear c8
                      try clear c8b0
                      try clear c8b1
                      try clear c11
                      try clear c11b0
                      try clear c13
                      try clear c13b0
                      try clear c13b1
                      try clear c14
                      try clear p2
                      try clear p6
                      obtain ⟨x9_3, x12_3, rfl, HA, HK3, HO_9, HB⟩ := hrel
                      cases gk with
                      | zero => exact absurd HA.out (by simp [neonwrightref04_Changes.l1])
                      | succ k3 =>
                        have H := HA.out
                        clear HA
                        simp only [neonwrightref04_Changes.l1] at H
                        by_cases c15 : x12_3 < a0
                        · rw [if_pos c15] at H
                          have c15b0 : decide (x12_3 < a0) = true := decide_eq_true c15
                          clear c15
                          by_cases c16 : 0 ≤ x12_3
                          · rw [if_pos c16] at H
                            have c16b0 : decide (0 ≤ x12_3) = true := decide_eq_true c16
                            clear c16
                            by_cases c17 : x12_3 < (x9_3.length : Int)
                            · rw [if_pos c17] at H
                              have c17b0 : decide (x12_3 < (x9_3.length : Int)) = true := decide_eq_true c17
                              clear c17
                              by_cases c18 : 0 ≤ x10_1
                              · rw [if_pos c18] at H
                                have c18b0 : decide (0 ≤ x10_1) = true := decide_eq_true c18
                                clear c18
                                by_cases c19 : x10_1 < (l1.length : Int)
                                · rw [if_pos c19] at H
                                  have c19b0 : decide (x10_1 < (l1.length : Int)) = true := decide_eq_true c19
                                  clear c19
                                  by_cases c20 : 0 ≤ x11_11
                                  · rw [if_pos c20] at H
                                    have c20b0 : decide (0 ≤ x11_11) = true := decide_eq_true c20
                                    clear c20
                                    by_cases c21 : x11_11 < (l1.length : Int)
                                    · rw [if_pos c21] at H
                                      have c21b0 : decide (x11_11 < (l1.length : Int)) = true := decide_eq_true c21
                                      clear c21
                                      have c22b0 := eq_true (of_decide_eq_true (by first | (with_reducible assumption) | assumption) : 0 ≤ x12_3)
                                      obtain ⟨ji23, hji23⟩ : ∃ j_ : Int, (shr .i64 (Go.bits .xor .i64 (rd l1 x10_1) (rd l1 x11_11)) x12_3) = j_ := ⟨_, rfl⟩
                                      replace H : (neonwrightref04_Changes.l1 k3 a0 l1 t422 (x9_3.set (x12_3 : Int).toNat (wrap64 ((rd x9_3 x12_3) + (Int.tmod (ji23) 2)))) x10_1 x11_11 (wrap64 (x12_3 + 1))) = some (r1, r2) := by first | (rw [hji23] at H; exact H) | (simp only [hji23] at H ⊢; exact H)
                                      have hji23_ : ((Go.bits .xor .i64 (rd l1 x10_1) (rd l1 x11_11)) / 2 ^ min x12_3.toNat 64) = ji23 := hji23
                                      have hji23z : x12_3 ≤ 64 → ((Go.bits .xor .i64 (rd l1 x10_1) (rd l1 x11_11)) / 2 ^ x12_3.toNat) = ji23 := shr_small hji23
                                      obtain ⟨y429, hy429⟩ : ∃ y_ : List Int, y_ = (x9_3.set (x12_3 : Int).toNat (wrap64 ((rd x9_3 x12_3) + (Int.tmod (ji23) 2)))) := ⟨_, rfl⟩
                                      replace H : (neonwrightref04_Changes.l1 k3 a0 l1 t422 y429 x10_1 x11_11 (wrap64 (x12_3 + 1))) = some (r1, r2) := by first | (rw [hy429]; with_reducible exact H) | (have H2_ := (Option.bind_some _ _).symm.trans H; rw [hy429]; with_reducible exact H2_) | (have H2_ := (Option.bind_some _ _).symm.trans H; with_reducible exact H2_) | with_reducible exact H | (rw [hy429]; exact H) | exact H
                                      have Ny429 := Aside0.mk hy429
                                      clear hy429
                                      have H' := Aside0.mk H
                                      clear H
                                      try go_wp2
                                      have n0_ := Aside0.mk (Kd.R_drew HO_9.out)
                                      have n1_ := Aside0.mk (below_drew1 HB.out)
                                      clear HO_9
                                      clear HB
                                      have HO_9 := n0_
                                      have HB := n1_
                                      clear n0_ n1_
                                      obtain ⟨Ao26, co26, eo26⟩ := Kd.R_slice HO_9.out
                                      (first | subst eo26 | (injection eo26 with f1_ f2_ f3_; have f4_ := f1_.symm; have f5_ := f3_.symm; clear f1_ f2_ f3_; subst f4_; subst f5_))
                                      have p426 : 0 ≤ (x12_3 : Int) := of_decide_eq_true (by first | (with_reducible assumption) | assumption)
                                      have q426 : x12_3 < (x9_3.length : Int) := of_decide_eq_true (by first | (with_reducible assumption) | assumption)
                                      (try (obtain ⟨Aom_, com_, eom_⟩ := Kd.R_slice HO_9.out; subst eom_))
                                      obtain ⟨ad426, e426, hx426_0⟩ := Kd.at_int (Kd.R_reads' HO_9.out).2.2 x12_3 p426 q426
                                      cases e426
                                      replace p426 := eq_true p426
                                      replace q426 := eq_true q426
                                      have p427 : 0 ≤ (x10_1 : Int) := of_decide_eq_true (by first | (with_reducible assumption) | assumption)
                                      have q427 : x10_1 < (l1.length : Int) := of_decide_eq_true (by first | (with_reducible assumption) | assumption)
                                      obtain ⟨ad427, e427, hx427_0⟩ := Kd.at_int HR1.out x10_1 p427 q427
                                      have hw427_0 := hx427_0
                                      cases e427
                                      replace hx427_0 := (HB.out.cell (World.block_lt_of_cell? w _ hx427_0)).trans hx427_0
                                      replace p427 := eq_true p427
                                      replace q427 := eq_true q427
                                      have p428 : 0 ≤ (x11_11 : Int) := of_decide_eq_true (by first | (with_reducible assumption) | assumption)
                                      have q428 : x11_11 < (l1.length : Int) := of_decide_eq_true (by first | (with_reducible assumption) | assumption)
                                      obtain ⟨ad428, e428, hx428_0⟩ := Kd.at_int HR1.out x11_11 p428 q428
                                      have hw428_0 := hx428_0
                                      obtain rfl : ad427 = ad428 := (by injection e428)
                                      replace hx428_0 := (HB.out.cell (World.block_lt_of_cell? w _ hx428_0)).trans hx428_0
                                      replace p428 := eq_true p428
                                      replace q428 := eq_true q428
                                      have p24 : 0 ≤ (x12_3 : Int) := of_decide_eq_true (by first | (with_reducible assumption) | assumption)
                                      have q24 : (x12_3 : Int) < ((x9_3.length : Int) : Int) := of_decide_eq_true (by first | (with_reducible assumption) | assumption)
                                      obtain ⟨go24, co24, eo24, gb24, gl24, cl24, HG24⟩ := Kd.R_form HO_9.out (by omega)
                                      (first | cases eo24 | (injection eo24 with ea_ en_ ec_; (first | subst ea_ | (injection ea_ with ea_; subst ea_)); subst ec_; clear en_))
                                      have GB24 := Aside0.mk gb24
                                      have GG24 := Aside0.mk HG24
                                      clear gb24 gl24 HG24
                                      (first | simp only [add_plain] at hx426_0 | skip)
                                      obtain ⟨hx24_0, hf24_0⟩ := Kd.R_celln 0 HO_9.out (x12_3 : Int) p24 q24
                                      replace p24 := eq_true p24
                                      replace q24 := eq_true q24
                                      have HP27 := Kd.R_putn HO_9.out (x12_3 : Int) (wrap64 ((rd x9_3 x12_3) + (Int.tmod (ji23) 2)))
                                      rw [← Ny429.out] at HP27
                                      have HQ27 := Aside0.mk HP27
                                      clear HP27
                                      refine start_ (n := 19) (S := fun w' => w'.cell? ⟨go24, (x12_3).toNat, none⟩ = some (.int .i64 (rd x9_3 x12_3)) ∧ w'.cell? (ad427.add (x10_1).toNat) = some (.int .i64 (rd l1 x10_1)) ∧ w'.cell? (ad427.add (x11_11).toNat) = some (.int .i64 (rd l1 x11_11))) (ds := [18]) #[false, false, false, false, false, false, false, false, false, false, false, false, false, false, false, false, false, false, false] (by kernel_rfl) rfl rfl ⟨hx426_0, ((HB.out.cell (World.block_lt_of_cell? w _ hw427_0)).trans hw427_0), ((HB.out.cell (World.block_lt_of_cell? w _ hw428_0)).trans hw428_0)⟩ (fun hHeld => ?_); refine with_tabW neonwrightref04_Changes.tab18 neonwrightref04_Changes.bits18 (fun HT_ HW_ => ?_)
                                      generalize wr.drew = w25 at HO_9 HB GG24 HQ27 hf24_0 hx24_0 hx426_0 hx427_0 hx428_0 hHeld ⊢
                                      refine pure_ (i := 0) (N := some 47) (v := ?_) (a' := ?_) #[true, false, false, false, false, false, false, false, false, false, false, false, false, false, false, false, false, false, false] rfl rfl (any_of HT_.out (by kernel_rfl)) (fun _ _ _ h => h) (Or.inl ⟨by rfl, ?_⟩) ?_ ?_
                                      rotate_left
                                      · intro w'
                                        go_simp
                                        with_reducible rfl
                                      rotate_left
                                      · simp only [Act.put, List.setIfInBounds_toArray, List.set_cons_zero, List.set_cons_succ, i64_w, i32_w]
                                        rfl
                                      refine pure_ (i := 1) (N := some 48) (v := ?_) (a' := ?_) #[true, true, false, false, false, false, false, false, false, false, false, false, false, false, false, false, false, false, false] rfl rfl (any_of HT_.out (by kernel_rfl)) (fun _ _ _ h => h) (Or.inl ⟨by rfl, ?_⟩) ?_ ?_
                                      rotate_left
                                      · intro w'
                                        go_simp
                                        with_reducible rfl
                                      rotate_left
                                      · simp only [Act.put, List.setIfInBounds_toArray, List.set_cons_zero, List.set_cons_succ, i64_w, i32_w]
                                        rfl
                                      refine pure_ (i := 2) (N := some 49) (v := ?_) (a' := ?_) #[true, true, true, false, false, false, false, false, false, false, false, false, false, false, false, false, false, false, false] rfl rfl (any_of HT_.out (by kernel_rfl)) (fun _ _ _ h => h) (Or.inl ⟨by rfl, ?_⟩) ?_ ?_
                                      rotate_left
                                      · intro w'
                                        go_simp
                                        with_reducible rfl
                                      rotate_left
                                      · simp only [Act.put, List.setIfInBounds_toArray, List.set_cons_zero, List.set_cons_succ, i64_w, i32_w]
                                        rfl
                                      refine pure_ (i := 4) (N := some 51) (v := ?_) (a' := ?_) #[true, true, true, false, true, false, false, false, false, false, false, false, false, false, false, false, false, false, false] rfl rfl (any_of HT_.out (by kernel_rfl)) (fun _ _ _ h => h) (Or.inl ⟨by rfl, ?_⟩) ?_ ?_
                                      rotate_left
                                      · intro w'
                                        go_simp
                                        with_reducible rfl
                                      rotate_left
                                      · simp only [Act.put, List.setIfInBounds_toArray, List.set_cons_zero, List.set_cons_succ, i64_w, i32_w]
                                        rfl
                                      refine pure_ (i := 5) (N := some 52) (v := ?_) (a' := ?_) #[true, true, true, false, true, true, false, false, false, false, false, false, false, false, false, false, false, false, false] rfl rfl (any_of HT_.out (by kernel_rfl)) (fun _ _ _ h => h) (Or.inl ⟨by rfl, ?_⟩) ?_ ?_
                                      rotate_left
                                      · intro w'
                                        go_simp
                                        with_reducible rfl
                                      rotate_left
                                      · simp only [Act.put, List.setIfInBounds_toArray, List.set_cons_zero, List.set_cons_succ, i64_w, i32_w]
                                        rfl
                                      refine pure_ (i := 6) (N := some 53) (v := ?_) (a' := ?_) #[true, true, true, false, true, true, true, false, false, false, false, false, false, false, false, false, false, false, false] rfl rfl (any_of HT_.out (by kernel_rfl)) (fun _ _ _ h => h) (Or.inl ⟨by rfl, ?_⟩) ?_ ?_
                                      rotate_left
                                      · intro w'
                                        go_simp
                                        with_reducible rfl
                                      rotate_left
                                      · simp only [Act.put, List.setIfInBounds_toArray, List.set_cons_zero, List.set_cons_succ, i64_w, i32_w]
                                        rfl
                                      refine pure_ (i := 8) (N := some 55) (v := ?_) (a' := ?_) #[true, true, true, false, true, true, true, false, true, false, false, false, false, false, false, false, false, false, false] rfl rfl (any_of HT_.out (by kernel_rfl)) (fun _ _ _ h => h) (Or.inl ⟨by rfl, ?_⟩) ?_ ?_
                                      rotate_left
                                      · intro w'
                                        go_simp
                                        with_reducible rfl
                                      rotate_left
                                      · simp only [Act.put, List.setIfInBounds_toArray, List.set_cons_zero, List.set_cons_succ, i64_w, i32_w]
                                        rfl
                                      refine pure_ (i := 9) (N := some 56) (v := ?_) (a' := ?_) #[true, true, true, false, true, true, true, false, true, true, false, false, false, false, false, false, false, false, false] rfl rfl (any_of HT_.out (by kernel_rfl)) (fun _ _ _ h => h) (Or.inl ⟨by rfl, ?_⟩) ?_ ?_
                                      rotate_left
                                      · intro w'
                                        go_simp
                                        with_reducible rfl
                                      rotate_left
                                      · simp only [Act.put, List.setIfInBounds_toArray, List.set_cons_zero, List.set_cons_succ, i64_w, i32_w]
                                        rfl
                                      refine pure_ (i := 10) (N := some 57) (v := ?_) (a' := ?_) #[true, true, true, false, true, true, true, false, true, true, true, false, false, false, false, false, false, false, false] rfl rfl (any_of HT_.out (by kernel_rfl)) (fun _ _ _ h => h) (Or.inl ⟨by rfl, ?_⟩) ?_ ?_
                                      rotate_left
                                      · intro w'
                                        go_simp
                                        with_reducible rfl
                                      rotate_left
                                      · simp only [Act.put, List.setIfInBounds_toArray, List.set_cons_zero, List.set_cons_succ, i64_w, i32_w]
                                        rfl
                                      refine pure_ (i := 13) (N := some 60) (v := ?_) (a' := ?_) #[true, true, true, false, true, true, true, false, true, true, true, false, false, true, false, false, false, false, false] rfl rfl (any_of HT_.out (by kernel_rfl)) (fun _ _ _ h => h) (Or.inl ⟨by rfl, ?_⟩) ?_ ?_
                                      rotate_left
                                      · intro w'
                                        go_simp
                                        with_reducible rfl
                                      rotate_left
                                      · simp only [Act.put, List.setIfInBounds_toArray, List.set_cons_zero, List.set_cons_succ, i64_w, i32_w]
                                        rfl
                                      refine take_ (i := 3) (N := some 50) (v := ?_) (a' := ?_) #[true, true, true, true, true, true, true, false, true, true, true, false, false, true, false, false, false, false, false] rfl rfl (take_ofW HT_.out HW_.out (by kernel_rfl)) (fun _ _ _ h => h) (Or.inl ⟨by rfl, ?_⟩) hHeld ?_ ?_
                                      rotate_left
                                      · rintro w' ⟨s0, s1, s2⟩
                                        (try simp only [add_plain] at s0)
                                        (try simp only [add_plain] at s1)
                                        (try simp only [add_plain] at s2)
                                        go_simp
                                        with_reducible rfl
                                      rotate_left
                                      · simp only [Act.put, List.setIfInBounds_toArray, List.set_cons_zero, List.set_cons_succ, i64_w, i32_w]
                                        rfl
                                      refine take_ (i := 7) (N := some 54) (v := ?_) (a' := ?_) #[true, true, true, true, true, true, true, true, true, true, true, false, false, true, false, false, false, false, false] rfl rfl (take_ofW HT_.out HW_.out (by kernel_rfl)) (fun _ _ _ h => h) (Or.inl ⟨by rfl, ?_⟩) hHeld ?_ ?_
                                      rotate_left
                                      · rintro w' ⟨s0, s1, s2⟩
                                        (try simp only [add_plain] at s0)
                                        (try simp only [add_plain] at s1)
                                        (try simp only [add_plain] at s2)
                                        go_simp
                                        with_reducible rfl
                                      rotate_left
                                      · simp only [Act.put, List.setIfInBounds_toArray, List.set_cons_zero, List.set_cons_succ, i64_w, i32_w]
                                        rfl
                                      refine take_ (i := 11) (N := some 58) (v := ?_) (a' := ?_) #[true, true, true, true, true, true, true, true, true, true, true, true, false, true, false, false, false, false, false] rfl rfl (take_ofW HT_.out HW_.out (by kernel_rfl)) (fun _ _ _ h => h) (Or.inl ⟨by rfl, ?_⟩) hHeld ?_ ?_
                                      rotate_left
                                      · rintro w' ⟨s0, s1, s2⟩
                                        (try simp only [add_plain] at s0)
                                        (try simp only [add_plain] at s1)
                                        (try simp only [add_plain] at s2)
                                        go_simp
                                        with_reducible rfl
                                      rotate_left
                                      · simp only [Act.put, List.setIfInBounds_toArray, List.set_cons_zero, List.set_cons_succ, i64_w, i32_w]
                                        rfl
                                      refine pure_ (i := 12) (N := some 59) (v := ?_) (a' := ?_) #[true, true, true, true, true, true, true, true, true, true, true, true, true, true, false, false, false, false, false] rfl rfl (any_of HT_.out (by kernel_rfl)) (fun _ _ _ h => h) (Or.inl ⟨by rfl, ?_⟩) ?_ ?_
                                      rotate_left
                                      · intro w'
                                        go_simp
                                        with_reducible rfl
                                      rotate_left
                                      · simp only [Act.put, List.setIfInBounds_toArray, List.set_cons_zero, List.set_cons_succ, i64_w, i32_w]
                                        rfl
                                      refine pure_ (i := 14) (N := some 61) (v := ?_) (a' := ?_) #[true, true, true, true, true, true, true, true, true, true, true, true, true, true, true, false, false, false, false] rfl rfl (any_of HT_.out (by kernel_rfl)) (fun _ _ _ h => h) (Or.inl ⟨by rfl, ?_⟩) ?_ ?_
                                      rotate_left
                                      · intro w'
                                        go_simp
                                        with_reducible rfl
                                      rotate_left
                                      · simp only [Act.put, List.setIfInBounds_toArray, List.set_cons_zero, List.set_cons_succ, i64_w, i32_w]
                                        rfl
                                      refine pure_ (i := 15) (N := some 62) (v := ?_) (a' := ?_) #[true, true, true, true, true, true, true, true, true, true, true, true, true, true, true, true, false, false, false] rfl rfl (any_of HT_.out (by kernel_rfl)) (fun _ _ _ h => h) (Or.inl ⟨by rfl, ?_⟩) ?_ ?_
                                      rotate_left
                                      · intro w'
                                        go_simp
                                        with_reducible rfl
                                      rotate_left
                                      · simp only [Act.put, List.setIfInBounds_toArray, List.set_cons_zero, List.set_cons_succ, i64_w, i32_w]
                                        rfl
                                      refine pure_ (i := 16) (N := some 63) (v := ?_) (a' := ?_) #[true, true, true, true, true, true, true, true, true, true, true, true, true, true, true, true, true, false, false] rfl rfl (any_of HT_.out (by kernel_rfl)) (fun _ _ _ h => h) (Or.inl ⟨by rfl, ?_⟩) ?_ ?_
                                      rotate_left
                                      · intro w'
                                        go_simp
                                        with_reducible rfl
                                      rotate_left
                                      · simp only [Act.put, List.setIfInBounds_toArray, List.set_cons_zero, List.set_cons_succ, i64_w, i32_w]
                                        rfl
                                      refine pure_ (i := 17) (N := some 64) (v := ?_) (a' := ?_) #[true, true, true, true, true, true, true, true, true, true, true, true, true, true, true, true, true, true, false] rfl rfl (any_of HT_.out (by kernel_rfl)) (fun _ _ _ h => h) (Or.inl ⟨by rfl, ?_⟩) ?_ ?_
                                      rotate_left
                                      · intro w'
                                        go_simp
                                        with_reducible rfl
                                      rotate_left
                                      · simp only [Act.put, List.setIfInBounds_toArray, List.set_cons_zero, List.set_cons_succ, i64_w, i32_w]
                                        rfl
                                      refine last_ (i := 18) (N := none) #[true, true, true, true, true, true, true, true, true, true, true, true, true, true, true, true, true, true, true] rfl rfl (one_of HT_.out (by kernel_rfl)) (by decide) (fun K hK => ?_)
                                      refine skip_ (w1 := ?_) (by rfl) rfl ?_ ?_
                                      rotate_left
                                      · go_simp
                                        rfl
                                      refine hK.out _ _ ?_
                                      clear hK K
                                      refine done_ (done_of HT_.out (by kernel_rfl)) ?_
                                      try go_wp2
                                      go_roundg k3
                                      case measure => have := HK1.out; have := HJ11.out; have := HK3.out; omega
                                      case rel => exact ⟨(y429), (wrap64 (x12_3 + 1)), (by first | rfl | (simp; done) | (simp [*]; done)), H', ⟨by have := HK1.out; have := HJ11.out; have := HK3.out; omega⟩, ⟨by (with_reducible repeat (first | apply Kd.R_alloc | apply Kd.R_drewN | apply Kd.R_drew)); exact HQ27.out⟩, ⟨by repeat (first | (with_reducible first | exact HB.out | apply below_alloc | apply pw_below_drewN | apply below_drew1 | refine below_set ?_ GB24.out) | exact HB.out)⟩⟩
                                    · rw [if_neg c21] at H
                                      exact absurd H (by simp)
                                  · rw [if_neg c20] at H
                                    exact absurd H (by simp)
                                · rw [if_neg c19] at H
                                  exact absurd H (by simp)
                              · rw [if_neg c18] at H
                                exact absurd H (by simp)
                            · rw [if_neg c17] at H
                              exact absurd H (by simp)
                          · rw [if_neg c16] at H
                            exact absurd H (by simp)
                        · rw [if_neg c15] at H
                          have c15b0 : decide (x12_3 < a0) = false := decide_eq_false c15
                          clear c15
                          have H' := Aside0.mk H
                          clear H
                          go_wp2
                          go_roundg k3
                          case measure => have := HK1.out; have := HJ11.out; have := HK3.out; omega
                          case rel => exact ⟨(x9_3), (wrap64 (x10_1 + 1)), (by first | rfl | (simp; done) | (simp [*]; done)), H', ⟨by have := HK1.out; have := HJ11.out; have := HK3.out; omega⟩, ⟨by (with_reducible repeat (first | apply Kd.R_alloc | apply Kd.R_drewN | apply Kd.R_drew)); first | exact HO_9.out | exact Kd.R_mono HO_9.out (fun k_ h_ => ne_own_len h_)⟩, ⟨by repeat (first | (with_reducible first | exact HB.out | apply below_alloc | apply pw_below_drewN | apply below_drew1) | exact HB.out)⟩⟩
              · rw [if_neg c11] at H
                have c11b0 : decide (x10_1 < (l1.length : Int)) = false := decide_eq_false c11
                clear c11
                simp only [Option.some.injEq, Prod.mk.injEq] at H
                obtain ⟨rfl, rfl⟩ := H
                go_wp2
                go_ret2
                exact ⟨_, by first | rfl | (simp [errW_none, errW_some] <;> rfl) | (simp [*, errW_none, errW_some] <;> rfl), by (with_reducible repeat (first | apply Kd.R_alloc | apply Kd.R_drewN | apply Kd.R_drew)); exact HO_9.out, by repeat (first | (with_reducible first | exact HB.out | apply below_alloc | apply pw_below_drewN | apply below_drew1) | exact HB.out)⟩
        · rw [if_neg c8] at H
          exact absurd H (by simp)
      · rw [if_neg c7] at H
        exact absurd H (by simp)
    · replace c6 := Bool.eq_false_iff.mpr c6
      subst c6
      have H1 : (some (([] : List Int), 5)) = some (r1, r2) := by rw [if_neg (show ¬ (false = true) by decide)] at H; exact H
      clear H
      have H := H1
      clear H1
      simp only [Option.some.injEq, Prod.mk.injEq] at H
      obtain ⟨rfl, rfl⟩ := H
      go_enter Try.func38, Try.ntmps38
      go_wp2_with (first | ((with_reducible refine gate_callee (f := 51) rfl ?_); refine goesL_ (some 15) rfl rfl Try.func51 (by kernel_rfl) rfl #[.int .i64 a0, .slice A1 l1.length c1] rfl (by (try simp only [List.map_toArray, List.map_cons, List.map_nil]); first | done | rfl | (simp only [List.length_drop, List.length_take]; rfl)) ?_; (with_reducible refine (neonwrightref04_States.calls k a0 _ _ l1 t420 _ ?side1 ?side2 A3.out).mono ?_); (case side1 => repeat (first | exact HR1.out | (with_reducible refine Kd.C_alloc ?_ _) | (with_reducible refine Kd.C_drewN ?_ _) | (with_reducible refine Kd.C_drew ?_))); (case side2 => exact HC1.out); rintro e w' ⟨rfl, ⟨nd, rfl⟩⟩; refine ⟨_, rfl, ?_⟩) | ((with_reducible refine gate_callee (f := 58) rfl ?_); refine goesL_ (some 21) rfl rfl Try.func58 (by kernel_rfl) rfl #[.slice A1 l1.length c1] rfl (by (try simp only [List.map_toArray, List.map_cons, List.map_nil]); first | done | rfl | (simp only [List.length_drop, List.length_take]; rfl)) ?_; (with_reducible refine (neonwrightref04_path.calls k _ _ l1 false t422 _ ?side1 ?side2 A5.out).mono ?_); (case side1 => repeat (first | exact HR1.out | (with_reducible refine Kd.C_alloc ?_ _) | (with_reducible refine Kd.C_drewN ?_ _) | (with_reducible refine Kd.C_drew ?_))); (case side2 => exact HC1.out); rintro e w' ⟨rfl, ⟨nd, rfl⟩⟩; refine ⟨_, rfl, ?_⟩))
      go_ret2
      exact ⟨_, by first | rfl | (simp [errW_none, errW_some] <;> rfl) | (simp [*, errW_none, errW_some] <;> rfl), by first | exact Kd.R_nil _ _ _ _ _ | exact Kd.N_nil _ _ _ _ _ | exact Kd.V_nil _ _ _ _ _ | exact Kd.Q_nil _ _ _ _ _ | exact Kd.S_nil _ _ _ _ _, by repeat (first | (with_reducible first | exact HB.out | apply below_alloc | apply pw_below_drewN | apply below_drew1) | exact HB.out)⟩
  · rw [if_neg c4] at H
    have c4b0 : (t420 == 0) = false := beq_eq_false_iff_ne.mpr c4
    have c4b1 : (t420 != 0) = true := bne_iff_ne.mpr c4
    simp only [Option.some.injEq, Prod.mk.injEq] at H
    obtain ⟨rfl, rfl⟩ := H
    go_enter Try.func38, Try.ntmps38
    go_wp2_with (first | ((with_reducible refine gate_callee (f := 51) rfl ?_); refine goesL_ (some 15) rfl rfl Try.func51 (by kernel_rfl) rfl #[.int .i64 a0, .slice A1 l1.length c1] rfl (by (try simp only [List.map_toArray, List.map_cons, List.map_nil]); first | done | rfl | (simp only [List.length_drop, List.length_take]; rfl)) ?_; (with_reducible refine (neonwrightref04_States.calls k a0 _ _ l1 t420 _ ?side1 ?side2 A3.out).mono ?_); (case side1 => repeat (first | exact HR1.out | (with_reducible refine Kd.C_alloc ?_ _) | (with_reducible refine Kd.C_drewN ?_ _) | (with_reducible refine Kd.C_drew ?_))); (case side2 => exact HC1.out); rintro e w' ⟨rfl, ⟨nd, rfl⟩⟩; refine ⟨_, rfl, ?_⟩))
    go_ret2
    exact ⟨_, by first | rfl | (simp [errW_none, errW_some] <;> rfl) | (simp [*, errW_none, errW_some] <;> rfl), by first | exact Kd.R_nil _ _ _ _ _ | exact Kd.N_nil _ _ _ _ _ | exact Kd.V_nil _ _ _ _ _ | exact Kd.Q_nil _ _ _ _ _ | exact Kd.S_nil _ _ _ _ _, by repeat (first | (with_reducible first | exact HB.out | apply below_alloc | apply pw_below_drewN | apply below_drew1) | exact HB.out)⟩

end Go.Proofs.Ytnakkdaeehglnaa.P

set_option linter.unusedSimpArgs false
set_option linter.unusedVariables false
namespace Go.Proofs.Ytnakkdaeehglnaa.P
open Go.Lib Go.RowKit Go.Proofs.YtnakkdaeehglnaaW.PrintWords Go.Proofs.YtnakkdaeehglnaaW.PrintMore Go.Proofs.Ytnakkdaeehglnaa.Kit

theorem one_two_all' : ((List.range 64).all fun a => (List.range 64).all fun b => ((List.range 12).any fun t => 2 ^ t == 64 * a + b) == oneN (64 * a + b)) = true := by decide +kernel
theorem one_two' {x : Nat} (h : x < 4096) (ho : oneN x = true) : ∃ t, t < 12 ∧ x = 2 ^ t := by
  have h1 := one_two_all'
  rw [List.all_eq_true] at h1
  have h2 := h1 (x / 64) (List.mem_range.2 (by omega))
  rw [List.all_eq_true] at h2
  have h3 := h2 (x % 64) (List.mem_range.2 (by omega))
  rw [show 64 * (x / 64) + x % 64 = x from by omega] at h3
  rw [← beq_iff_eq.1 h3, List.any_eq_true] at ho
  obtain ⟨t, ht, e⟩ := ho
  exact ⟨t, List.mem_range.1 ht, (beq_iff_eq.1 e).symm⟩
theorem bitLen_two : ∀ t : Fin 12, Lib.bitLen (2 ^ t.val) = t.val + 1 := by decide +kernel
/-- The tube in which two states differ. -/
def tg (l : List Int) (i j : Nat) : Nat := Lib.bitLen ((rd l (i : Int)).toNat ^^^ (rd l (j : Int)).toNat) - 1
theorem tg_comm (l : List Int) (i j : Nat) : tg l i j = tg l j i := by unfold tg; rw [Nat.xor_comm]
theorem tg_two {n : Nat} {l : List Int} (h : Fine n l) {i j : Nat} (hi : i < l.length) (hj : j < l.length) (hn : nx (rd l (i : Int)) (rd l (j : Int)) = true) :
    (rd l (i : Int)).toNat ^^^ (rd l (j : Int)).toNat = 2 ^ tg l i j ∧ tg l i j < n ∧ Lib.bitLen ((rd l (i : Int)).toNat ^^^ (rd l (j : Int)).toNat) = tg l i j + 1 := by
  have ri := h.rd i hi
  have rj := h.rd j hj
  rw [nx_one ri rj] at hn
  have hb1 := h.all _ (List.getElem_mem hi)
  have hb2 := h.all _ (List.getElem_mem hj)
  rw [rd_get l i hi] at *
  rw [rd_get l j hj] at *
  have hx : l[i].toNat ^^^ l[j].toNat < 2 ^ n := Nat.xor_lt_two_pow (by omega) (by omega)
  have hp := pow12' h.n2
  obtain ⟨t, ht, e⟩ := one_two' (by omega) hn
  have hbl := bitLen_two ⟨t, ht⟩
  simp only at hbl
  have etg : tg l i j = t := by
    unfold tg
    rw [rd_get l i hi, rd_get l j hj, e, hbl]
    rfl
  rw [etg, e, hbl]
  refine ⟨rfl, ?_, rfl⟩
  rcases Nat.lt_or_ge t n with h1 | h1
  · exact h1
  · have := Nat.pow_le_pow_right (n := 2) (by decide) h1
    omega
/-- One more change of a tube. -/
def incr (out : List Int) (t : Nat) : List Int := out.set t (rd out (t : Int) + 1)
theorem incr_len (out : List Int) (t : Nat) : (incr out t).length = out.length := by unfold incr; rw [List.length_set]
/-- Each number is from 0 to m. -/
def upto (out : List Int) (m : Nat) : Prop := ∀ x, x ∈ out → 0 ≤ x ∧ x ≤ (m : Int)
theorem upto_rd {out : List Int} {m : Nat} (h : upto out m) (t : Nat) : 0 ≤ rd out (t : Int) ∧ rd out (t : Int) ≤ m := by
  unfold rd
  rw [Int.toNat_natCast, List.getD_eq_getElem?_getD]
  cases hx : out[t]? with
  | none => simp
  | some x => exact h x (List.mem_of_getElem? hx)
theorem upto_incr {out : List Int} {m : Nat} (h : upto out m) (t : Nat) : upto (incr out t) (m + 1) := by
  intro x hx
  unfold incr at hx
  rcases List.mem_or_eq_of_mem_set hx with hx | rfl
  · have := h x hx; omega
  · have := upto_rd h t; omega
def chg (n : Nat) (l : List Int) (m : Nat) : List Int := (List.range m).foldl (fun out (i : Nat) => incr out (tg l i (i + 1))) (List.replicate n 0)
theorem chg_succ (n : Nat) (l : List Int) (m : Nat) : chg n l (m + 1) = incr (chg n l m) (tg l m (m + 1)) := by
  unfold chg
  rw [List.range_succ, List.foldl_append, List.foldl_cons, List.foldl_nil]
theorem chg_len (n : Nat) (l : List Int) (m : Nat) : (chg n l m).length = n := by
  induction m with
  | zero => unfold chg; simp
  | succ m ih => rw [chg_succ, incr_len, ih]
theorem chg_upto (n : Nat) (l : List Int) (m : Nat) : upto (chg n l m) m := by
  induction m with
  | zero =>
    intro x hx
    unfold chg at hx
    have := List.eq_of_mem_replicate hx
    omega
  | succ m ih => rw [chg_succ]; exact upto_incr ih _
def changesL (n : Nat) (l : List Int) : List Int := if closedB l = true then incr (chg n l (l.length - 1)) (tg l 0 (l.length - 1)) else chg n l (l.length - 1)
theorem path_next {l : List Int} (h : pathB l = true) {i : Nat} (hi : i + 1 < l.length) : nx (rd l (i : Int)) (rd l ((i + 1 : Nat) : Int)) = true := by
  unfold pathB at h
  have h1 := List.all_eq_true.1 h (i + 1) (List.mem_range.2 hi)
  unfold pStep at h1
  rw [Bool.and_eq_true, Bool.or_eq_true] at h1
  rcases h1.2 with h2 | h2
  · have := of_decide_eq_true h2; omega
  · rw [show (((i + 1 : Nat) : Int) - 1) = (i : Int) from by omega] at h2
    exact h2
theorem len_at {n : Nat} {l : List Int} (h : Fine n l) {i j : Nat} (hi : i < l.length) (hj : j < l.length) (hn : nx (rd l (i : Int)) (rd l (j : Int)) = true) :
    bits_Len.f (IntKind.u64.wrap (Go.bits .xor .i64 (rd l (i : Int)) (rd l (j : Int)))) = some ((tg l i j + 1 : Nat) : Int) := by
  rw [bits_len_small (sm (h.rd i hi)) (sm (h.rd j hj)), (tg_two h hi hj hn).2.2]
theorem chg_l0 {n : Nat} {l : List Int} (h : Fine n l) (hp : pathB l = true) : ∀ d i, l.length - i = d → 1 ≤ i → i ≤ l.length →
    Ev (fun k => flash_Changes.l0 k l (chg n l (i - 1)) (i : Int)) (changesL n l, 0) := by
  have hl := h.le
  have hn2 := h.n2
  have hpos := h.pos
  intro d
  induction d with
  | zero =>
    intro i hd h1 hi
    obtain rfl : i = l.length := by omega
    unfold changesL
    refine Ev.at 1 (fun k hk => ?_)
    obtain ⟨k, rfl⟩ : ∃ j, k = j + 1 := ⟨k - 1, by omega⟩
    have hcl := chg_len n l (l.length - 1)
    have hup := chg_upto n l (l.length - 1)
    simp only [flash_Changes.l0]
    rw [if_neg (by omega), closed_f h, Option.bind_some]
    cases hc : closedB l with
    | false => rw [if_neg (by decide), if_neg (by decide)]
    | true =>
      rw [if_pos rfl, if_pos rfl, if_pos (by omega), last_w hpos (by omega), if_pos (by omega), if_pos (by omega)]
      unfold closedB at hc
      rw [Bool.and_eq_true] at hc
      have hn : nx (rd l ((0 : Nat) : Int)) (rd l ((l.length - 1 : Nat) : Int)) = true := hc.2
      have ht := tg_two h (by omega) (by omega) hn
      have hla := len_at h (by omega) (by omega) hn
      rw [show ((0 : Nat) : Int) = 0 from rfl] at hla
      have hu := upto_rd hup (tg l 0 (l.length - 1))
      rw [hla, Option.bind_some, w64 (x := ((tg l 0 (l.length - 1) + 1 : Nat) : Int) - 1) (by omega) (by omega), show ((tg l 0 (l.length - 1) + 1 : Nat) : Int) - 1 = (tg l 0 (l.length - 1) : Int) from by omega, if_pos (by omega), if_pos (by omega), Int.toNat_natCast, w64 (by omega) (by omega)]
      rfl
  | succ d ih =>
    intro i hd h1 hi
    have hil : i < l.length := by omega
    have hnext := ih (i + 1) (by omega) (by omega) (by omega)
    rw [show i + 1 - 1 = (i - 1) + 1 from by omega, chg_succ, show i - 1 + 1 = i from by omega] at hnext
    have hcl := chg_len n l (i - 1)
    have hup := chg_upto n l (i - 1)
    have hn := path_next hp (i := i - 1) (by omega)
    rw [show i - 1 + 1 = i from by omega] at hn
    have ht := tg_two h (by omega) hil hn
    rw [nx_comm] at hn
    have hla := len_at h hil (by omega) hn
    rw [tg_comm] at hla
    have hu := upto_rd hup (tg l (i - 1) i)
    refine Ev.step (f := fun k => flash_Changes.l0 k l (incr (chg n l (i - 1)) (tg l (i - 1) i)) ((i + 1 : Nat) : Int)) (fun k => ?_) hnext
    simp only [flash_Changes.l0]
    rw [if_pos (by omega), if_pos (by omega), w64 (x := (i : Int) - 1) (by omega) (by omega), show (i : Int) - 1 = ((i - 1 : Nat) : Int) from by omega, if_pos (by omega), if_pos (by omega), hla, Option.bind_some,
      w64 (x := ((tg l (i - 1) i + 1 : Nat) : Int) - 1) (by omega) (by omega), show ((tg l (i - 1) i + 1 : Nat) : Int) - 1 = (tg l (i - 1) i : Int) from by omega, if_pos (by omega), if_pos (by omega), Int.toNat_natCast,
      w64 (x := rd (chg n l (i - 1)) (tg l (i - 1) i : Int) + 1) (by omega) (by omega), w64 (x := (i : Int) + 1) (by omega) (by omega)]
    rfl
def changesR (n : Int) (l : List Int) : List Int × Int := if listedN n l = 0 then (if pathB l = true then (changesL n.toNat l, 0) else ([], 5)) else ([], listedN n l)
theorem changes_ev (n : Int) (l : List Int) : Ev (fun k => flash_Changes.f k n l) (changesR n l) := by
  unfold changesR
  by_cases hz : listedN n l = 0
  · obtain ⟨m, rfl, hf⟩ := listedN_fine hz
    have hn2 := hf.n2
    rw [if_pos hz, Int.toNat_natCast]
    refine Ev.congr (f := fun k => if pathB l = true then flash_Changes.l0 k l (chg m l 0) ((1 : Nat) : Int) else some (([] : List Int), 5)) (fun k => ?_) ?_
    · show flash_Changes.f k _ _ = _
      unfold flash_Changes.f
      rw [listed_f, Option.bind_some, if_pos hz]
      unfold flash_path.f
      have e1 : (0 : Int) ≤ (m : Int) := by omega
      have e2 : m ≤ 35184372088832 := by omega
      rw [if_pos hf.small, Option.bind_some, Int.toNat_natCast, if_pos e1, if_pos e2]
      rfl
    · cases hp : pathB l with
      | false => exact Ev.neg (by decide) (by simpa using Ev.now _)
      | true => exact Ev.pos rfl (by rw [if_pos rfl]; exact chg_l0 hf hp (l.length - 1) 1 (by omega) (by omega) (by have := hf.pos; omega))
  · rw [if_neg hz]
    refine Ev.at 0 (fun k _ => ?_)
    unfold flash_Changes.f
    rw [listed_f, Option.bind_some, if_neg hz]
theorem set_same (out : List Int) (t : Nat) (ht : t < out.length) : out.set t (rd out (t : Int)) = out := by
  rw [rd_get out t ht]
  exact List.set_getElem_self ht
theorem two_bit (u t : Nat) : 2 ^ u / 2 ^ t % 2 = if t = u then 1 else 0 := by
  have h := Nat.testBit_two_pow (n := u) (m := t)
  rw [Nat.testBit_eq_decide_div_mod_eq] at h
  by_cases e : t = u
  · subst e
    rw [if_pos rfl, Nat.div_self (Nat.two_pow_pos t)]
  · rw [if_neg e]
    have h2 : ¬ (2 ^ u / 2 ^ t % 2 = 1) := by
      intro h3
      rw [decide_eq_true h3] at h
      have := of_decide_eq_true h.symm
      omega
    omega
theorem rchg_l1 {n : Nat} {l : List Int} (h : Fine n l) (c : Bool) (out : List Int) (hlen : out.length = n) (hup : upto out 5000) (i j : Nat) (hi : i < l.length) (hj : j < l.length) (hn : nx (rd l (i : Int)) (rd l (j : Int)) = true) (R : List Int × Int)
    (hR : Ev (fun k => neonwrightref04_Changes.l0 k (n : Int) l c (incr out (tg l i j)) ((i + 1 : Nat) : Int)) R) :
    ∀ d t, n - t = d → t ≤ n → Ev (fun k => neonwrightref04_Changes.l1 k (n : Int) l c (if tg l i j < t then incr out (tg l i j) else out) (i : Int) (j : Int) (t : Int)) R := by
  have hl := h.le
  have hn2 := h.n2
  obtain ⟨e, hu, -⟩ := tg_two h hi hj hn
  have ri := h.rd i hi
  have rj := h.rd j hj
  have hbx : Go.bits .xor .i64 (rd l (i : Int)) (rd l (j : Int)) = ((2 ^ tg l i j : Nat) : Int) := by
    have := xor64 (rd l (i : Int)).toNat (rd l (j : Int)).toNat (by omega) (by omega)
    rw [show (((rd l (i : Int)).toNat : Nat) : Int) = rd l (i : Int) from by omega, show (((rd l (j : Int)).toNat : Nat) : Int) = rd l (j : Int) from by omega, e] at this
    exact this
  generalize tg l i j = u at e hu hbx hR
  intro d
  induction d with
  | zero =>
    intro t hd ht
    obtain rfl : t = n := by omega
    rw [if_pos hu]
    refine Ev.step (f := fun k => neonwrightref04_Changes.l0 k (t : Int) l c (incr out u) ((i + 1 : Nat) : Int)) (fun k => ?_) hR
    simp only [neonwrightref04_Changes.l1]
    rw [if_neg (by omega), w64 (x := (i : Int) + 1) (by omega) (by omega)]
    rfl
  | succ d ih =>
    intro t hd ht
    have h1 := ih (t + 1) (by omega) (by omega)
    refine Ev.step (f := fun k => neonwrightref04_Changes.l1 k (n : Int) l c (if u < t + 1 then incr out u else out) (i : Int) (j : Int) ((t + 1 : Nat) : Int)) (fun k => ?_) h1
    have hlen2 : (if u < t then incr out u else out).length = n := by split <;> simp [incr_len, hlen]
    simp only [neonwrightref04_Changes.l1]
    rw [if_pos (by omega), if_pos (by omega), if_pos (by omega), if_pos (by omega), if_pos (by omega), if_pos (by omega), if_pos (by omega), hbx, shrn (by omega), show (2 : Int) = ((2 : Nat) : Int) from rfl, tmodn, two_bit, Int.toNat_natCast, w64 (x := (t : Int) + 1) (by omega) (by omega)]
    have key : (if u < t then incr out u else out).set t (wrap64 (rd (if u < t then incr out u else out) (t : Int) + ((if t = u then 1 else 0 : Nat) : Int))) = (if u < t + 1 then incr out u else out) := by
      rcases Nat.lt_trichotomy t u with h3 | h3 | h3
      · have hb := upto_rd hup t
        rw [if_neg (by omega), if_neg (by omega), if_neg (by omega), Int.natCast_zero, Int.add_zero, w64 (by omega) (by omega), set_same _ _ (by omega)]
      · subst h3
        have hb := upto_rd hup t
        rw [if_neg (by omega), if_pos rfl, if_pos (by omega), Int.natCast_one, w64 (by omega) (by omega)]
        rfl
      · have hb := upto_rd (upto_incr hup u) t
        rw [if_pos h3, if_neg (by omega), if_pos (by omega), Int.natCast_zero, Int.add_zero, w64 (by omega) (by omega), set_same _ _ (by rw [incr_len]; omega)]
    rw [key]
    rfl
theorem rchg_l0 {n : Nat} {l : List Int} (h : Fine n l) (hp : pathB l = true) : ∀ d i, l.length - 1 - i = d → i + 1 ≤ l.length →
    Ev (fun k => neonwrightref04_Changes.l0 k (n : Int) l (closedB l) (chg n l i) (i : Int)) (changesL n l, 0) := by
  have hl := h.le
  have hpos := h.pos
  intro d
  induction d with
  | zero =>
    intro i hd hi
    obtain rfl : i = l.length - 1 := by omega
    have hw : wrap64 (((l.length - 1 : Nat) : Int) + 1) = (l.length : Int) := by rw [w64 (by omega) (by omega)]; omega
    unfold changesL
    cases hc : closedB l with
    | false =>
      rw [if_neg (by decide)]
      refine Ev.step (f := fun _ => some (chg n l (l.length - 1), 0)) (fun k => ?_) (Ev.now _)
      simp only [neonwrightref04_Changes.l0]
      rw [if_pos (by omega), hw, if_pos rfl, if_neg (by decide)]
    | true =>
      rw [if_pos rfl]
      have hc2 := hc
      unfold closedB at hc2
      rw [Bool.and_eq_true] at hc2
      have hn : nx (rd l ((l.length - 1 : Nat) : Int)) (rd l ((0 : Nat) : Int)) = true := by rw [nx_comm]; exact hc2.2
      have hend : Ev (fun k => neonwrightref04_Changes.l0 k (n : Int) l true (incr (chg n l (l.length - 1)) (tg l (l.length - 1) 0)) ((l.length - 1 + 1 : Nat) : Int)) (incr (chg n l (l.length - 1)) (tg l (l.length - 1) 0), 0) := by
        refine Ev.step (f := fun _ => some (incr (chg n l (l.length - 1)) (tg l (l.length - 1) 0), 0)) (fun k => ?_) (Ev.now _)
        simp only [neonwrightref04_Changes.l0]
        rw [if_neg (by omega)]
      have hup : upto (chg n l (l.length - 1)) 5000 := fun x hx => by have := chg_upto n l (l.length - 1) x hx; omega
      have h1 := rchg_l1 h true (chg n l (l.length - 1)) (chg_len _ _ _) hup (l.length - 1) 0 (by omega) (by omega) hn _ hend n 0 (by omega) (by omega)
      rw [if_neg (by omega), tg_comm l (l.length - 1) 0] at h1
      refine Ev.step (f := fun k => neonwrightref04_Changes.j1 k (n : Int) l true (chg n l (l.length - 1)) ((l.length - 1 : Nat) : Int) 0) (fun k => ?_) (Ev.step (f := fun k => neonwrightref04_Changes.l1 k (n : Int) l true (chg n l (l.length - 1)) ((l.length - 1 : Nat) : Int) ((0 : Nat) : Int) ((0 : Nat) : Int)) (fun k => ?_) h1)
      · simp only [neonwrightref04_Changes.l0]
        rw [if_pos (by omega), hw, if_pos rfl, if_pos (by trivial)]
      · simp only [neonwrightref04_Changes.j1]
        rfl
  | succ d ih =>
    intro i hd hi
    have hnext := ih (i + 1) (by omega) (by omega)
    rw [chg_succ] at hnext
    have hn := path_next hp (i := i) (by omega)
    have hup : upto (chg n l i) 5000 := fun x hx => by have := chg_upto n l i x hx; omega
    have h1 := rchg_l1 h (closedB l) (chg n l i) (chg_len _ _ _) hup i (i + 1) (by omega) (by omega) hn _ hnext n 0 (by omega) (by omega)
    rw [if_neg (by omega)] at h1
    have hw : wrap64 ((i : Int) + 1) = ((i + 1 : Nat) : Int) := by rw [w64 (by omega) (by omega)]; rfl
    refine Ev.step (f := fun k => neonwrightref04_Changes.j1 k (n : Int) l (closedB l) (chg n l i) (i : Int) ((i + 1 : Nat) : Int)) (fun k => ?_) (Ev.step (f := fun k => neonwrightref04_Changes.l1 k (n : Int) l (closedB l) (chg n l i) (i : Int) ((i + 1 : Nat) : Int) ((0 : Nat) : Int)) (fun k => ?_) h1)
    · simp only [neonwrightref04_Changes.l0]
      rw [if_pos (by omega), hw, if_neg (by omega)]
    · simp only [neonwrightref04_Changes.j1]
      rfl
theorem rchanges_ev (n : Int) (l : List Int) : Ev (fun k => neonwrightref04_Changes.f k n l) (changesR n l) := by
  unfold changesR
  refine Ev.congr (f := fun k => (neonwrightref04_States.f k n l).bind fun t420 => (if t420 = 0 then ((neonwrightref04_path.f k l).bind fun bt421 => (if bt421.1 = true then (if 0 ≤ n then (if (n : Int).toNat ≤ 35184372088832 then (neonwrightref04_Changes.l0 k n l bt421.2 (List.replicate (n : Int).toNat 0) ((0 : Nat) : Int)) else (none)) else (none)) else (some (([] : List Int), 5)))) else (some (([] : List Int), t420)))) (fun k => rfl) (Ev.bnd (states_ev n l) ?_)
  by_cases hz : listedN n l = 0
  · obtain ⟨m, rfl, hf⟩ := listedN_fine hz
    have hn2 := hf.n2
    rw [if_pos hz, Int.toNat_natCast]
    refine Ev.pos hz (Ev.bnd (rpath_ev hf) ?_)
    cases hp : pathB l with
    | false => exact Ev.neg (by simp) (by simpa using Ev.now _)
    | true =>
      have h1 := rchg_l0 hf hp (l.length - 1) 0 (by omega) (by have := hf.pos; omega)
      exact Ev.pos rfl (Ev.pos (by omega) (Ev.pos (by omega) (by rw [if_pos rfl]; exact h1)))
  · rw [if_neg hz]
    exact Ev.neg hz (Ev.now _)
theorem changesR_len (n : Int) (l : List Int) : (changesR n l).1.length ≤ 4096 := by
  unfold changesR
  split
  · rename_i hz
    obtain ⟨m, rfl, hf⟩ := listedN_fine hz
    have := hf.n2
    split
    · unfold changesL
      split
      · rw [incr_len, chg_len, Int.toNat_natCast]; omega
      · rw [chg_len, Int.toNat_natCast]; omega
    · exact Nat.zero_le _
  · exact Nat.zero_le _
end Go.Proofs.Ytnakkdaeehglnaa.P

set_option linter.unusedSimpArgs false
set_option linter.unusedVariables false
namespace Go.Proofs.Ytnakkdaeehglnaa.P
open Go.Lib Go.RowKit Go.Proofs.YtnakkdaeehglnaaW.PrintWords Go.Proofs.YtnakkdaeehglnaaW.PrintMore Go.Proofs.Ytnakkdaeehglnaa.Kit

def sumL (l : List Int) : Int := l.foldr (· + ·) 0
theorem sum_set : ∀ (l : List Int) (t : Nat) (x : Int), t < l.length → sumL (l.set t x) = sumL l - rd l (t : Int) + x := by
  intro l
  induction l with
  | nil => intro t x h; exact absurd h (by simp)
  | cons a l ih =>
    intro t x h
    cases t with
    | zero =>
      unfold sumL rd
      simp
      omega
    | succ t =>
      have h2 : t < l.length := by simpa using h
      have h1 := ih t x h2
      have e : rd (a :: l) ((t + 1 : Nat) : Int) = rd l (t : Int) := by
        rw [rd_get (a :: l) (t + 1) h, rd_get l t h2]
        rfl
      rw [e]
      unfold sumL at h1 ⊢
      rw [List.set_cons_succ, List.foldr_cons, List.foldr_cons, h1]
      omega
theorem sum_incr {out : List Int} {t : Nat} (h : t < out.length) : sumL (incr out t) = sumL out + 1 := by
  unfold incr
  rw [sum_set _ _ _ h]
  omega
theorem sum_zeros (n : Nat) : sumL (List.replicate n 0) = 0 := by
  induction n with
  | zero => rfl
  | succ n ih =>
    unfold sumL at ih ⊢
    rw [List.replicate_succ, List.foldr_cons, ih]
    rfl
theorem sum_chg {n : Nat} {l : List Int} (h : Fine n l) (hp : pathB l = true) : ∀ m, m + 1 ≤ l.length → sumL (chg n l m) = m := by
  intro m
  induction m with
  | zero => intro _; unfold chg; exact sum_zeros n
  | succ m ih =>
    intro hm
    have ht := (tg_two h (by omega) (by omega) (path_next hp (i := m) (by omega))).2.1
    rw [chg_succ, sum_incr (by rw [chg_len]; exact ht), ih (by omega)]
    omega
theorem closed_nx {l : List Int} (hc : closedB l = true) : 4 ≤ l.length ∧ nx (rd l ((0 : Nat) : Int)) (rd l ((l.length - 1 : Nat) : Int)) = true := by
  unfold closedB at hc
  rw [Bool.and_eq_true] at hc
  exact ⟨of_decide_eq_true hc.1, hc.2⟩
theorem sum_changes {n : Nat} {l : List Int} (h : Fine n l) (hp : pathB l = true) : sumL (changesL n l) = if closedB l = true then (l.length : Int) else (l.length : Int) - 1 := by
  have hpos := h.pos
  have hs := sum_chg h hp (l.length - 1) (by omega)
  unfold changesL
  cases hc : closedB l with
  | true =>
    obtain ⟨h4, hn⟩ := closed_nx hc
    have ht := (tg_two h (by omega) (by omega) hn).2.1
    rw [if_pos rfl, if_pos rfl, sum_incr (by rw [chg_len]; exact ht), hs]
    omega
  | false => rw [if_neg (by decide), if_neg (by decide), hs]; omega
/-- Whether a tube is lit. -/
def bt2 (l : List Int) (i t : Nat) : Bool := (rd l (i : Int)).toNat.testBit t
theorem incr_rd (out : List Int) (u t : Nat) (hu : u < out.length) : rd (incr out u) (t : Int) = rd out (t : Int) + if t = u then 1 else 0 := by
  unfold incr rd
  rw [Int.toNat_natCast, List.getD_eq_getElem?_getD, List.getD_eq_getElem?_getD, Int.toNat_natCast, List.getD_eq_getElem?_getD]
  by_cases e : t = u
  · subst e
    rw [List.getElem?_set_self hu, if_pos rfl]
    rfl
  · rw [List.getElem?_set_ne (fun e2 => e e2.symm), if_neg e]
    omega
theorem bit_flip {n : Nat} {l : List Int} (h : Fine n l) {i j : Nat} (hi : i < l.length) (hj : j < l.length) (hn : nx (rd l (i : Int)) (rd l (j : Int)) = true) (t : Nat) :
    (bt2 l i t != bt2 l j t) = decide (t = tg l i j) := by
  have e := (tg_two h hi hj hn).1
  unfold bt2
  have h1 : ((rd l (i : Int)).toNat ^^^ (rd l (j : Int)).toNat).testBit t = (2 ^ tg l i j).testBit t := by rw [e]
  rw [Nat.testBit_xor, Nat.testBit_two_pow] at h1
  have h2 : ∀ a b : Bool, (a != b) = (a ^^ b) := by decide
  rw [h2, h1]
  rw [Bool.eq_iff_iff, decide_eq_true_eq, decide_eq_true_eq]
  exact eq_comm
/-- How often a tube has changed is odd exactly if it is another one than at the begin. -/
theorem chg_parity {n : Nat} {l : List Int} (h : Fine n l) (hp : pathB l = true) (t : Nat) : ∀ m, m + 1 ≤ l.length → rd (chg n l m) (t : Int) % 2 = if (bt2 l 0 t != bt2 l m t) = true then 1 else 0 := by
  intro m
  induction m with
  | zero =>
    intro _
    rw [bne_self_eq_false, if_neg (by decide)]
    unfold chg rd
    rw [Int.toNat_natCast, List.getD_eq_getElem?_getD]
    simp only [List.range_zero, List.foldl_nil, List.getElem?_replicate]
    split <;> rfl
  | succ m ih =>
    intro hm
    have hn := path_next hp (i := m) (by omega)
    have ht := (tg_two h (by omega) (by omega) hn).2.1
    have hf := bit_flip h (by omega) (by omega) hn t
    have h1 := ih (by omega)
    rw [chg_succ, incr_rd _ _ _ (by rw [chg_len]; exact ht)]
    by_cases e : t = tg l m (m + 1)
    · rw [decide_eq_true e] at hf
      rw [if_pos e]
      generalize bt2 l 0 t = a at h1 ⊢
      generalize bt2 l m t = b at h1 hf
      generalize bt2 l (m + 1) t = c at hf ⊢
      revert h1 hf
      cases a <;> cases b <;> cases c <;> intro h1 hf <;> first | (cases hf; done) | (simp at h1 ⊢; omega)
    · rw [decide_eq_false e] at hf
      rw [if_neg e, Int.add_zero, h1]
      generalize bt2 l 0 t = a
      generalize bt2 l m t = b at hf ⊢
      generalize bt2 l (m + 1) t = c at hf ⊢
      revert hf
      cases a <;> cases b <;> cases c <;> intro hf <;> first | (cases hf; done) | rfl
theorem changes_even {n : Nat} {l : List Int} (h : Fine n l) (hp : pathB l = true) (hc : closedB l = true) (t : Nat) : rd (changesL n l) (t : Int) % 2 = 0 := by
  have hpos := h.pos
  obtain ⟨h4, hn⟩ := closed_nx hc
  have ht := (tg_two h (by omega) (by omega) hn).2.1
  have hf := bit_flip h (by omega) (by omega) hn t
  have h1 := chg_parity h hp t (l.length - 1) (by omega)
  unfold changesL
  rw [if_pos hc, incr_rd _ _ _ (by rw [chg_len]; exact ht)]
  rw [hf] at h1
  by_cases e : t = tg l 0 (l.length - 1)
  · rw [decide_eq_true e, if_pos rfl] at h1
    rw [if_pos e]
    omega
  · rw [decide_eq_false e, if_neg (by decide)] at h1
    rw [if_neg e]
    omega
theorem changesL_len (n : Nat) (l : List Int) : (changesL n l).length = n := by
  unfold changesL
  split
  · rw [incr_len, chg_len]
  · exact chg_len _ _ _
theorem changesL_upto {n : Nat} {l : List Int} (h : Fine n l) : upto (changesL n l) 5000 := by
  have hl := h.le
  have hc := chg_upto n l (l.length - 1)
  intro x hx
  unfold changesL at hx
  split at hx
  · have := upto_incr hc _ x hx; omega
  · have := hc x hx; omega
end Go.Proofs.Ytnakkdaeehglnaa.P

namespace Go.Proofs.Ytnakkdaeehglnaa.P
open Go.RowKit Go.Proofs.YtnakkdaeehglnaaW.PrintWords Go.Proofs.YtnakkdaeehglnaaW.PrintLast Go.Proofs.YtnakkdaeehglnaaW.PrintMore
attribute [local go_sem] max2_int min2_int max_two min_two max_three min_three max_four min_four   -- for this text's walks alone
set_option linter.unusedVariables false
set_option linter.unusedSimpArgs false

/-! ### flash_Rank: function 25 -/
mutual
def flash_Rank.j0 : Nat → Int → Bool → Option (Int × Int)
  | 0, _, _ => none
  | k + 1, x1, x19 => if x19 = true then (some (0, 2)) else (flash_Rank.l0 k x1 0)
def flash_Rank.l0 : Nat → Int → Int → Option (Int × Int)
  | 0, _, _ => none
  | k + 1, x1, x6 => if x1 > 0 then (flash_Rank.l0 k (wrap64 (Int.tdiv x1 2)) (Go.bits .xor .i64 x6 x1)) else (some (x6, 0))
end
def flash_Rank.f (k : Nat) (a0 : Int) (a1 : Int) : Option (Int × Int) := (flash_sized.f a0).bind fun t209 => (if t209 = true then (if a1 < 0 then (flash_Rank.j0 k a1 true) else (if 0 ≤ a0 then (flash_Rank.j0 k a1 (decide (a1 ≥ (shl .i64 1 a0)))) else (none))) else (flash_Rank.j0 k a1 true))
theorem flash_Rank.mono_l : ∀ k, (∀ y0 y1, LeO (flash_Rank.j0 k y0 y1) (flash_Rank.j0 (k + 1) y0 y1)) ∧ (∀ y0 y1, LeO (flash_Rank.l0 k y0 y1) (flash_Rank.l0 (k + 1) y0 y1))
  | 0 => ⟨fun _ _ r h => by simp [flash_Rank.j0] at h, fun _ _ r h => by simp [flash_Rank.l0] at h⟩
  | k + 1 => by
    obtain ⟨ih0, ih1⟩ := flash_Rank.mono_l k
    refine ⟨?_, ?_⟩
    · intro y0 y1
      unfold flash_Rank.j0
      repeat' first
      | (with_reducible exact ih0 _ _)
      | (with_reducible exact ih1 _ _)
      | (with_reducible exact LeO.refl _)
      | (with_reducible exact LeO.none _)
      | (with_reducible refine LeO.ite ?_ ?_)
      | (with_reducible refine LeO.bind ?_ (fun _ => ?_))
      | exact ih0 _ _
      | exact ih1 _ _
      | exact LeO.none _
      | refine LeO.ite ?_ ?_
      | refine LeO.bind ?_ (fun _ => ?_)
    · intro y0 y1
      unfold flash_Rank.l0
      repeat' first
      | (with_reducible exact ih0 _ _)
      | (with_reducible exact ih1 _ _)
      | (with_reducible exact LeO.refl _)
      | (with_reducible exact LeO.none _)
      | (with_reducible refine LeO.ite ?_ ?_)
      | (with_reducible refine LeO.bind ?_ (fun _ => ?_))
      | exact ih0 _ _
      | exact ih1 _ _
      | exact LeO.none _
      | refine LeO.ite ?_ ?_
      | refine LeO.bind ?_ (fun _ => ?_)
theorem flash_Rank.mono : ∀ a0 a1 k, LeO (flash_Rank.f k a0 a1) (flash_Rank.f (k + 1) a0 a1) := by
  intro a0 a1 k
  obtain ⟨ih0, ih1⟩ := flash_Rank.mono_l k
  unfold flash_Rank.f
  repeat' first
      | (with_reducible exact ih0 _ _)
      | (with_reducible exact ih1 _ _)
      | (with_reducible exact LeO.refl _)
      | (with_reducible exact LeO.none _)
      | (with_reducible refine LeO.ite ?_ ?_)
      | (with_reducible refine LeO.bind ?_ (fun _ => ?_))
      | exact ih0 _ _
      | exact ih1 _ _
      | exact LeO.none _
      | refine LeO.ite ?_ ?_
      | refine LeO.bind ?_ (fun _ => ?_)
set_option maxHeartbeats 8000000 in
set_option maxRecDepth 100000 in
theorem flash_Rank.calls (k : Nat) (a0 : Int) (a1 : Int) (r1 : Int) (r2 : Int) (w : World) (h : flash_Rank.f k a0 a1 = some (r1, r2)) :
    Calls Try.prog 25 #[.int .i64 a0, .int .i64 a1] w fun e w' => e = .returned (.tuple #[.int .i64 r1, .int .i64 r2]) ∧ Drawn0 w w' := by
  have H : ((flash_sized.f a0).bind fun t209 => (if t209 = true then (if a1 < 0 then (flash_Rank.j0 k a1 true) else (if 0 ≤ a0 then (flash_Rank.j0 k a1 (decide (a1 ≥ (shl .i64 1 a0)))) else (none))) else (flash_Rank.j0 k a1 true))) = some (r1, r2) := h
  clear h
  have HC3 := Aside0.mk H
  clear H
  go_enter Try.func25, Try.ntmps25
  go_upto_region 1 with (fail)
  go_cut [19] (fun v19 wc => ∃ (kq : Nat) (x19_2 : Bool), v19 = .bool x19_2 ∧ Aside0 (flash_Rank.j0 kq a1 x19_2 = some (r1, r2)) ∧ Aside0 (kq ≤ k) ∧ Drawn0 w wc)
  case first =>
    have H := HC3.out
    clear HC3
    replace H := Option.bind_eq_some_iff.mp H
    obtain ⟨t209, A40, H⟩ := H
    replace H : (if t209 = true then (if a1 < 0 then (flash_Rank.j0 k a1 true) else (if 0 ≤ a0 then (flash_Rank.j0 k a1 (decide (a1 ≥ (shl .i64 1 a0)))) else (none))) else (flash_Rank.j0 k a1 true)) = some (r1, r2) := H
    have A4 := Aside0.mk A40
    clear A40
    by_cases c5 : t209 = true
    · subst c5
      have H1 : (if a1 < 0 then (flash_Rank.j0 k a1 true) else (if 0 ≤ a0 then (flash_Rank.j0 k a1 (decide (a1 ≥ (shl .i64 1 a0)))) else (none))) = some (r1, r2) := by rw [if_pos rfl] at H; exact H
      clear H
      have H := H1
      clear H1
      by_cases c6 : a1 < 0
      · rw [if_pos c6] at H
        have c6b0 : decide (a1 < 0) = true := decide_eq_true c6
        clear c6
        (first | rw [c6b0] | (simp only [i64_w, i32_w]; rw [c6b0]) | skip)
        have H' := Aside0.mk H
        clear H
        go_wp2_with (first | ((with_reducible refine gate_callee (f := 41) rfl ?_); refine goesL_ (some 8) rfl rfl Try.func41 (by kernel_rfl) rfl #[.int .i64 a0] rfl (by (try simp only [List.map_toArray, List.map_cons, List.map_nil]); first | done | rfl | (simp only [List.length_drop, List.length_take]; rfl)) ?_; (with_reducible refine (flash_sized.calls a0 true _ A4.out).mono ?_); rintro e w' ⟨rfl, ⟨nd, rfl⟩⟩; refine ⟨_, rfl, ?_⟩))
        go_meet
        case rel => exact ⟨_, (true), (by first | rfl | (simp; done) | (simp [*]; done)), H', ⟨by first | omega | exact Nat.le_refl _⟩, by repeat (first | exact Drawn0.refl _ | apply Drawn0.step)⟩
      · rw [if_neg c6] at H
        have c6b0 : decide (a1 < 0) = false := decide_eq_false c6
        clear c6
        (first | rw [c6b0] | (simp only [i64_w, i32_w]; rw [c6b0]) | skip)
        by_cases c7 : 0 ≤ a0
        · rw [if_pos c7] at H
          have c7b0 := eq_true c7
          have c7b1 : decide (0 ≤ a0) = true := decide_eq_true c7
          clear c7
          obtain ⟨ji8, hji8⟩ : ∃ j_ : Int, (shl .i64 1 a0) = j_ := ⟨_, rfl⟩
          replace H : (flash_Rank.j0 k a1 (decide (a1 ≥ (ji8)))) = some (r1, r2) := by first | (rw [hji8] at H; exact H) | (simp only [hji8] at H ⊢; exact H)
          (try rw [hji8] at A4)
          have hji8_ : (IntKind.i64.wrap (1 * 2 ^ min a0.toNat 64)) = ji8 := hji8
          have hji8z : a0 ≤ 64 → (IntKind.i64.wrap (1 * 2 ^ a0.toNat)) = ji8 := shl_small hji8
          have hji8u : (IntKind.i64.wrap (2 ^ min a0.toNat 64)) = ji8 := by have h_ := hji8_; rw [Int.one_mul] at h_; exact h_
          have hji8v : a0 ≤ 64 → (IntKind.i64.wrap (2 ^ a0.toNat)) = ji8 := fun hle_ => by have h_ := hji8z hle_; rw [Int.one_mul] at h_; exact h_
          have hji8y : (wrap64 (1 * 2 ^ min a0.toNat 64)) = ji8 := (i64_w _).symm.trans hji8_
          have hji8x : a0 ≤ 64 → (wrap64 (1 * 2 ^ a0.toNat)) = ji8 := fun h_ => (i64_w _).symm.trans (hji8z h_)
          have H' := Aside0.mk H
          clear H
          go_wp2_with (first | ((with_reducible refine gate_callee (f := 41) rfl ?_); refine goesL_ (some 8) rfl rfl Try.func41 (by kernel_rfl) rfl #[.int .i64 a0] rfl (by (try simp only [List.map_toArray, List.map_cons, List.map_nil]); first | done | rfl | (simp only [List.length_drop, List.length_take]; rfl)) ?_; (with_reducible refine (flash_sized.calls a0 true _ A4.out).mono ?_); rintro e w' ⟨rfl, ⟨nd, rfl⟩⟩; refine ⟨_, rfl, ?_⟩))
          go_meet
          case rel => exact ⟨_, (decide (a1 ≥ (ji8))), (by first | rfl | (simp; done) | (simp only [← hji8] <;> (first | rfl | simp)) | (simp [*]; done)), H', ⟨by first | omega | exact Nat.le_refl _⟩, by repeat (first | exact Drawn0.refl _ | apply Drawn0.step)⟩
        · rw [if_neg c7] at H
          exact absurd H (by simp)
    · replace c5 := Bool.eq_false_iff.mpr c5
      subst c5
      have H1 : (flash_Rank.j0 k a1 true) = some (r1, r2) := by rw [if_neg (show ¬ (false = true) by decide)] at H; exact H
      clear H
      have H := H1
      clear H1
      have H' := Aside0.mk H
      clear H
      go_wp2_with (first | ((with_reducible refine gate_callee (f := 41) rfl ?_); refine goesL_ (some 8) rfl rfl Try.func41 (by kernel_rfl) rfl #[.int .i64 a0] rfl (by (try simp only [List.map_toArray, List.map_cons, List.map_nil]); first | done | rfl | (simp only [List.length_drop, List.length_take]; rfl)) ?_; (with_reducible refine (flash_sized.calls a0 false _ A4.out).mono ?_); rintro e w' ⟨rfl, ⟨nd, rfl⟩⟩; refine ⟨_, rfl, ?_⟩))
      go_meet
      case rel => exact ⟨_, (true), (by first | rfl | (simp; done) | (simp [*]; done)), H', ⟨by first | omega | exact Nat.le_refl _⟩, by repeat (first | exact Drawn0.refl _ | apply Drawn0.step)⟩
  case rest =>
    clear HC3
    try clear c2
    try clear p2
    try clear c4
    try clear c5
    try clear c6
    try clear c6b0
    try clear p6
    try clear c7
    try clear c7b0
    try clear c7b1
    obtain ⟨kq, x19_2, rfl, HA, HJ2, ⟨mc2, rfl⟩⟩ := hcut
    cases kq with
    | zero => exact absurd HA.out (by simp [flash_Rank.j0])
    | succ kj2 =>
      have H := HA.out
      clear HA
      simp only [flash_Rank.j0] at H
      by_cases c9 : x19_2 = true
      · subst c9
        have H1 : (some (0, 2)) = some (r1, r2) := by rw [if_pos rfl] at H; exact H
        clear H
        have H := H1
        clear H1
        simp only [Option.some.injEq, Prod.mk.injEq] at H
        obtain ⟨rfl, rfl⟩ := H
        go_wp2
        go_ret2
        exact ⟨by first | rfl | (simp; done) | (simp [*]; done), by repeat (first | exact Drawn0.refl _ | apply Drawn0.step)⟩
      · replace c9 := Bool.eq_false_iff.mpr c9
        subst c9
        have H1 : (flash_Rank.l0 kj2 a1 0) = some (r1, r2) := by rw [if_neg (show ¬ (false = true) by decide)] at H; exact H
        clear H
        have H := H1
        clear H1
        have H' := Aside0.mk H
        clear H
        go_wp2
        go_loopg [1, 6] kj2 (fun kq v1 v6 w' => ∃ (x1_2 : Int) (x6_2 : Int), v1 = .int .i64 x1_2 ∧ v6 = .int .i64 x6_2 ∧ Aside0 (flash_Rank.l0 kq x1_2 x6_2 = some (r1, r2)) ∧ Aside0 (kq ≤ kj2) ∧ Drawn0 w w')
        case atStart => exact ⟨(a1), (0), (by first | rfl | (simp; done) | (simp [*]; done)), (by first | rfl | (simp; done) | (simp [*]; done)), H', ⟨Nat.le_refl _⟩, by repeat (first | exact Drawn0.refl _ | apply Drawn0.step)⟩
        case round =>
          clear H'
          try clear c2
          try clear p2
          try clear c4
          try clear c5
          try clear c6
          try clear c6b0
          try clear p6
          try clear c7
          try clear c7b0
          try clear c7b1
          try clear c9
          try clear p2
          try clear p6
          obtain ⟨x1_2, x6_2, rfl, rfl, HA, HK2, ⟨m2, rfl⟩⟩ := hrel
          cases gk with
          | zero => exact absurd HA.out (by simp [flash_Rank.l0])
          | succ k2 =>
            have H := HA.out
            clear HA
            simp only [flash_Rank.l0] at H
            by_cases c10 : x1_2 > 0
            · rw [if_pos c10] at H
              have c10b0 : decide (0 < x1_2) = true := decide_eq_true c10
              clear c10
              have H' := Aside0.mk H
              clear H
              go_wp2
              go_roundg k2
              case measure => have := HJ2.out; have := HK2.out; omega
              case rel => exact ⟨(wrap64 (Int.tdiv x1_2 2)), (Go.bits .xor .i64 x6_2 x1_2), (by first | rfl | (simp; done) | (simp [*]; done)), (by first | rfl | (simp; done) | (simp [*]; done)), H', ⟨by have := HJ2.out; have := HK2.out; omega⟩, by repeat (first | exact Drawn0.refl _ | apply Drawn0.step)⟩
            · rw [if_neg c10] at H
              have c10b0 : decide (0 < x1_2) = false := decide_eq_false c10
              clear c10
              simp only [Option.some.injEq, Prod.mk.injEq] at H
              obtain ⟨rfl, rfl⟩ := H
              go_wp2
              go_ret2
              exact ⟨by first | rfl | (simp; done) | (simp [*]; done), by repeat (first | exact Drawn0.refl _ | apply Drawn0.step)⟩

end Go.Proofs.Ytnakkdaeehglnaa.P

namespace Go.Proofs.Ytnakkdaeehglnaa.P
open Go.RowKit Go.Proofs.YtnakkdaeehglnaaW.PrintWords Go.Proofs.YtnakkdaeehglnaaW.PrintLast Go.Proofs.YtnakkdaeehglnaaW.PrintMore
attribute [local go_sem] max2_int min2_int max_two min_two max_three min_three max_four min_four   -- for this text's walks alone
set_option linter.unusedVariables false
set_option linter.unusedSimpArgs false

/-! ### neonwrightref04_Gray: function 24 -/
mutual
def neonwrightref04_Gray.j0 : Nat → Int → Int → Bool → Option (Int × Int)
  | 0, _, _, _ => none
  | k + 1, x0, x1, x20 => if x20 = true then (some (0, 2)) else (neonwrightref04_Gray.l0 k x1 0 (wrap64 (x0 - 1)))
def neonwrightref04_Gray.l0 : Nat → Int → Int → Int → Option (Int × Int)
  | 0, _, _, _ => none
  | k + 1, x1, x6, x7 => if x7 ≥ 0 then (if 0 ≤ x7 then (if x1 ≥ (shl .i64 1 x7) then (if 0 ≤ (wrap64 (x7 + 1)) then (neonwrightref04_Gray.l0 k (wrap64 ((wrap64 ((shl .i64 1 (wrap64 (x7 + 1))) - 1)) - x1)) (wrap64 (x6 + (shl .i64 1 x7))) (wrap64 (x7 - 1))) else (none)) else (neonwrightref04_Gray.l0 k x1 x6 (wrap64 (x7 - 1)))) else (none)) else (some (x6, 0))
end
def neonwrightref04_Gray.f (k : Nat) (a0 : Int) (a1 : Int) : Option (Int × Int) := (neonwrightref04_Tubes.f a0).bind fun t208 => (if t208 = true then (if a1 < 0 then (neonwrightref04_Gray.j0 k a0 a1 true) else (if 0 ≤ a0 then (neonwrightref04_Gray.j0 k a0 a1 (decide (a1 ≥ (shl .i64 1 a0)))) else (none))) else (neonwrightref04_Gray.j0 k a0 a1 true))
theorem neonwrightref04_Gray.mono_l : ∀ k, (∀ y0 y1 y2, LeO (neonwrightref04_Gray.j0 k y0 y1 y2) (neonwrightref04_Gray.j0 (k + 1) y0 y1 y2)) ∧ (∀ y0 y1 y2, LeO (neonwrightref04_Gray.l0 k y0 y1 y2) (neonwrightref04_Gray.l0 (k + 1) y0 y1 y2))
  | 0 => ⟨fun _ _ _ r h => by simp [neonwrightref04_Gray.j0] at h, fun _ _ _ r h => by simp [neonwrightref04_Gray.l0] at h⟩
  | k + 1 => by
    obtain ⟨ih0, ih1⟩ := neonwrightref04_Gray.mono_l k
    refine ⟨?_, ?_⟩
    · intro y0 y1 y2
      unfold neonwrightref04_Gray.j0
      repeat' first
      | (with_reducible exact ih0 _ _ _)
      | (with_reducible exact ih1 _ _ _)
      | (with_reducible exact LeO.refl _)
      | (with_reducible exact LeO.none _)
      | (with_reducible refine LeO.ite ?_ ?_)
      | (with_reducible refine LeO.bind ?_ (fun _ => ?_))
      | exact ih0 _ _ _
      | exact ih1 _ _ _
      | exact LeO.none _
      | refine LeO.ite ?_ ?_
      | refine LeO.bind ?_ (fun _ => ?_)
    · intro y0 y1 y2
      unfold neonwrightref04_Gray.l0
      repeat' first
      | (with_reducible exact ih0 _ _ _)
      | (with_reducible exact ih1 _ _ _)
      | (with_reducible exact LeO.refl _)
      | (with_reducible exact LeO.none _)
      | (with_reducible refine LeO.ite ?_ ?_)
      | (with_reducible refine LeO.bind ?_ (fun _ => ?_))
      | exact ih0 _ _ _
      | exact ih1 _ _ _
      | exact LeO.none _
      | refine LeO.ite ?_ ?_
      | refine LeO.bind ?_ (fun _ => ?_)
theorem neonwrightref04_Gray.mono : ∀ a0 a1 k, LeO (neonwrightref04_Gray.f k a0 a1) (neonwrightref04_Gray.f (k + 1) a0 a1) := by
  intro a0 a1 k
  obtain ⟨ih0, ih1⟩ := neonwrightref04_Gray.mono_l k
  unfold neonwrightref04_Gray.f
  repeat' first
      | (with_reducible exact ih0 _ _ _)
      | (with_reducible exact ih1 _ _ _)
      | (with_reducible exact LeO.refl _)
      | (with_reducible exact LeO.none _)
      | (with_reducible refine LeO.ite ?_ ?_)
      | (with_reducible refine LeO.bind ?_ (fun _ => ?_))
      | exact ih0 _ _ _
      | exact ih1 _ _ _
      | exact LeO.none _
      | refine LeO.ite ?_ ?_
      | refine LeO.bind ?_ (fun _ => ?_)
set_option maxHeartbeats 8000000 in
set_option maxRecDepth 100000 in
theorem neonwrightref04_Gray.calls (k : Nat) (a0 : Int) (a1 : Int) (r1 : Int) (r2 : Int) (w : World) (h : neonwrightref04_Gray.f k a0 a1 = some (r1, r2)) :
    Calls Try.prog 24 #[.int .i64 a0, .int .i64 a1] w fun e w' => e = .returned (.tuple #[.int .i64 r1, .int .i64 r2]) ∧ Drawn0 w w' := by
  have H : ((neonwrightref04_Tubes.f a0).bind fun t208 => (if t208 = true then (if a1 < 0 then (neonwrightref04_Gray.j0 k a0 a1 true) else (if 0 ≤ a0 then (neonwrightref04_Gray.j0 k a0 a1 (decide (a1 ≥ (shl .i64 1 a0)))) else (none))) else (neonwrightref04_Gray.j0 k a0 a1 true))) = some (r1, r2) := h
  clear h
  have HC3 := Aside0.mk H
  clear H
  go_enter Try.func24, Try.ntmps24
  go_upto_region 1 with (fail)
  go_cut [20] (fun v20 wc => ∃ (kq : Nat) (x20_2 : Bool), v20 = .bool x20_2 ∧ Aside0 (neonwrightref04_Gray.j0 kq a0 a1 x20_2 = some (r1, r2)) ∧ Aside0 (kq ≤ k) ∧ Drawn0 w wc)
  case first =>
    have H := HC3.out
    clear HC3
    replace H := Option.bind_eq_some_iff.mp H
    obtain ⟨t208, A40, H⟩ := H
    replace H : (if t208 = true then (if a1 < 0 then (neonwrightref04_Gray.j0 k a0 a1 true) else (if 0 ≤ a0 then (neonwrightref04_Gray.j0 k a0 a1 (decide (a1 ≥ (shl .i64 1 a0)))) else (none))) else (neonwrightref04_Gray.j0 k a0 a1 true)) = some (r1, r2) := H
    have A4 := Aside0.mk A40
    clear A40
    by_cases c5 : t208 = true
    · subst c5
      have H1 : (if a1 < 0 then (neonwrightref04_Gray.j0 k a0 a1 true) else (if 0 ≤ a0 then (neonwrightref04_Gray.j0 k a0 a1 (decide (a1 ≥ (shl .i64 1 a0)))) else (none))) = some (r1, r2) := by rw [if_pos rfl] at H; exact H
      clear H
      have H := H1
      clear H1
      by_cases c6 : a1 < 0
      · rw [if_pos c6] at H
        have c6b0 : decide (a1 < 0) = true := decide_eq_true c6
        clear c6
        (first | rw [c6b0] | (simp only [i64_w, i32_w]; rw [c6b0]) | skip)
        have H' := Aside0.mk H
        clear H
        go_wp2_with (first | ((with_reducible refine gate_callee (f := 39) rfl ?_); refine goesL_ (some 9) rfl rfl Try.func39 (by kernel_rfl) rfl #[.int .i64 a0] rfl (by (try simp only [List.map_toArray, List.map_cons, List.map_nil]); first | done | rfl | (simp only [List.length_drop, List.length_take]; rfl)) ?_; (with_reducible refine (neonwrightref04_Tubes.calls a0 true _ A4.out).mono ?_); rintro e w' ⟨rfl, ⟨nd, rfl⟩⟩; refine ⟨_, rfl, ?_⟩))
        go_meet
        case rel => exact ⟨_, (true), (by first | rfl | (simp; done) | (simp [*]; done)), H', ⟨by first | omega | exact Nat.le_refl _⟩, by repeat (first | exact Drawn0.refl _ | apply Drawn0.step)⟩
      · rw [if_neg c6] at H
        have c6b0 : decide (a1 < 0) = false := decide_eq_false c6
        clear c6
        (first | rw [c6b0] | (simp only [i64_w, i32_w]; rw [c6b0]) | skip)
        by_cases c7 : 0 ≤ a0
        · rw [if_pos c7] at H
          have c7b0 := eq_true c7
          have c7b1 : decide (0 ≤ a0) = true := decide_eq_true c7
          clear c7
          obtain ⟨ji8, hji8⟩ : ∃ j_ : Int, (shl .i64 1 a0) = j_ := ⟨_, rfl⟩
          replace H : (neonwrightref04_Gray.j0 k a0 a1 (decide (a1 ≥ (ji8)))) = some (r1, r2) := by first | (rw [hji8] at H; exact H) | (simp only [hji8] at H ⊢; exact H)
          (try rw [hji8] at A4)
          have hji8_ : (IntKind.i64.wrap (1 * 2 ^ min a0.toNat 64)) = ji8 := hji8
          have hji8z : a0 ≤ 64 → (IntKind.i64.wrap (1 * 2 ^ a0.toNat)) = ji8 := shl_small hji8
          have hji8u : (IntKind.i64.wrap (2 ^ min a0.toNat 64)) = ji8 := by have h_ := hji8_; rw [Int.one_mul] at h_; exact h_
          have hji8v : a0 ≤ 64 → (IntKind.i64.wrap (2 ^ a0.toNat)) = ji8 := fun hle_ => by have h_ := hji8z hle_; rw [Int.one_mul] at h_; exact h_
          have hji8y : (wrap64 (1 * 2 ^ min a0.toNat 64)) = ji8 := (i64_w _).symm.trans hji8_
          have hji8x : a0 ≤ 64 → (wrap64 (1 * 2 ^ a0.toNat)) = ji8 := fun h_ => (i64_w _).symm.trans (hji8z h_)
          have H' := Aside0.mk H
          clear H
          go_wp2_with (first | ((with_reducible refine gate_callee (f := 39) rfl ?_); refine goesL_ (some 9) rfl rfl Try.func39 (by kernel_rfl) rfl #[.int .i64 a0] rfl (by (try simp only [List.map_toArray, List.map_cons, List.map_nil]); first | done | rfl | (simp only [List.length_drop, List.length_take]; rfl)) ?_; (with_reducible refine (neonwrightref04_Tubes.calls a0 true _ A4.out).mono ?_); rintro e w' ⟨rfl, ⟨nd, rfl⟩⟩; refine ⟨_, rfl, ?_⟩))
          go_meet
          case rel => exact ⟨_, (decide (a1 ≥ (ji8))), (by first | rfl | (simp; done) | (simp only [← hji8] <;> (first | rfl | simp)) | (simp [*]; done)), H', ⟨by first | omega | exact Nat.le_refl _⟩, by repeat (first | exact Drawn0.refl _ | apply Drawn0.step)⟩
        · rw [if_neg c7] at H
          exact absurd H (by simp)
    · replace c5 := Bool.eq_false_iff.mpr c5
      subst c5
      have H1 : (neonwrightref04_Gray.j0 k a0 a1 true) = some (r1, r2) := by rw [if_neg (show ¬ (false = true) by decide)] at H; exact H
      clear H
      have H := H1
      clear H1
      have H' := Aside0.mk H
      clear H
      go_wp2_with (first | ((with_reducible refine gate_callee (f := 39) rfl ?_); refine goesL_ (some 9) rfl rfl Try.func39 (by kernel_rfl) rfl #[.int .i64 a0] rfl (by (try simp only [List.map_toArray, List.map_cons, List.map_nil]); first | done | rfl | (simp only [List.length_drop, List.length_take]; rfl)) ?_; (with_reducible refine (neonwrightref04_Tubes.calls a0 false _ A4.out).mono ?_); rintro e w' ⟨rfl, ⟨nd, rfl⟩⟩; refine ⟨_, rfl, ?_⟩))
      go_meet
      case rel => exact ⟨_, (true), (by first | rfl | (simp; done) | (simp [*]; done)), H', ⟨by first | omega | exact Nat.le_refl _⟩, by repeat (first | exact Drawn0.refl _ | apply Drawn0.step)⟩
  case rest =>
    clear HC3
    try clear c2
    try clear p2
    try clear c3
    try clear c5
    try clear c6
    try clear c6b0
    try clear p6
    try clear c7
    try clear c7b0
    try clear c7b1
    obtain ⟨kq, x20_2, rfl, HA, HJ2, ⟨mc2, rfl⟩⟩ := hcut
    cases kq with
    | zero => exact absurd HA.out (by simp [neonwrightref04_Gray.j0])
    | succ kj2 =>
      have H := HA.out
      clear HA
      simp only [neonwrightref04_Gray.j0] at H
      by_cases c9 : x20_2 = true
      · subst c9
        have H1 : (some (0, 2)) = some (r1, r2) := by rw [if_pos rfl] at H; exact H
        clear H
        have H := H1
        clear H1
        simp only [Option.some.injEq, Prod.mk.injEq] at H
        obtain ⟨rfl, rfl⟩ := H
        go_wp2
        go_ret2
        exact ⟨by first | rfl | (simp; done) | (simp [*]; done), by repeat (first | exact Drawn0.refl _ | apply Drawn0.step)⟩
      · replace c9 := Bool.eq_false_iff.mpr c9
        subst c9
        have H1 : (neonwrightref04_Gray.l0 kj2 a1 0 (wrap64 (a0 - 1))) = some (r1, r2) := by rw [if_neg (show ¬ (false = true) by decide)] at H; exact H
        clear H
        have H := H1
        clear H1
        have H' := Aside0.mk H
        clear H
        go_wp2
        go_loopg [1, 6, 7] kj2 (fun kq v1 v6 v7 w' => ∃ (x1_2 : Int) (x6_2 : Int) (x7_2 : Int), v1 = .int .i64 x1_2 ∧ v6 = .int .i64 x6_2 ∧ v7 = .int .i64 x7_2 ∧ Aside0 (neonwrightref04_Gray.l0 kq x1_2 x6_2 x7_2 = some (r1, r2)) ∧ Aside0 (kq ≤ kj2) ∧ Drawn0 w w')
        case atStart => exact ⟨(a1), (0), (wrap64 (a0 - 1)), (by first | rfl | (simp; done) | (simp [*]; done)), (by first | rfl | (simp; done) | (simp [*]; done)), (by first | rfl | (simp; done) | (simp [*]; done)), H', ⟨Nat.le_refl _⟩, by repeat (first | exact Drawn0.refl _ | apply Drawn0.step)⟩
        case round =>
          clear H'
          try clear c2
          try clear p2
          try clear c3
          try clear c5
          try clear c6
          try clear c6b0
          try clear p6
          try clear c7
          try clear c7b0
          try clear c7b1
          try clear c9
          try clear p2
          try clear p6
          obtain ⟨x1_2, x6_2, x7_2, rfl, rfl, rfl, HA, HK2, ⟨m2, rfl⟩⟩ := hrel
          cases gk with
          | zero => exact absurd HA.out (by simp [neonwrightref04_Gray.l0])
          | succ k2 =>
            have H := HA.out
            clear HA
            simp only [neonwrightref04_Gray.l0] at H
            by_cases c10 : x7_2 ≥ 0
            · rw [if_pos c10] at H
              have c10b0 : decide (0 ≤ x7_2) = true := decide_eq_true c10
              clear c10
              by_cases c11 : 0 ≤ x7_2
              · rw [if_pos c11] at H
                have c11b0 := eq_true c11
                have c11b1 : decide (0 ≤ x7_2) = true := decide_eq_true c11
                clear c11
                obtain ⟨ji12, hji12⟩ : ∃ j_ : Int, (shl .i64 1 x7_2) = j_ := ⟨_, rfl⟩
                replace H : (if x1_2 ≥ (ji12) then (if 0 ≤ (wrap64 (x7_2 + 1)) then (neonwrightref04_Gray.l0 k2 (wrap64 ((wrap64 ((shl .i64 1 (wrap64 (x7_2 + 1))) - 1)) - x1_2)) (wrap64 (x6_2 + (ji12))) (wrap64 (x7_2 - 1))) else (none)) else (neonwrightref04_Gray.l0 k2 x1_2 x6_2 (wrap64 (x7_2 - 1)))) = some (r1, r2) := by first | (rw [hji12] at H; exact H) | (simp only [hji12] at H ⊢; exact H)
                have hji12_ : (IntKind.i64.wrap (1 * 2 ^ min x7_2.toNat 64)) = ji12 := hji12
                have hji12z : x7_2 ≤ 64 → (IntKind.i64.wrap (1 * 2 ^ x7_2.toNat)) = ji12 := shl_small hji12
                have hji12u : (IntKind.i64.wrap (2 ^ min x7_2.toNat 64)) = ji12 := by have h_ := hji12_; rw [Int.one_mul] at h_; exact h_
                have hji12v : x7_2 ≤ 64 → (IntKind.i64.wrap (2 ^ x7_2.toNat)) = ji12 := fun hle_ => by have h_ := hji12z hle_; rw [Int.one_mul] at h_; exact h_
                have hji12y : (wrap64 (1 * 2 ^ min x7_2.toNat 64)) = ji12 := (i64_w _).symm.trans hji12_
                have hji12x : x7_2 ≤ 64 → (wrap64 (1 * 2 ^ x7_2.toNat)) = ji12 := fun h_ => (i64_w _).symm.trans (hji12z h_)
                by_cases c13 : x1_2 ≥ (ji12)
                · rw [if_pos c13] at H
                  have c13b0 : decide ((ji12) ≤ x1_2) = true := decide_eq_true c13
                  clear c13
                  have c14b0 := eq_true (of_decide_eq_true (by first | (with_reducible assumption) | assumption) : 0 ≤ x7_2)
                  obtain ⟨ji16, hji16⟩ : ∃ j_ : Int, (wrap64 (x7_2 + 1)) = j_ := ⟨_, rfl⟩
                  replace H : (if 0 ≤ (ji16) then (neonwrightref04_Gray.l0 k2 (wrap64 ((wrap64 ((shl .i64 1 (ji16)) - 1)) - x1_2)) (wrap64 (x6_2 + (ji12))) (wrap64 (x7_2 - 1))) else (none)) = some (r1, r2) := by first | (rw [hji16] at H; exact H) | (simp only [hji16] at H ⊢; exact H)
                  have hji16w : (IntKind.i64.wrap (x7_2 + 1)) = ji16 := (i64_w _).trans hji16
                  by_cases c17 : 0 ≤ (ji16)
                  · rw [if_pos c17] at H
                    have c17b0 := eq_true c17
                    have c17b1 : decide (0 ≤ (ji16)) = true := decide_eq_true c17
                    clear c17
                    obtain ⟨ji18, hji18⟩ : ∃ j_ : Int, (shl .i64 1 (ji16)) = j_ := ⟨_, rfl⟩
                    replace H : (neonwrightref04_Gray.l0 k2 (wrap64 ((wrap64 ((ji18) - 1)) - x1_2)) (wrap64 (x6_2 + (ji12))) (wrap64 (x7_2 - 1))) = some (r1, r2) := by first | (rw [hji18] at H; exact H) | (simp only [hji18] at H ⊢; exact H)
                    have hji18_ : (IntKind.i64.wrap (1 * 2 ^ min (ji16).toNat 64)) = ji18 := hji18
                    have hji18z : (ji16) ≤ 64 → (IntKind.i64.wrap (1 * 2 ^ (ji16).toNat)) = ji18 := shl_small hji18
                    have hji18u : (IntKind.i64.wrap (2 ^ min (ji16).toNat 64)) = ji18 := by have h_ := hji18_; rw [Int.one_mul] at h_; exact h_
                    have hji18v : (ji16) ≤ 64 → (IntKind.i64.wrap (2 ^ (ji16).toNat)) = ji18 := fun hle_ => by have h_ := hji18z hle_; rw [Int.one_mul] at h_; exact h_
                    have hji18y : (wrap64 (1 * 2 ^ min (ji16).toNat 64)) = ji18 := (i64_w _).symm.trans hji18_
                    have hji18x : (ji16) ≤ 64 → (wrap64 (1 * 2 ^ (ji16).toNat)) = ji18 := fun h_ => (i64_w _).symm.trans (hji18z h_)
                    have H' := Aside0.mk H
                    clear H
                    go_wp2
                    go_roundg k2
                    case measure => have := HJ2.out; have := HK2.out; omega
                    case rel => exact ⟨(wrap64 ((wrap64 ((ji18) - 1)) - x1_2)), (wrap64 (x6_2 + (ji12))), (wrap64 (x7_2 - 1)), (by first | rfl | (simp; done) | (simp only [← hji18] <;> (first | rfl | simp)) | (simp [*]; done)), (by first | rfl | (simp; done) | (simp only [← hji12] <;> (first | rfl | simp)) | (simp [*]; done)), (by first | rfl | (simp; done) | (simp [*]; done)), H', ⟨by have := HJ2.out; have := HK2.out; omega⟩, by repeat (first | exact Drawn0.refl _ | apply Drawn0.step)⟩
                  · rw [if_neg c17] at H
                    exact absurd H (by simp)
                · rw [if_neg c13] at H
                  have c13b0 : decide ((ji12) ≤ x1_2) = false := decide_eq_false c13
                  clear c13
                  have H' := Aside0.mk H
                  clear H
                  go_wp2
                  go_roundg k2
                  case measure => have := HJ2.out; have := HK2.out; omega
                  case rel => exact ⟨(x1_2), (x6_2), (wrap64 (x7_2 - 1)), (by first | rfl | (simp; done) | (simp [*]; done)), (by first | rfl | (simp; done) | (simp [*]; done)), (by first | rfl | (simp; done) | (simp [*]; done)), H', ⟨by have := HJ2.out; have := HK2.out; omega⟩, by repeat (first | exact Drawn0.refl _ | apply Drawn0.step)⟩
              · rw [if_neg c11] at H
                exact absurd H (by simp)
            · rw [if_neg c10] at H
              have c10b0 : decide (0 ≤ x7_2) = false := decide_eq_false c10
              clear c10
              simp only [Option.some.injEq, Prod.mk.injEq] at H
              obtain ⟨rfl, rfl⟩ := H
              go_wp2
              go_ret2
              exact ⟨by first | rfl | (simp; done) | (simp [*]; done), by repeat (first | exact Drawn0.refl _ | apply Drawn0.step)⟩

end Go.Proofs.Ytnakkdaeehglnaa.P

namespace Go.Proofs.Ytnakkdaeehglnaa.P
open Go.RowKit Go.Proofs.YtnakkdaeehglnaaW.PrintWords Go.Proofs.YtnakkdaeehglnaaW.PrintLast Go.Proofs.YtnakkdaeehglnaaW.PrintMore
attribute [local go_sem] max2_int min2_int max_two min_two max_three min_three max_four min_four   -- for this text's walks alone
set_option linter.unusedVariables false
set_option linter.unusedSimpArgs false

/-! ### neonwrightref04_Rank: function 26 -/
mutual
def neonwrightref04_Rank.j0 : Nat → Int → Int → Bool → Option (Int × Int)
  | 0, _, _, _ => none
  | k + 1, x0, x1, x20 => if x20 = true then (some (0, 2)) else (neonwrightref04_Rank.l0 k x0 x1 0 0)
def neonwrightref04_Rank.l0 : Nat → Int → Int → Int → Int → Option (Int × Int)
  | 0, _, _, _, _ => none
  | k + 1, x0, x1, x6, x7 => if x7 < x0 then (if 0 ≤ x7 then (if (Int.tmod (shr .i64 x1 x7) 2) = 1 then (if 0 ≤ (wrap64 (x7 + 1)) then (neonwrightref04_Rank.l0 k x0 x1 (wrap64 ((wrap64 ((shl .i64 1 (wrap64 (x7 + 1))) - 1)) - x6)) (wrap64 (x7 + 1))) else (none)) else (neonwrightref04_Rank.l0 k x0 x1 x6 (wrap64 (x7 + 1)))) else (none)) else (some (x6, 0))
end
def neonwrightref04_Rank.f (k : Nat) (a0 : Int) (a1 : Int) : Option (Int × Int) := (neonwrightref04_Tubes.f a0).bind fun t210 => (if t210 = true then (if a1 < 0 then (neonwrightref04_Rank.j0 k a0 a1 true) else (if 0 ≤ a0 then (neonwrightref04_Rank.j0 k a0 a1 (decide (a1 ≥ (shl .i64 1 a0)))) else (none))) else (neonwrightref04_Rank.j0 k a0 a1 true))
theorem neonwrightref04_Rank.mono_l : ∀ k, (∀ y0 y1 y2, LeO (neonwrightref04_Rank.j0 k y0 y1 y2) (neonwrightref04_Rank.j0 (k + 1) y0 y1 y2)) ∧ (∀ y0 y1 y2 y3, LeO (neonwrightref04_Rank.l0 k y0 y1 y2 y3) (neonwrightref04_Rank.l0 (k + 1) y0 y1 y2 y3))
  | 0 => ⟨fun _ _ _ r h => by simp [neonwrightref04_Rank.j0] at h, fun _ _ _ _ r h => by simp [neonwrightref04_Rank.l0] at h⟩
  | k + 1 => by
    obtain ⟨ih0, ih1⟩ := neonwrightref04_Rank.mono_l k
    refine ⟨?_, ?_⟩
    · intro y0 y1 y2
      unfold neonwrightref04_Rank.j0
      repeat' first
      | (with_reducible exact ih0 _ _ _)
      | (with_reducible exact ih1 _ _ _ _)
      | (with_reducible exact LeO.refl _)
      | (with_reducible exact LeO.none _)
      | (with_reducible refine LeO.ite ?_ ?_)
      | (with_reducible refine LeO.bind ?_ (fun _ => ?_))
      | exact ih0 _ _ _
      | exact ih1 _ _ _ _
      | exact LeO.none _
      | refine LeO.ite ?_ ?_
      | refine LeO.bind ?_ (fun _ => ?_)
    · intro y0 y1 y2 y3
      unfold neonwrightref04_Rank.l0
      repeat' first
      | (with_reducible exact ih0 _ _ _)
      | (with_reducible exact ih1 _ _ _ _)
      | (with_reducible exact LeO.refl _)
      | (with_reducible exact LeO.none _)
      | (with_reducible refine LeO.ite ?_ ?_)
      | (with_reducible refine LeO.bind ?_ (fun _ => ?_))
      | exact ih0 _ _ _
      | exact ih1 _ _ _ _
      | exact LeO.none _
      | refine LeO.ite ?_ ?_
      | refine LeO.bind ?_ (fun _ => ?_)
theorem neonwrightref04_Rank.mono : ∀ a0 a1 k, LeO (neonwrightref04_Rank.f k a0 a1) (neonwrightref04_Rank.f (k + 1) a0 a1) := by
  intro a0 a1 k
  obtain ⟨ih0, ih1⟩ := neonwrightref04_Rank.mono_l k
  unfold neonwrightref04_Rank.f
  repeat' first
      | (with_reducible exact ih0 _ _ _)
      | (with_reducible exact ih1 _ _ _ _)
      | (with_reducible exact LeO.refl _)
      | (with_reducible exact LeO.none _)
      | (with_reducible refine LeO.ite ?_ ?_)
      | (with_reducible refine LeO.bind ?_ (fun _ => ?_))
      | exact ih0 _ _ _
      | exact ih1 _ _ _ _
      | exact LeO.none _
      | refine LeO.ite ?_ ?_
      | refine LeO.bind ?_ (fun _ => ?_)
set_option maxHeartbeats 8000000 in
set_option maxRecDepth 100000 in
theorem neonwrightref04_Rank.calls (k : Nat) (a0 : Int) (a1 : Int) (r1 : Int) (r2 : Int) (w : World) (h : neonwrightref04_Rank.f k a0 a1 = some (r1, r2)) :
    Calls Try.prog 26 #[.int .i64 a0, .int .i64 a1] w fun e w' => e = .returned (.tuple #[.int .i64 r1, .int .i64 r2]) ∧ Drawn0 w w' := by
  have H : ((neonwrightref04_Tubes.f a0).bind fun t210 => (if t210 = true then (if a1 < 0 then (neonwrightref04_Rank.j0 k a0 a1 true) else (if 0 ≤ a0 then (neonwrightref04_Rank.j0 k a0 a1 (decide (a1 ≥ (shl .i64 1 a0)))) else (none))) else (neonwrightref04_Rank.j0 k a0 a1 true))) = some (r1, r2) := h
  clear h
  have HC3 := Aside0.mk H
  clear H
  go_enter Try.func26, Try.ntmps26
  go_upto_region 1 with (fail)
  go_cut [20] (fun v20 wc => ∃ (kq : Nat) (x20_2 : Bool), v20 = .bool x20_2 ∧ Aside0 (neonwrightref04_Rank.j0 kq a0 a1 x20_2 = some (r1, r2)) ∧ Aside0 (kq ≤ k) ∧ Drawn0 w wc)
  case first =>
    have H := HC3.out
    clear HC3
    replace H := Option.bind_eq_some_iff.mp H
    obtain ⟨t210, A40, H⟩ := H
    replace H : (if t210 = true then (if a1 < 0 then (neonwrightref04_Rank.j0 k a0 a1 true) else (if 0 ≤ a0 then (neonwrightref04_Rank.j0 k a0 a1 (decide (a1 ≥ (shl .i64 1 a0)))) else (none))) else (neonwrightref04_Rank.j0 k a0 a1 true)) = some (r1, r2) := H
    have A4 := Aside0.mk A40
    clear A40
    by_cases c5 : t210 = true
    · subst c5
      have H1 : (if a1 < 0 then (neonwrightref04_Rank.j0 k a0 a1 true) else (if 0 ≤ a0 then (neonwrightref04_Rank.j0 k a0 a1 (decide (a1 ≥ (shl .i64 1 a0)))) else (none))) = some (r1, r2) := by rw [if_pos rfl] at H; exact H
      clear H
      have H := H1
      clear H1
      by_cases c6 : a1 < 0
      · rw [if_pos c6] at H
        have c6b0 : decide (a1 < 0) = true := decide_eq_true c6
        clear c6
        (first | rw [c6b0] | (simp only [i64_w, i32_w]; rw [c6b0]) | skip)
        have H' := Aside0.mk H
        clear H
        go_wp2_with (first | ((with_reducible refine gate_callee (f := 39) rfl ?_); refine goesL_ (some 9) rfl rfl Try.func39 (by kernel_rfl) rfl #[.int .i64 a0] rfl (by (try simp only [List.map_toArray, List.map_cons, List.map_nil]); first | done | rfl | (simp only [List.length_drop, List.length_take]; rfl)) ?_; (with_reducible refine (neonwrightref04_Tubes.calls a0 true _ A4.out).mono ?_); rintro e w' ⟨rfl, ⟨nd, rfl⟩⟩; refine ⟨_, rfl, ?_⟩))
        go_meet
        case rel => exact ⟨_, (true), (by first | rfl | (simp; done) | (simp [*]; done)), H', ⟨by first | omega | exact Nat.le_refl _⟩, by repeat (first | exact Drawn0.refl _ | apply Drawn0.step)⟩
      · rw [if_neg c6] at H
        have c6b0 : decide (a1 < 0) = false := decide_eq_false c6
        clear c6
        (first | rw [c6b0] | (simp only [i64_w, i32_w]; rw [c6b0]) | skip)
        by_cases c7 : 0 ≤ a0
        · rw [if_pos c7] at H
          have c7b0 := eq_true c7
          have c7b1 : decide (0 ≤ a0) = true := decide_eq_true c7
          clear c7
          obtain ⟨ji8, hji8⟩ : ∃ j_ : Int, (shl .i64 1 a0) = j_ := ⟨_, rfl⟩
          replace H : (neonwrightref04_Rank.j0 k a0 a1 (decide (a1 ≥ (ji8)))) = some (r1, r2) := by first | (rw [hji8] at H; exact H) | (simp only [hji8] at H ⊢; exact H)
          (try rw [hji8] at A4)
          have hji8_ : (IntKind.i64.wrap (1 * 2 ^ min a0.toNat 64)) = ji8 := hji8
          have hji8z : a0 ≤ 64 → (IntKind.i64.wrap (1 * 2 ^ a0.toNat)) = ji8 := shl_small hji8
          have hji8u : (IntKind.i64.wrap (2 ^ min a0.toNat 64)) = ji8 := by have h_ := hji8_; rw [Int.one_mul] at h_; exact h_
          have hji8v : a0 ≤ 64 → (IntKind.i64.wrap (2 ^ a0.toNat)) = ji8 := fun hle_ => by have h_ := hji8z hle_; rw [Int.one_mul] at h_; exact h_
          have hji8y : (wrap64 (1 * 2 ^ min a0.toNat 64)) = ji8 := (i64_w _).symm.trans hji8_
          have hji8x : a0 ≤ 64 → (wrap64 (1 * 2 ^ a0.toNat)) = ji8 := fun h_ => (i64_w _).symm.trans (hji8z h_)
          have H' := Aside0.mk H
          clear H
          go_wp2_with (first | ((with_reducible refine gate_callee (f := 39) rfl ?_); refine goesL_ (some 9) rfl rfl Try.func39 (by kernel_rfl) rfl #[.int .i64 a0] rfl (by (try simp only [List.map_toArray, List.map_cons, List.map_nil]); first | done | rfl | (simp only [List.length_drop, List.length_take]; rfl)) ?_; (with_reducible refine (neonwrightref04_Tubes.calls a0 true _ A4.out).mono ?_); rintro e w' ⟨rfl, ⟨nd, rfl⟩⟩; refine ⟨_, rfl, ?_⟩))
          go_meet
          case rel => exact ⟨_, (decide (a1 ≥ (ji8))), (by first | rfl | (simp; done) | (simp only [← hji8] <;> (first | rfl | simp)) | (simp [*]; done)), H', ⟨by first | omega | exact Nat.le_refl _⟩, by repeat (first | exact Drawn0.refl _ | apply Drawn0.step)⟩
        · rw [if_neg c7] at H
          exact absurd H (by simp)
    · replace c5 := Bool.eq_false_iff.mpr c5
      subst c5
      have H1 : (neonwrightref04_Rank.j0 k a0 a1 true) = some (r1, r2) := by rw [if_neg (show ¬ (false = true) by decide)] at H; exact H
      clear H
      have H := H1
      clear H1
      have H' := Aside0.mk H
      clear H
      go_wp2_with (first | ((with_reducible refine gate_callee (f := 39) rfl ?_); refine goesL_ (some 9) rfl rfl Try.func39 (by kernel_rfl) rfl #[.int .i64 a0] rfl (by (try simp only [List.map_toArray, List.map_cons, List.map_nil]); first | done | rfl | (simp only [List.length_drop, List.length_take]; rfl)) ?_; (with_reducible refine (neonwrightref04_Tubes.calls a0 false _ A4.out).mono ?_); rintro e w' ⟨rfl, ⟨nd, rfl⟩⟩; refine ⟨_, rfl, ?_⟩))
      go_meet
      case rel => exact ⟨_, (true), (by first | rfl | (simp; done) | (simp [*]; done)), H', ⟨by first | omega | exact Nat.le_refl _⟩, by repeat (first | exact Drawn0.refl _ | apply Drawn0.step)⟩
  case rest =>
    clear HC3
    try clear c2
    try clear p2
    try clear c3
    try clear c5
    try clear c6
    try clear c6b0
    try clear p6
    try clear c7
    try clear c7b0
    try clear c7b1
    obtain ⟨kq, x20_2, rfl, HA, HJ2, ⟨mc2, rfl⟩⟩ := hcut
    cases kq with
    | zero => exact absurd HA.out (by simp [neonwrightref04_Rank.j0])
    | succ kj2 =>
      have H := HA.out
      clear HA
      simp only [neonwrightref04_Rank.j0] at H
      by_cases c9 : x20_2 = true
      · subst c9
        have H1 : (some (0, 2)) = some (r1, r2) := by rw [if_pos rfl] at H; exact H
        clear H
        have H := H1
        clear H1
        simp only [Option.some.injEq, Prod.mk.injEq] at H
        obtain ⟨rfl, rfl⟩ := H
        go_wp2
        go_ret2
        exact ⟨by first | rfl | (simp; done) | (simp [*]; done), by repeat (first | exact Drawn0.refl _ | apply Drawn0.step)⟩
      · replace c9 := Bool.eq_false_iff.mpr c9
        subst c9
        have H1 : (neonwrightref04_Rank.l0 kj2 a0 a1 0 0) = some (r1, r2) := by rw [if_neg (show ¬ (false = true) by decide)] at H; exact H
        clear H
        have H := H1
        clear H1
        have H' := Aside0.mk H
        clear H
        go_wp2
        go_loopg [6, 7] kj2 (fun kq v6 v7 w' => ∃ (x6_2 : Int) (x7_2 : Int), v6 = .int .i64 x6_2 ∧ v7 = .int .i64 x7_2 ∧ Aside0 (neonwrightref04_Rank.l0 kq a0 a1 x6_2 x7_2 = some (r1, r2)) ∧ Aside0 (kq ≤ kj2) ∧ Drawn0 w w')
        case atStart => exact ⟨(0), (0), (by first | rfl | (simp; done) | (simp [*]; done)), (by first | rfl | (simp; done) | (simp [*]; done)), H', ⟨Nat.le_refl _⟩, by repeat (first | exact Drawn0.refl _ | apply Drawn0.step)⟩
        case round =>
          clear H'
          try clear c2
          try clear p2
          try clear c3
          try clear c5
          try clear c6
          try clear c6b0
          try clear p6
          try clear c7
          try clear c7b0
          try clear c7b1
          try clear c9
          try clear p2
          try clear p6
          obtain ⟨x6_2, x7_2, rfl, rfl, HA, HK2, ⟨m2, rfl⟩⟩ := hrel
          cases gk with
          | zero => exact absurd HA.out (by simp [neonwrightref04_Rank.l0])
          | succ k2 =>
            have H := HA.out
            clear HA
            simp only [neonwrightref04_Rank.l0] at H
            by_cases c10 : x7_2 < a0
            · rw [if_pos c10] at H
              have c10b0 : decide (x7_2 < a0) = true := decide_eq_true c10
              clear c10
              by_cases c11 : 0 ≤ x7_2
              · rw [if_pos c11] at H
                have c11b0 := eq_true c11
                have c11b1 : decide (0 ≤ x7_2) = true := decide_eq_true c11
                clear c11
                obtain ⟨ji12, hji12⟩ : ∃ j_ : Int, (shr .i64 a1 x7_2) = j_ := ⟨_, rfl⟩
                replace H : (if (Int.tmod (ji12) 2) = 1 then (if 0 ≤ (wrap64 (x7_2 + 1)) then (neonwrightref04_Rank.l0 k2 a0 a1 (wrap64 ((wrap64 ((shl .i64 1 (wrap64 (x7_2 + 1))) - 1)) - x6_2)) (wrap64 (x7_2 + 1))) else (none)) else (neonwrightref04_Rank.l0 k2 a0 a1 x6_2 (wrap64 (x7_2 + 1)))) = some (r1, r2) := by first | (rw [hji12] at H; exact H) | (simp only [hji12] at H ⊢; exact H)
                have hji12_ : (a1 / 2 ^ min x7_2.toNat 64) = ji12 := hji12
                have hji12z : x7_2 ≤ 64 → (a1 / 2 ^ x7_2.toNat) = ji12 := shr_small hji12
                by_cases c13 : (Int.tmod (ji12) 2) = 1
                · rw [if_pos c13] at H
                  have c13b0 : ((Int.tmod (ji12) 2) == 1) = true := beq_iff_eq.mpr c13
                  have c13b1 : ((Int.tmod (ji12) 2) != 1) = false := bne_eq_false_iff_eq.mpr c13
                  clear c13
                  obtain ⟨ji14, hji14⟩ : ∃ j_ : Int, (wrap64 (x7_2 + 1)) = j_ := ⟨_, rfl⟩
                  replace H : (if 0 ≤ (ji14) then (neonwrightref04_Rank.l0 k2 a0 a1 (wrap64 ((wrap64 ((shl .i64 1 (ji14)) - 1)) - x6_2)) ji14) else (none)) = some (r1, r2) := by first | (rw [hji14] at H; exact H) | (simp only [hji14] at H ⊢; exact H)
                  have hji14w : (IntKind.i64.wrap (x7_2 + 1)) = ji14 := (i64_w _).trans hji14
                  by_cases c15 : 0 ≤ (ji14)
                  · rw [if_pos c15] at H
                    have c15b0 := eq_true c15
                    have c15b1 : decide (0 ≤ (ji14)) = true := decide_eq_true c15
                    clear c15
                    obtain ⟨ji16, hji16⟩ : ∃ j_ : Int, (shl .i64 1 (ji14)) = j_ := ⟨_, rfl⟩
                    replace H : (neonwrightref04_Rank.l0 k2 a0 a1 (wrap64 ((wrap64 ((ji16) - 1)) - x6_2)) ji14) = some (r1, r2) := by first | (rw [hji16] at H; exact H) | (simp only [hji16] at H ⊢; exact H)
                    have hji16_ : (IntKind.i64.wrap (1 * 2 ^ min (ji14).toNat 64)) = ji16 := hji16
                    have hji16z : (ji14) ≤ 64 → (IntKind.i64.wrap (1 * 2 ^ (ji14).toNat)) = ji16 := shl_small hji16
                    have hji16u : (IntKind.i64.wrap (2 ^ min (ji14).toNat 64)) = ji16 := by have h_ := hji16_; rw [Int.one_mul] at h_; exact h_
                    have hji16v : (ji14) ≤ 64 → (IntKind.i64.wrap (2 ^ (ji14).toNat)) = ji16 := fun hle_ => by have h_ := hji16z hle_; rw [Int.one_mul] at h_; exact h_
                    have hji16y : (wrap64 (1 * 2 ^ min (ji14).toNat 64)) = ji16 := (i64_w _).symm.trans hji16_
                    have hji16x : (ji14) ≤ 64 → (wrap64 (1 * 2 ^ (ji14).toNat)) = ji16 := fun h_ => (i64_w _).symm.trans (hji16z h_)
                    have H' := Aside0.mk H
                    clear H
                    go_wp2
                    go_roundg k2
                    case measure => have := HJ2.out; have := HK2.out; omega
                    case rel => exact ⟨(wrap64 ((wrap64 ((ji16) - 1)) - x6_2)), (ji14), (by first | rfl | (simp; done) | (simp only [← hji16] <;> (first | rfl | simp)) | (simp [*]; done)), (by first | rfl | (simp; done) | (simp only [← hji14] <;> (first | rfl | simp)) | (simp [*]; done)), H', ⟨by have := HJ2.out; have := HK2.out; omega⟩, by repeat (first | exact Drawn0.refl _ | apply Drawn0.step)⟩
                  · rw [if_neg c15] at H
                    exact absurd H (by simp)
                · rw [if_neg c13] at H
                  have c13b0 : ((Int.tmod (ji12) 2) == 1) = false := beq_eq_false_iff_ne.mpr c13
                  have c13b1 : ((Int.tmod (ji12) 2) != 1) = true := bne_iff_ne.mpr c13
                  have H' := Aside0.mk H
                  clear H
                  go_wp2
                  go_roundg k2
                  case measure => have := HJ2.out; have := HK2.out; omega
                  case rel => exact ⟨(x6_2), (wrap64 (x7_2 + 1)), (by first | rfl | (simp; done) | (simp [*]; done)), (by first | rfl | (simp; done) | (simp [*]; done)), H', ⟨by have := HJ2.out; have := HK2.out; omega⟩, by repeat (first | exact Drawn0.refl _ | apply Drawn0.step)⟩
              · rw [if_neg c11] at H
                exact absurd H (by simp)
            · rw [if_neg c10] at H
              have c10b0 : decide (x7_2 < a0) = false := decide_eq_false c10
              clear c10
              simp only [Option.some.injEq, Prod.mk.injEq] at H
              obtain ⟨rfl, rfl⟩ := H
              go_wp2
              go_ret2
              exact ⟨by first | rfl | (simp; done) | (simp [*]; done), by repeat (first | exact Drawn0.refl _ | apply Drawn0.step)⟩

end Go.Proofs.Ytnakkdaeehglnaa.P

namespace Go.Proofs.Ytnakkdaeehglnaa.P
open Go.RowKit Go.Proofs.YtnakkdaeehglnaaW.PrintWords Go.Proofs.YtnakkdaeehglnaaW.PrintLast Go.Proofs.YtnakkdaeehglnaaW.PrintMore
attribute [local go_sem] max2_int min2_int max_two min_two max_three min_three max_four min_four   -- for this text's walks alone
set_option linter.unusedVariables false
set_option linter.unusedSimpArgs false

/-! ### neonwrightlaw04_one: function 27 -/
def neonwrightlaw04_one.f (a0 : Int) : Option (Bool) := if a0 > 0 then (some ((Go.bits .and .i64 a0 (wrap64 (a0 - 1))) == 0)) else (some false)
set_option maxHeartbeats 8000000 in
set_option maxRecDepth 100000 in
theorem neonwrightlaw04_one.calls (a0 : Int) (r : Bool) (w : World) (h : neonwrightlaw04_one.f a0 = some r) :
    Calls Try.prog 27 #[.int .i64 a0] w fun e w' => e = .returned (.bool r) ∧ Drawn0 w w' := by
  have H : (if a0 > 0 then (some ((Go.bits .and .i64 a0 (wrap64 (a0 - 1))) == 0)) else (some false)) = some r := h
  clear h
  by_cases c2 : a0 > 0
  · rw [if_pos c2] at H
    have c2b0 : decide (0 < a0) = true := decide_eq_true c2
    clear c2
    obtain rfl := Option.some.inj H
    go_enter Try.func27, Try.ntmps27
    go_wp2
    go_ret
    exact ⟨by first | rfl | (simp; done) | (simp [*]; done), by repeat (first | exact Drawn0.refl _ | apply Drawn0.step)⟩
  · rw [if_neg c2] at H
    have c2b0 : decide (0 < a0) = false := decide_eq_false c2
    clear c2
    obtain rfl := Option.some.inj H
    go_enter Try.func27, Try.ntmps27
    go_wp2
    go_ret
    exact ⟨by first | rfl | (simp; done) | (simp [*]; done), by repeat (first | exact Drawn0.refl _ | apply Drawn0.step)⟩

end Go.Proofs.Ytnakkdaeehglnaa.P
