/- Several texts of this session in one file, in build order: Pf25, Pf27, Pf7, Pf24, Pf26, GrayN, FGray. -/
import Derived.Test.YtnakkdaeehglnaaJB1
import Derived.Test.YtnakkdaeehglnaaJB2
import Derived.Laws.BitsLemmas
import Derived.Lib.BitFns
namespace Go.Proofs.Ytnakkdaeehglnaa.P
open Go.RowKit Go.Proofs.YtnakkdaeehglnaaW.PrintWords Go.Proofs.YtnakkdaeehglnaaW.PrintLast Go.Proofs.YtnakkdaeehglnaaW.PrintMore
attribute [local go_sem] max2_int min2_int max_two min_two max_three min_three max_four min_four   -- for this text's walks alone
set_option linter.unusedVariables false
set_option linter.unusedSimpArgs false

/-! ### flash_Rank: function 25 -/
mutual
def flash_Rank.j0 : Nat → Int → Bool → Option (Int × Int)
  | 0, _, _ => none
  | k + 1, x1, x19 => if x19 = true then (some (0, 2)) else (flash_Rank.l0 k x1 0)
def flash_Rank.l0 : Nat → Int → Int → Option (Int × Int)
  | 0, _, _ => none
  | k + 1, x1, x6 => if x1 > 0 then (flash_Rank.l0 k (wrap64 (Int.tdiv x1 2)) (Go.bits .xor .i64 x6 x1)) else (some (x6, 0))
end
def flash_Rank.f (k : Nat) (a0 : Int) (a1 : Int) : Option (Int × Int) := (flash_sized.f a0).bind fun t209 => (if t209 = true then (if a1 < 0 then (flash_Rank.j0 k a1 true) else (if 0 ≤ a0 then (flash_Rank.j0 k a1 (decide (a1 ≥ (shl .i64 1 a0)))) else (none))) else (flash_Rank.j0 k a1 true))
theorem flash_Rank.mono_l : ∀ k, (∀ y0 y1, LeO (flash_Rank.j0 k y0 y1) (flash_Rank.j0 (k + 1) y0 y1)) ∧ (∀ y0 y1, LeO (flash_Rank.l0 k y0 y1) (flash_Rank.l0 (k + 1) y0 y1))
  | 0 => ⟨fun _ _ r h => by simp [flash_Rank.j0] at h, fun _ _ r h => by simp [flash_Rank.l0] at h⟩
  | k + 1 => by
    obtain ⟨ih0, ih1⟩ := flash_Rank.mono_l k
    refine ⟨?_, ?_⟩
    · intro y0 y1
      unfold flash_Rank.j0
      repeat' first
      | (with_reducible exact ih0 _ _)
      | (with_reducible exact ih1 _ _)
      | (with_reducible exact LeO.refl _)
      | (with_reducible exact LeO.none _)
      | (with_reducible refine LeO.ite ?_ ?_)
      | (with_reducible refine LeO.bind ?_ (fun _ => ?_))
      | exact ih0 _ _
      | exact ih1 _ _
      | exact LeO.none _
      | refine LeO.ite ?_ ?_
      | refine LeO.bind ?_ (fun _ => ?_)
    · intro y0 y1
      unfold flash_Rank.l0
      repeat' first
      | (with_reducible exact ih0 _ _)
      | (with_reducible exact ih1 _ _)
      | (with_reducible exact LeO.refl _)
      | (with_reducible exact LeO.none _)
      | (with_reducible refine LeO.ite ?_ ?_)
      | (with_reducible refine LeO.bind ?_ (fun _ => ?_))
      | exact ih0 _ _
      | exact ih1 _ _
      | exact LeO.none _
      | refine LeO.ite ?_ ?_
      | refine LeO.bind ?_ (fun _ => ?_)
theorem flash_Rank.mono : ∀ a0 a1 k, LeO (flash_Rank.f k a0 a1) (flash_Rank.f (k + 1) a0 a1) := by
  intro a0 a1 k
  obtain ⟨ih0, ih1⟩ := flash_Rank.mono_l k
  unfold flash_Rank.f
  repeat' first
      | (with_reducible exact ih0 _ _)
      | (with_reducible exact ih1 _ _)
      | (with_reducible exact LeO.refl _)
      | (with_reducible exact LeO.none _)
      | (with_reducible refine LeO.ite ?_ ?_)
      | (with_reducible refine LeO.bind ?_ (fun _ => ?_))
      | exact ih0 _ _
      | exact ih1 _ _
      | exact LeO.none _
      | refine LeO.ite ?_ ?_
      | refine LeO.bind ?_ (fun _ => ?_)
set_option maxHeartbeats 8000000 in
set_option maxRecDepth 100000 in
theorem flash_Rank.calls (k : Nat) (a0 : Int) (a1 : Int) (r1 : Int) (r2 : Int) (w : World) (h : flash_Rank.f k a0 a1 = some (r1, r2)) :
    Calls Try.prog 25 #[.int .i64 a0, .int .i64 a1] w fun e w' => e = .returned (.tuple #[.int .i64 r1, .int .i64 r2]) ∧ Drawn0 w w' := by
  have H : ((flash_sized.f a0).bind fun t209 => (if t209 = true then (if a1 < 0 then (flash_Rank.j0 k a1 true) else (if 0 ≤ a0 then (flash_Rank.j0 k a1 (decide (a1 ≥ (shl .i64 1 a0)))) else (none))) else (flash_Rank.j0 k a1 true))) = some (r1, r2) := h
  clear h
  have HC3 := Aside0.mk H
  clear H
  go_enter Try.func25, Try.ntmps25
  go_upto_region 1 with (fail)
  go_cut [19] (fun v19 wc => ∃ (kq : Nat) (x19_2 : Bool), v19 = .bool x19_2 ∧ Aside0 (flash_Rank.j0 kq a1 x19_2 = some (r1, r2)) ∧ Aside0 (kq ≤ k) ∧ Drawn0 w wc)
  case first =>
    have H := HC3.out
    clear HC3
    replace H := Option.bind_eq_some_iff.mp H
    obtain ⟨t209, A40, H⟩ := H
    replace H : (if t209 = true then (if a1 < 0 then (flash_Rank.j0 k a1 true) else (if 0 ≤ a0 then (flash_Rank.j0 k a1 (decide (a1 ≥ (shl .i64 1 a0)))) else (none))) else (flash_Rank.j0 k a1 true)) = some (r1, r2) := H
    have A4 := Aside0.mk A40
    clear A40
    by_cases c5 : t209 = true
    · subst c5
      have H1 : (if a1 < 0 then (flash_Rank.j0 k a1 true) else (if 0 ≤ a0 then (flash_Rank.j0 k a1 (decide (a1 ≥ (shl .i64 1 a0)))) else (none))) = some (r1, r2) := by rw [if_pos rfl] at H; exact H
      clear H
      have H := H1
      clear H1
      by_cases c6 : a1 < 0
      · rw [if_pos c6] at H
        have c6b0 : decide (a1 < 0) = true := decide_eq_true c6
        clear c6
        (first | rw [c6b0] | (simp only [i64_w, i32_w]; rw [c6b0]) | skip)
        have H' := Aside0.mk H
        clear H
        go_wp2_with (first | ((with_reducible refine gate_callee (f := 41) rfl ?_); refine goesL_ (some 8) rfl rfl Try.func41 (by kernel_rfl) rfl #[.int .i64 a0] rfl (by (try simp only [List.map_toArray, List.map_cons, List.map_nil]); first | done | rfl | (simp only [List.length_drop, List.length_take]; rfl)) ?_; (with_reducible refine (flash_sized.calls a0 true _ A4.out).mono ?_); rintro e w' ⟨rfl, ⟨nd, rfl⟩⟩; refine ⟨_, rfl, ?_⟩))
        go_meet
        case rel => exact ⟨_, (true), (by first | rfl | (simp; done) | (simp [*]; done)), H', ⟨by first | omega | exact Nat.le_refl _⟩, by repeat (first | exact Drawn0.refl _ | apply Drawn0.step)⟩
      · rw [if_neg c6] at H
        have c6b0 : decide (a1 < 0) = false := decide_eq_false c6
        clear c6
        (first | rw [c6b0] | (simp only [i64_w, i32_w]; rw [c6b0]) | skip)
        by_cases c7 : 0 ≤ a0
        · rw [if_pos c7] at H
          have c7b0 := eq_true c7
          have c7b1 : decide (0 ≤ a0) = true := decide_eq_true c7
          clear c7
          obtain ⟨ji8, hji8⟩ : ∃ j_ : Int, (shl .i64 1 a0) = j_ := ⟨_, rfl⟩
          replace H : (flash_Rank.j0 k a1 (decide (a1 ≥ (ji8)))) = some (r1, r2) := by first | (rw [hji8] at H; exact H) | (simp only [hji8] at H ⊢; exact H)
          (try rw [hji8] at A4)
          have hji8_ : (IntKind.i64.wrap (1 * 2 ^ min a0.toNat 64)) = ji8 := hji8
          have hji8z : a0 ≤ 64 → (IntKind.i64.wrap (1 * 2 ^ a0.toNat)) = ji8 := shl_small hji8
          have hji8u : (IntKind.i64.wrap (2 ^ min a0.toNat 64)) = ji8 := by have h_ := hji8_; rw [Int.one_mul] at h_; exact h_
          have hji8v : a0 ≤ 64 → (IntKind.i64.wrap (2 ^ a0.toNat)) = ji8 := fun hle_ => by have h_ := hji8z hle_; rw [Int.one_mul] at h_; exact h_
          have hji8y : (wrap64 (1 * 2 ^ min a0.toNat 64)) = ji8 := (i64_w _).symm.trans hji8_
          have hji8x : a0 ≤ 64 → (wrap64 (1 * 2 ^ a0.toNat)) = ji8 := fun h_ => (i64_w _).symm.trans (hji8z h_)
          have H' := Aside0.mk H
          clear H
          go_wp2_with (first | ((with_reducible refine gate_callee (f := 41) rfl ?_); refine goesL_ (some 8) rfl rfl Try.func41 (by kernel_rfl) rfl #[.int .i64 a0] rfl (by (try simp only [List.map_toArray, List.map_cons, List.map_nil]); first | done | rfl | (simp only [List.length_drop, List.length_take]; rfl)) ?_; (with_reducible refine (flash_sized.calls a0 true _ A4.out).mono ?_); rintro e w' ⟨rfl, ⟨nd, rfl⟩⟩; refine ⟨_, rfl, ?_⟩))
          go_meet
          case rel => exact ⟨_, (decide (a1 ≥ (ji8))), (by first | rfl | (simp; done) | (simp only [← hji8] <;> (first | rfl | simp)) | (simp [*]; done)), H', ⟨by first | omega | exact Nat.le_refl _⟩, by repeat (first | exact Drawn0.refl _ | apply Drawn0.step)⟩
        · rw [if_neg c7] at H
          exact absurd H (by simp)
    · replace c5 := Bool.eq_false_iff.mpr c5
      subst c5
      have H1 : (flash_Rank.j0 k a1 true) = some (r1, r2) := by rw [if_neg (show ¬ (false = true) by decide)] at H; exact H
      clear H
      have H := H1
      clear H1
      have H' := Aside0.mk H
      clear H
      go_wp2_with (first | ((with_reducible refine gate_callee (f := 41) rfl ?_); refine goesL_ (some 8) rfl rfl Try.func41 (by kernel_rfl) rfl #[.int .i64 a0] rfl (by (try simp only [List.map_toArray, List.map_cons, List.map_nil]); first | done | rfl | (simp only [List.length_drop, List.length_take]; rfl)) ?_; (with_reducible refine (flash_sized.calls a0 false _ A4.out).mono ?_); rintro e w' ⟨rfl, ⟨nd, rfl⟩⟩; refine ⟨_, rfl, ?_⟩))
      go_meet
      case rel => exact ⟨_, (true), (by first | rfl | (simp; done) | (simp [*]; done)), H', ⟨by first | omega | exact Nat.le_refl _⟩, by repeat (first | exact Drawn0.refl _ | apply Drawn0.step)⟩
  case rest =>
    clear HC3
    try clear c2
    try clear p2
    try clear c4
    try clear c5
    try clear c6
    try clear c6b0
    try clear p6
    try clear c7
    try clear c7b0
    try clear c7b1
    obtain ⟨kq, x19_2, rfl, HA, HJ2, ⟨mc2, rfl⟩⟩ := hcut
    cases kq with
    | zero => exact absurd HA.out (by simp [flash_Rank.j0])
    | succ kj2 =>
      have H := HA.out
      clear HA
      simp only [flash_Rank.j0] at H
      by_cases c9 : x19_2 = true
      · subst c9
        have H1 : (some (0, 2)) = some (r1, r2) := by rw [if_pos rfl] at H; exact H
        clear H
        have H := H1
        clear H1
        simp only [Option.some.injEq, Prod.mk.injEq] at H
        obtain ⟨rfl, rfl⟩ := H
        go_wp2
        go_ret2
        exact ⟨by first | rfl | (simp; done) | (simp [*]; done), by repeat (first | exact Drawn0.refl _ | apply Drawn0.step)⟩
      · replace c9 := Bool.eq_false_iff.mpr c9
        subst c9
        have H1 : (flash_Rank.l0 kj2 a1 0) = some (r1, r2) := by rw [if_neg (show ¬ (false = true) by decide)] at H; exact H
        clear H
        have H := H1
        clear H1
        have H' := Aside0.mk H
        clear H
        go_wp2
        go_loopg [1, 6] kj2 (fun kq v1 v6 w' => ∃ (x1_2 : Int) (x6_2 : Int), v1 = .int .i64 x1_2 ∧ v6 = .int .i64 x6_2 ∧ Aside0 (flash_Rank.l0 kq x1_2 x6_2 = some (r1, r2)) ∧ Aside0 (kq ≤ kj2) ∧ Drawn0 w w')
        case atStart => exact ⟨(a1), (0), (by first | rfl | (simp; done) | (simp [*]; done)), (by first | rfl | (simp; done) | (simp [*]; done)), H', ⟨Nat.le_refl _⟩, by repeat (first | exact Drawn0.refl _ | apply Drawn0.step)⟩
        case round =>
          clear H'
          try clear c2
          try clear p2
          try clear c4
          try clear c5
          try clear c6
          try clear c6b0
          try clear p6
          try clear c7
          try clear c7b0
          try clear c7b1
          try clear c9
          try clear p2
          try clear p6
          obtain ⟨x1_2, x6_2, rfl, rfl, HA, HK2, ⟨m2, rfl⟩⟩ := hrel
          cases gk with
          | zero => exact absurd HA.out (by simp [flash_Rank.l0])
          | succ k2 =>
            have H := HA.out
            clear HA
            simp only [flash_Rank.l0] at H
            by_cases c10 : x1_2 > 0
            · rw [if_pos c10] at H
              have c10b0 : decide (0 < x1_2) = true := decide_eq_true c10
              clear c10
              have H' := Aside0.mk H
              clear H
              go_wp2
              go_roundg k2
              case measure => have := HJ2.out; have := HK2.out; omega
              case rel => exact ⟨(wrap64 (Int.tdiv x1_2 2)), (Go.bits .xor .i64 x6_2 x1_2), (by first | rfl | (simp; done) | (simp [*]; done)), (by first | rfl | (simp; done) | (simp [*]; done)), H', ⟨by have := HJ2.out; have := HK2.out; omega⟩, by repeat (first | exact Drawn0.refl _ | apply Drawn0.step)⟩
            · rw [if_neg c10] at H
              have c10b0 : decide (0 < x1_2) = false := decide_eq_false c10
              clear c10
              simp only [Option.some.injEq, Prod.mk.injEq] at H
              obtain ⟨rfl, rfl⟩ := H
              go_wp2
              go_ret2
              exact ⟨by first | rfl | (simp; done) | (simp [*]; done), by repeat (first | exact Drawn0.refl _ | apply Drawn0.step)⟩

end Go.Proofs.Ytnakkdaeehglnaa.P

namespace Go.Proofs.Ytnakkdaeehglnaa.P
open Go.RowKit Go.Proofs.YtnakkdaeehglnaaW.PrintWords Go.Proofs.YtnakkdaeehglnaaW.PrintLast Go.Proofs.YtnakkdaeehglnaaW.PrintMore
attribute [local go_sem] max2_int min2_int max_two min_two max_three min_three max_four min_four   -- for this text's walks alone
set_option linter.unusedVariables false
set_option linter.unusedSimpArgs false

/-! ### neonwrightlaw04_one: function 27 -/
def neonwrightlaw04_one.f (a0 : Int) : Option (Bool) := if a0 > 0 then (some ((Go.bits .and .i64 a0 (wrap64 (a0 - 1))) == 0)) else (some false)
set_option maxHeartbeats 8000000 in
set_option maxRecDepth 100000 in
theorem neonwrightlaw04_one.calls (a0 : Int) (r : Bool) (w : World) (h : neonwrightlaw04_one.f a0 = some r) :
    Calls Try.prog 27 #[.int .i64 a0] w fun e w' => e = .returned (.bool r) ∧ Drawn0 w w' := by
  have H : (if a0 > 0 then (some ((Go.bits .and .i64 a0 (wrap64 (a0 - 1))) == 0)) else (some false)) = some r := h
  clear h
  by_cases c2 : a0 > 0
  · rw [if_pos c2] at H
    have c2b0 : decide (0 < a0) = true := decide_eq_true c2
    clear c2
    obtain rfl := Option.some.inj H
    go_enter Try.func27, Try.ntmps27
    go_wp2
    go_ret
    exact ⟨by first | rfl | (simp; done) | (simp [*]; done), by repeat (first | exact Drawn0.refl _ | apply Drawn0.step)⟩
  · rw [if_neg c2] at H
    have c2b0 : decide (0 < a0) = false := decide_eq_false c2
    clear c2
    obtain rfl := Option.some.inj H
    go_enter Try.func27, Try.ntmps27
    go_wp2
    go_ret
    exact ⟨by first | rfl | (simp; done) | (simp [*]; done), by repeat (first | exact Drawn0.refl _ | apply Drawn0.step)⟩

end Go.Proofs.Ytnakkdaeehglnaa.P

namespace Go.Proofs.Ytnakkdaeehglnaa.P
open Go.RowKit Go.Proofs.YtnakkdaeehglnaaW.PrintWords Go.Proofs.YtnakkdaeehglnaaW.PrintLast Go.Proofs.YtnakkdaeehglnaaW.PrintMore
attribute [local go_sem] max2_int min2_int max_two min_two max_three min_three max_four min_four   -- for this text's walks alone
set_option linter.unusedVariables false
set_option linter.unusedSimpArgs false

/-! ### neonwrightlaw04_FlashAll: function 7 -/
mutual
def neonwrightlaw04_FlashAll.l0 : Nat → Int → List Bool → Int → Int → Int → Option (Bool)
  | 0, _, _, _, _, _ => none
  | k + 1, x3, x4, x5, x6, x7 => if 0 ≤ x3 then (if x7 < (shl .i64 1 x3) then ((flash_Gray.f x3 x7).bind fun bt226 => ((flash_Rank.f k x3 bt226.1).bind fun bt228 => (if bt226.2 = 0 then (if bt228.2 = 0 then (if bt226.1 < 0 then (neonwrightlaw04_FlashAll.j1 k x3 x4 x6 x7 bt226.1 true) else (if bt226.1 ≥ (shl .i64 1 x3) then (neonwrightlaw04_FlashAll.j1 k x3 x4 x6 x7 bt226.1 true) else (if 0 ≤ bt226.1 then (if bt226.1 < (x4.length : Int) then (if rdOf false x4 bt226.1 = true then (neonwrightlaw04_FlashAll.j1 k x3 x4 x6 x7 bt226.1 true) else (if bt228.1 = x7 then (if bt226.1 = (Go.bits .xor .i64 x7 (wrap64 (Int.tdiv x7 2))) then (if x7 > 0 then ((neonwrightlaw04_one.f (Go.bits .xor .i64 bt226.1 x5)).bind fun t231 => (neonwrightlaw04_FlashAll.j1 k x3 x4 x6 x7 bt226.1 (!t231))) else (neonwrightlaw04_FlashAll.j1 k x3 x4 x6 x7 bt226.1 false)) else (neonwrightlaw04_FlashAll.j1 k x3 x4 x6 x7 bt226.1 true)) else (neonwrightlaw04_FlashAll.j1 k x3 x4 x6 x7 bt226.1 true))) else (none)) else (none)))) else (neonwrightlaw04_FlashAll.j1 k x3 x4 x6 x7 bt226.1 true)) else (neonwrightlaw04_FlashAll.j1 k x3 x4 x6 x7 bt226.1 true)))) else (if x3 < 2 then ((neonwrightlaw04_alive.f k).bind fun t223 => (some t223)) else ((neonwrightlaw04_one.f (Go.bits .xor .i64 x5 x6)).bind fun t224 => (if t224 = true then ((neonwrightlaw04_alive.f k).bind fun t225 => (some t225)) else (some false))))) else (none)
def neonwrightlaw04_FlashAll.j1 : Nat → Int → List Bool → Int → Int → Int → Bool → Option (Bool)
  | 0, _, _, _, _, _, _ => none
  | k + 1, x3, x4, x6, x7, x8, x82 => if x82 = true then (some false) else (if 0 ≤ x8 then (if x8 < (x4.length : Int) then ((some (x4.set (x8 : Int).toNat true : List Bool)).bind fun y232 => (if x7 = 0 then (neonwrightlaw04_FlashAll.l0 k x3 y232 x8 x8 (wrap64 (x7 + 1))) else (neonwrightlaw04_FlashAll.l0 k x3 y232 x8 x6 (wrap64 (x7 + 1))))) else (none)) else (none))
end
def neonwrightlaw04_FlashAll.f (k : Nat) (a0 : Int) : Option (Bool) := if 0 ≤ (wrap64 (1 + (wrap64 (Int.tmod a0 12)))) then (if 0 ≤ (shl .i64 1 (wrap64 (1 + (wrap64 (Int.tmod a0 12))))) then (if (shl .i64 1 (wrap64 (1 + (wrap64 (Int.tmod a0 12)))) : Int).toNat ≤ 281474976710656 then (neonwrightlaw04_FlashAll.l0 k (wrap64 (1 + (wrap64 (Int.tmod a0 12)))) (List.replicate (shl .i64 1 (wrap64 (1 + (wrap64 (Int.tmod a0 12)))) : Int).toNat false) 0 0 0) else (none)) else (none)) else (none)
theorem neonwrightlaw04_FlashAll.mono_l : ∀ k, (∀ y0 y1 y2 y3 y4, LeO (neonwrightlaw04_FlashAll.l0 k y0 y1 y2 y3 y4) (neonwrightlaw04_FlashAll.l0 (k + 1) y0 y1 y2 y3 y4)) ∧ (∀ y0 y1 y2 y3 y4 y5, LeO (neonwrightlaw04_FlashAll.j1 k y0 y1 y2 y3 y4 y5) (neonwrightlaw04_FlashAll.j1 (k + 1) y0 y1 y2 y3 y4 y5))
  | 0 => ⟨fun _ _ _ _ _ r h => by simp [neonwrightlaw04_FlashAll.l0] at h, fun _ _ _ _ _ _ r h => by simp [neonwrightlaw04_FlashAll.j1] at h⟩
  | k + 1 => by
    obtain ⟨ih0, ih1⟩ := neonwrightlaw04_FlashAll.mono_l k
    refine ⟨?_, ?_⟩
    · intro y0 y1 y2 y3 y4
      unfold neonwrightlaw04_FlashAll.l0
      repeat' first
      | (with_reducible exact ih0 _ _ _ _ _)
      | (with_reducible exact ih1 _ _ _ _ _ _)
      | (with_reducible exact flash_Rank.mono _ _ _)
      | (with_reducible exact neonwrightlaw04_alive.mono _)
      | (with_reducible exact LeO.refl _)
      | (with_reducible exact LeO.none _)
      | (with_reducible refine LeO.ite ?_ ?_)
      | (with_reducible refine LeO.bind ?_ (fun _ => ?_))
      | exact ih0 _ _ _ _ _
      | exact ih1 _ _ _ _ _ _
      | exact flash_Rank.mono _ _ _
      | exact neonwrightlaw04_alive.mono _
      | exact LeO.none _
      | refine LeO.ite ?_ ?_
      | refine LeO.bind ?_ (fun _ => ?_)
    · intro y0 y1 y2 y3 y4 y5
      unfold neonwrightlaw04_FlashAll.j1
      repeat' first
      | (with_reducible exact ih0 _ _ _ _ _)
      | (with_reducible exact ih1 _ _ _ _ _ _)
      | (with_reducible exact flash_Rank.mono _ _ _)
      | (with_reducible exact neonwrightlaw04_alive.mono _)
      | (with_reducible exact LeO.refl _)
      | (with_reducible exact LeO.none _)
      | (with_reducible refine LeO.ite ?_ ?_)
      | (with_reducible refine LeO.bind ?_ (fun _ => ?_))
      | exact ih0 _ _ _ _ _
      | exact ih1 _ _ _ _ _ _
      | exact flash_Rank.mono _ _ _
      | exact neonwrightlaw04_alive.mono _
      | exact LeO.none _
      | refine LeO.ite ?_ ?_
      | refine LeO.bind ?_ (fun _ => ?_)
theorem neonwrightlaw04_FlashAll.mono : ∀ a0 k, LeO (neonwrightlaw04_FlashAll.f k a0) (neonwrightlaw04_FlashAll.f (k + 1) a0) := by
  intro a0 k
  obtain ⟨ih0, ih1⟩ := neonwrightlaw04_FlashAll.mono_l k
  unfold neonwrightlaw04_FlashAll.f
  repeat' first
      | (with_reducible exact ih0 _ _ _ _ _)
      | (with_reducible exact ih1 _ _ _ _ _ _)
      | (with_reducible exact flash_Rank.mono _ _ _)
      | (with_reducible exact neonwrightlaw04_alive.mono _)
      | (with_reducible exact LeO.refl _)
      | (with_reducible exact LeO.none _)
      | (with_reducible refine LeO.ite ?_ ?_)
      | (with_reducible refine LeO.bind ?_ (fun _ => ?_))
      | exact ih0 _ _ _ _ _
      | exact ih1 _ _ _ _ _ _
      | exact flash_Rank.mono _ _ _
      | exact neonwrightlaw04_alive.mono _
      | exact LeO.none _
      | refine LeO.ite ?_ ?_
      | refine LeO.bind ?_ (fun _ => ?_)
set_option maxHeartbeats 8000000 in
set_option maxRecDepth 100000 in
theorem neonwrightlaw04_FlashAll.calls (k : Nat) (a0 : Int) (r : Bool) (w : World) (h : neonwrightlaw04_FlashAll.f k a0 = some r) :
    Calls Try.prog 7 #[.int .u8 a0] w fun e w' => e = .returned (.bool r) ∧ Below w.heap.size w w' := by
  have HB := Aside0.mk (Below.refl w.heap.size w)
  have H : (if 0 ≤ (wrap64 (1 + (wrap64 (Int.tmod a0 12)))) then (if 0 ≤ (shl .i64 1 (wrap64 (1 + (wrap64 (Int.tmod a0 12))))) then (if (shl .i64 1 (wrap64 (1 + (wrap64 (Int.tmod a0 12)))) : Int).toNat ≤ 281474976710656 then (neonwrightlaw04_FlashAll.l0 k (wrap64 (1 + (wrap64 (Int.tmod a0 12)))) (List.replicate (shl .i64 1 (wrap64 (1 + (wrap64 (Int.tmod a0 12)))) : Int).toNat false) 0 0 0) else (none)) else (none)) else (none)) = some r := h
  clear h
  obtain ⟨ji2, hji2⟩ : ∃ j_ : Int, (wrap64 (1 + (wrap64 (Int.tmod a0 12)))) = j_ := ⟨_, rfl⟩
  replace H : (if 0 ≤ (ji2) then (if 0 ≤ (shl .i64 1 (ji2)) then (if (shl .i64 1 (ji2) : Int).toNat ≤ 281474976710656 then (neonwrightlaw04_FlashAll.l0 k ji2 (List.replicate (shl .i64 1 (ji2) : Int).toNat false) 0 0 0) else (none)) else (none)) else (none)) = some r := by first | (rw [hji2] at H; exact H) | (simp only [hji2] at H ⊢; exact H)
  have hji2w : (IntKind.i64.wrap (1 + (wrap64 (Int.tmod a0 12)))) = ji2 := (i64_w _).trans hji2
  by_cases c3 : 0 ≤ (ji2)
  · rw [if_pos c3] at H
    have c3b0 := eq_true c3
    have c3b1 : decide (0 ≤ (ji2)) = true := decide_eq_true c3
    clear c3
    obtain ⟨ji4, hji4⟩ : ∃ j_ : Int, (shl .i64 1 (ji2)) = j_ := ⟨_, rfl⟩
    replace H : (if 0 ≤ (ji4) then (if (ji4 : Int).toNat ≤ 281474976710656 then (neonwrightlaw04_FlashAll.l0 k ji2 (List.replicate (ji4 : Int).toNat false) 0 0 0) else (none)) else (none)) = some r := by first | (rw [hji4] at H; exact H) | (simp only [hji4] at H ⊢; exact H)
    have hji4_ : (IntKind.i64.wrap (1 * 2 ^ min (ji2).toNat 64)) = ji4 := hji4
    have hji4z : (ji2) ≤ 64 → (IntKind.i64.wrap (1 * 2 ^ (ji2).toNat)) = ji4 := shl_small hji4
    have hji4u : (IntKind.i64.wrap (2 ^ min (ji2).toNat 64)) = ji4 := by have h_ := hji4_; rw [Int.one_mul] at h_; exact h_
    have hji4v : (ji2) ≤ 64 → (IntKind.i64.wrap (2 ^ (ji2).toNat)) = ji4 := fun hle_ => by have h_ := hji4z hle_; rw [Int.one_mul] at h_; exact h_
    have hji4y : (wrap64 (1 * 2 ^ min (ji2).toNat 64)) = ji4 := (i64_w _).symm.trans hji4_
    have hji4x : (ji2) ≤ 64 → (wrap64 (1 * 2 ^ (ji2).toNat)) = ji4 := fun h_ => (i64_w _).symm.trans (hji4z h_)
    by_cases c5 : 0 ≤ (ji4)
    · rw [if_pos c5] at H
      have c5b0 := eq_true c5
      have c5b1 : decide (0 ≤ (ji4)) = true := decide_eq_true c5
      clear c5
      by_cases c6 : (ji4 : Int).toNat ≤ 281474976710656
      · rw [if_pos c6] at H
        have c6b0 := eq_true c6
        have c6b1 : decide ((ji4 : Int).toNat ≤ 281474976710656) = true := decide_eq_true c6
        clear c6
        obtain ⟨y220, hy220⟩ : ∃ y_ : List Bool, y_ = (List.replicate (ji4 : Int).toNat false) := ⟨_, rfl⟩
        replace H : (neonwrightlaw04_FlashAll.l0 k ji2 y220 0 0 0) = some r := by first | (rw [hy220]; with_reducible exact H) | (have H2_ := (Option.bind_some _ _).symm.trans H; rw [hy220]; with_reducible exact H2_) | (have H2_ := (Option.bind_some _ _).symm.trans H; with_reducible exact H2_) | with_reducible exact H | (rw [hy220]; exact H) | exact H
        have Ny220 := Aside0.mk hy220
        clear hy220
        have H' := Aside0.mk H
        clear H
        go_enter Try.func7, Try.ntmps7
        go_wp2_with (first | ((with_reducible refine gate_dst (N := 18) rfl ?_); refine Kd.R_make Kd.bool _ 4 rfl (N := 18) rfl 38 _ _ rfl ji4 rfl rfl Try.underlying38 (.bool false) 1 info4 rfl (by decide) (by omega) false (ok := fun _ => True) (okp := fun _ => True) rfl (fun _ hk => hk) trivial (of_decide_eq_true (by first | (with_reducible assumption) | assumption)) (Nat.le_trans (Nat.mul_le_mul_right _ (of_decide_eq_true (by first | (with_reducible assumption) | assumption) : ji4.toNat ≤ 281474976710656)) (by omega)) (Below.refl _ _) (Nat.le_refl _) ?_; intro v221 w7 ho8 hb hg_ hnew_; clear hg_ hnew_; (first | rw [← Ny220.out] at ho8 | (simp only [Int.reduceToNat] at ho8; rw [← Ny220.out] at ho8)); have n0_ := Aside0.mk (Kd.R_lower ho8 (below_size (by repeat (first | (with_reducible first | exact HB.out | apply below_alloc | apply pw_below_drewN | apply below_drew1) | exact HB.out)))); have n1_ := Aside0.mk (below_step (by repeat (first | (with_reducible first | exact HB.out | apply below_alloc | apply pw_below_drewN | apply below_drew1) | exact HB.out)) hb); clear HB; have HO222 := n0_; have HB := n1_; clear n0_ n1_; clear hb ho8))
        go_loopg [5, 6, 7] k (fun kq v5 v6 v7 w' => ∃ (x4_1 : List Bool) (x5_1 : Int) (x6_1 : Int) (x7_1 : Int), v5 = .int .i64 x5_1 ∧ v6 = .int .i64 x6_1 ∧ v7 = .int .i64 x7_1 ∧ Aside0 (neonwrightlaw04_FlashAll.l0 kq ji2 x4_1 x5_1 x6_1 x7_1 = some r) ∧ Aside0 (kq ≤ k) ∧ Aside0 (Kd.R Kd.bool 4 w' w.heap.size (fun _ => True) v221 x4_1) ∧ Aside0 (Below w.heap.size w w'))
        case atStart => exact ⟨(y220), (0), (0), (0), (by first | rfl | (simp; done) | (simp [*]; done)), (by first | rfl | (simp; done) | (simp [*]; done)), (by first | rfl | (simp; done) | (simp [*]; done)), H', ⟨Nat.le_refl _⟩, ⟨by (with_reducible repeat (first | apply Kd.R_alloc | apply Kd.R_drewN | apply Kd.R_drew)); first | exact HO222.out | exact Kd.R_mono HO222.out (fun k_ h_ => ne_own_len h_)⟩, ⟨by repeat (first | (with_reducible first | exact HB.out | apply below_alloc | apply pw_below_drewN | apply below_drew1) | exact HB.out)⟩⟩
        case round =>
          clear H'
          try clear p2
          try clear c3
          try clear c3b0
          try clear c3b1
          try clear c5
          try clear c5b0
          try clear c5b1
          try clear c6
          try clear c6b0
          try clear c6b1
          try clear p6
          try clear c7
          obtain ⟨x4_1, x5_1, x6_1, x7_1, rfl, rfl, rfl, HA, HK1, HO_4, HB⟩ := hrel
          cases gk with
          | zero => exact absurd HA.out (by simp [neonwrightlaw04_FlashAll.l0])
          | succ k1 =>
            have H := HA.out
            clear HA
            simp only [neonwrightlaw04_FlashAll.l0] at H
            by_cases c9 : 0 ≤ ji2
            · rw [if_pos c9] at H
              have c9b0 := eq_true c9
              have c9b1 : decide (0 ≤ ji2) = true := decide_eq_true c9
              clear c9
              obtain ⟨ji10, hji10⟩ : ∃ j_ : Int, (shl .i64 1 ji2) = j_ := ⟨_, rfl⟩
              replace H : (if x7_1 < (ji10) then ((flash_Gray.f ji2 x7_1).bind fun bt226 => ((flash_Rank.f k1 ji2 bt226.1).bind fun bt228 => (if bt226.2 = 0 then (if bt228.2 = 0 then (if bt226.1 < 0 then (neonwrightlaw04_FlashAll.j1 k1 ji2 x4_1 x6_1 x7_1 bt226.1 true) else (if bt226.1 ≥ (ji10) then (neonwrightlaw04_FlashAll.j1 k1 ji2 x4_1 x6_1 x7_1 bt226.1 true) else (if 0 ≤ bt226.1 then (if bt226.1 < (x4_1.length : Int) then (if rdOf false x4_1 bt226.1 = true then (neonwrightlaw04_FlashAll.j1 k1 ji2 x4_1 x6_1 x7_1 bt226.1 true) else (if bt228.1 = x7_1 then (if bt226.1 = (Go.bits .xor .i64 x7_1 (wrap64 (Int.tdiv x7_1 2))) then (if x7_1 > 0 then ((neonwrightlaw04_one.f (Go.bits .xor .i64 bt226.1 x5_1)).bind fun t231 => (neonwrightlaw04_FlashAll.j1 k1 ji2 x4_1 x6_1 x7_1 bt226.1 (!t231))) else (neonwrightlaw04_FlashAll.j1 k1 ji2 x4_1 x6_1 x7_1 bt226.1 false)) else (neonwrightlaw04_FlashAll.j1 k1 ji2 x4_1 x6_1 x7_1 bt226.1 true)) else (neonwrightlaw04_FlashAll.j1 k1 ji2 x4_1 x6_1 x7_1 bt226.1 true))) else (none)) else (none)))) else (neonwrightlaw04_FlashAll.j1 k1 ji2 x4_1 x6_1 x7_1 bt226.1 true)) else (neonwrightlaw04_FlashAll.j1 k1 ji2 x4_1 x6_1 x7_1 bt226.1 true)))) else (if ji2 < 2 then ((neonwrightlaw04_alive.f k1).bind fun t223 => (some t223)) else ((neonwrightlaw04_one.f (Go.bits .xor .i64 x5_1 x6_1)).bind fun t224 => (if t224 = true then ((neonwrightlaw04_alive.f k1).bind fun t225 => (some t225)) else (some false))))) = some r := by first | (rw [hji10] at H; exact H) | (simp only [hji10] at H ⊢; exact H)
              have hji10_ : (IntKind.i64.wrap (1 * 2 ^ min ji2.toNat 64)) = ji10 := hji10
              have hji10z : ji2 ≤ 64 → (IntKind.i64.wrap (1 * 2 ^ ji2.toNat)) = ji10 := shl_small hji10
              have hji10u : (IntKind.i64.wrap (2 ^ min ji2.toNat 64)) = ji10 := by have h_ := hji10_; rw [Int.one_mul] at h_; exact h_
              have hji10v : ji2 ≤ 64 → (IntKind.i64.wrap (2 ^ ji2.toNat)) = ji10 := fun hle_ => by have h_ := hji10z hle_; rw [Int.one_mul] at h_; exact h_
              have hji10y : (wrap64 (1 * 2 ^ min ji2.toNat 64)) = ji10 := (i64_w _).symm.trans hji10_
              have hji10x : ji2 ≤ 64 → (wrap64 (1 * 2 ^ ji2.toNat)) = ji10 := fun h_ => (i64_w _).symm.trans (hji10z h_)
              by_cases c11 : x7_1 < (ji10)
              · rw [if_pos c11] at H
                have c11b0 : decide (x7_1 < (ji10)) = true := decide_eq_true c11
                (try (have c11b0n : ¬ (ji4 = 0) := fun h_ => c11 (by rw [← hji4.symm.trans hji10]; exact h_)))
                (try (have c11b0j : decide (x7_1 < (ji4)) = true := by rw [hji4.symm.trans hji10]; exact c11b0))
                clear c11
                replace H := Option.bind_eq_some_iff.mp H
                obtain ⟨⟨t226, t227⟩, A120, H⟩ := H
                replace H : ((flash_Rank.f k1 ji2 t226).bind fun bt228 => (if t227 = 0 then (if bt228.2 = 0 then (if t226 < 0 then (neonwrightlaw04_FlashAll.j1 k1 ji2 x4_1 x6_1 x7_1 t226 true) else (if t226 ≥ (ji10) then (neonwrightlaw04_FlashAll.j1 k1 ji2 x4_1 x6_1 x7_1 t226 true) else (if 0 ≤ t226 then (if t226 < (x4_1.length : Int) then (if rdOf false x4_1 t226 = true then (neonwrightlaw04_FlashAll.j1 k1 ji2 x4_1 x6_1 x7_1 t226 true) else (if bt228.1 = x7_1 then (if t226 = (Go.bits .xor .i64 x7_1 (wrap64 (Int.tdiv x7_1 2))) then (if x7_1 > 0 then ((neonwrightlaw04_one.f (Go.bits .xor .i64 t226 x5_1)).bind fun t231 => (neonwrightlaw04_FlashAll.j1 k1 ji2 x4_1 x6_1 x7_1 t226 (!t231))) else (neonwrightlaw04_FlashAll.j1 k1 ji2 x4_1 x6_1 x7_1 t226 false)) else (neonwrightlaw04_FlashAll.j1 k1 ji2 x4_1 x6_1 x7_1 t226 true)) else (neonwrightlaw04_FlashAll.j1 k1 ji2 x4_1 x6_1 x7_1 t226 true))) else (none)) else (none)))) else (neonwrightlaw04_FlashAll.j1 k1 ji2 x4_1 x6_1 x7_1 t226 true)) else (neonwrightlaw04_FlashAll.j1 k1 ji2 x4_1 x6_1 x7_1 t226 true))) = some r := H
                have A12 := Aside0.mk A120
                clear A120
                replace H := Option.bind_eq_some_iff.mp H
                obtain ⟨⟨t228, t229⟩, A130, H⟩ := H
                replace H : (if t227 = 0 then (if t229 = 0 then (if t226 < 0 then (neonwrightlaw04_FlashAll.j1 k1 ji2 x4_1 x6_1 x7_1 t226 true) else (if t226 ≥ (ji10) then (neonwrightlaw04_FlashAll.j1 k1 ji2 x4_1 x6_1 x7_1 t226 true) else (if 0 ≤ t226 then (if t226 < (x4_1.length : Int) then (if rdOf false x4_1 t226 = true then (neonwrightlaw04_FlashAll.j1 k1 ji2 x4_1 x6_1 x7_1 t226 true) else (if t228 = x7_1 then (if t226 = (Go.bits .xor .i64 x7_1 (wrap64 (Int.tdiv x7_1 2))) then (if x7_1 > 0 then ((neonwrightlaw04_one.f (Go.bits .xor .i64 t226 x5_1)).bind fun t231 => (neonwrightlaw04_FlashAll.j1 k1 ji2 x4_1 x6_1 x7_1 t226 (!t231))) else (neonwrightlaw04_FlashAll.j1 k1 ji2 x4_1 x6_1 x7_1 t226 false)) else (neonwrightlaw04_FlashAll.j1 k1 ji2 x4_1 x6_1 x7_1 t226 true)) else (neonwrightlaw04_FlashAll.j1 k1 ji2 x4_1 x6_1 x7_1 t226 true))) else (none)) else (none)))) else (neonwrightlaw04_FlashAll.j1 k1 ji2 x4_1 x6_1 x7_1 t226 true)) else (neonwrightlaw04_FlashAll.j1 k1 ji2 x4_1 x6_1 x7_1 t226 true)) = some r := H
                have A13 := Aside0.mk A130
                clear A130
                have HC14 := Aside0.mk H
                clear H
                go_upto_region 9 with (first | ((with_reducible refine gate_callee (f := 23) rfl ?_); refine goesL_ (some 28) rfl rfl Try.func23 (by kernel_rfl) rfl #[.int .i64 ji2, .int .i64 x7_1] rfl (by (try simp only [List.map_toArray, List.map_cons, List.map_nil]); first | done | (simp only [hji2]; rfl) | rfl | (simp only [List.length_drop, List.length_take]; rfl)) ?_; (with_reducible refine (flash_Gray.calls ji2 x7_1 t226 t227 _ A12.out).mono ?_); rintro e w' ⟨rfl, ⟨nd, rfl⟩⟩; refine ⟨_, rfl, ?_⟩) | ((with_reducible refine gate_callee (f := 25) rfl ?_); refine goesL_ (some 34) rfl rfl Try.func25 (by kernel_rfl) rfl #[.int .i64 ji2, .int .i64 t226] rfl (by (try simp only [List.map_toArray, List.map_cons, List.map_nil]); first | done | (simp only [hji2]; rfl) | rfl | (simp only [List.length_drop, List.length_take]; rfl)) ?_; (with_reducible refine (flash_Rank.calls k1 ji2 t226 t228 t229 _ A13.out).mono ?_); rintro e w' ⟨rfl, ⟨nd, rfl⟩⟩; refine ⟨_, rfl, ?_⟩))
                (try simp only [Act.put, List.setIfInBounds_toArray, List.set_cons_zero, List.set_cons_succ])
                go_cut [82] (fun v82 wc => ∃ (kq : Nat) (x82_13 : Bool), v82 = .bool x82_13 ∧ Aside0 (neonwrightlaw04_FlashAll.j1 kq ji2 x4_1 x6_1 x7_1 t226 x82_13 = some r) ∧ Aside0 (kq ≤ k1) ∧ Aside0 (Kd.R Kd.bool 4 wc w.heap.size (fun _ => True) v221 x4_1) ∧ Aside0 (Below w.heap.size w wc))
                case first =>
                  have H := HC14.out
                  clear HC14
                  by_cases c15 : t227 = 0
                  · rw [if_pos c15] at H
                    have c15b0 : (t227 == 0) = true := beq_iff_eq.mpr c15
                    have c15b1 : (t227 != 0) = false := bne_eq_false_iff_eq.mpr c15
                    clear c15
                    (first | rw [c15b0] | (simp only [i64_w, i32_w]; rw [c15b0]) | skip)
                    by_cases c16 : t229 = 0
                    · rw [if_pos c16] at H
                      have c16b0 : (t229 == 0) = true := beq_iff_eq.mpr c16
                      have c16b1 : (t229 != 0) = false := bne_eq_false_iff_eq.mpr c16
                      clear c16
                      by_cases c17 : t226 < 0
                      · rw [if_pos c17] at H
                        have c17b0 : decide (t226 < 0) = true := decide_eq_true c17
                        clear c17
                        have H' := Aside0.mk H
                        clear H
                        go_wp2
                        go_meet
                        case rel => exact ⟨_, (true), (by first | rfl | (simp; done) | (simp [*]; done)), H', ⟨by have := HK1.out; first | omega | exact Nat.le_refl _⟩, ⟨by (with_reducible repeat (first | apply Kd.R_alloc | apply Kd.R_drewN | apply Kd.R_drew)); first | exact HO_4.out | exact Kd.R_mono HO_4.out (fun k_ h_ => ne_own_len h_)⟩, ⟨by repeat (first | (with_reducible first | exact HB.out | apply below_alloc | apply pw_below_drewN | apply below_drew1) | exact HB.out)⟩⟩
                      · rw [if_neg c17] at H
                        have c17b0 : decide (t226 < 0) = false := decide_eq_false c17
                        clear c17
                        have c18b0 := eq_true (of_decide_eq_true (by first | (with_reducible assumption) | assumption) : 0 ≤ ji2)
                        by_cases c20 : t226 ≥ (ji10)
                        · rw [if_pos c20] at H
                          have c20b0 : decide ((ji10) ≤ t226) = true := decide_eq_true c20
                          (try (have c20b0n : ¬ (ji4 = 0) := fun h_ => c20 (by rw [← hji4.symm.trans hji10]; exact h_)))
                          (try (have c20b0j : decide ((ji4) ≤ t226) = true := by rw [hji4.symm.trans hji10]; exact c20b0))
                          clear c20
                          have H' := Aside0.mk H
                          clear H
                          go_wp2
                          go_meet
                          case rel => exact ⟨_, (true), (by first | rfl | (simp; done) | (simp [*]; done)), H', ⟨by have := HK1.out; first | omega | exact Nat.le_refl _⟩, ⟨by (with_reducible repeat (first | apply Kd.R_alloc | apply Kd.R_drewN | apply Kd.R_drew)); first | exact HO_4.out | exact Kd.R_mono HO_4.out (fun k_ h_ => ne_own_len h_)⟩, ⟨by repeat (first | (with_reducible first | exact HB.out | apply below_alloc | apply pw_below_drewN | apply below_drew1) | exact HB.out)⟩⟩
                        · rw [if_neg c20] at H
                          have c20b0 : decide ((ji10) ≤ t226) = false := decide_eq_false c20
                          (try (have c20b0n : ¬ (ji4 = 0) := fun h_ => c20 (by rw [← hji4.symm.trans hji10]; exact h_)))
                          (try (have c20b0j : decide ((ji4) ≤ t226) = false := by rw [hji4.symm.trans hji10]; exact c20b0))
                          clear c20
                          by_cases c21 : 0 ≤ t226
                          · rw [if_pos c21] at H
                            have c21b0 : decide (0 ≤ t226) = true := decide_eq_true c21
                            clear c21
                            by_cases c22 : t226 < (x4_1.length : Int)
                            · rw [if_pos c22] at H
                              have c22b0 : decide (t226 < (x4_1.length : Int)) = true := decide_eq_true c22
                              clear c22
                              obtain ⟨bq23, hbq23⟩ : ∃ b_ : Bool, b_ = (rdOf false x4_1 t226) := ⟨_, rfl⟩
                              replace H : (if bq23 = true then (neonwrightlaw04_FlashAll.j1 k1 ji2 x4_1 x6_1 x7_1 t226 true) else (if t228 = x7_1 then (if t226 = (Go.bits .xor .i64 x7_1 (wrap64 (Int.tdiv x7_1 2))) then (if x7_1 > 0 then ((neonwrightlaw04_one.f (Go.bits .xor .i64 t226 x5_1)).bind fun t231 => (neonwrightlaw04_FlashAll.j1 k1 ji2 x4_1 x6_1 x7_1 t226 (!t231))) else (neonwrightlaw04_FlashAll.j1 k1 ji2 x4_1 x6_1 x7_1 t226 false)) else (neonwrightlaw04_FlashAll.j1 k1 ji2 x4_1 x6_1 x7_1 t226 true)) else (neonwrightlaw04_FlashAll.j1 k1 ji2 x4_1 x6_1 x7_1 t226 true))) = some r := by rw [← hbq23] at H; exact H
                              have Nbq23 := Aside0.mk hbq23
                              clear hbq23
                              by_cases c24 : bq23 = true
                              · subst c24
                                have H1 : (neonwrightlaw04_FlashAll.j1 k1 ji2 x4_1 x6_1 x7_1 t226 true) = some r := by rw [if_pos rfl] at H; exact H
                                clear H
                                have H := H1
                                clear H1
                                have H' := Aside0.mk H
                                clear H
                                obtain ⟨Ao25, co25, eo25⟩ := Kd.R_slice HO_4.out
                                subst eo25
                                have p230 : 0 ≤ (t226 : Int) := of_decide_eq_true (by first | (with_reducible assumption) | assumption)
                                have q230 : t226 < (x4_1.length : Int) := of_decide_eq_true (by first | (with_reducible assumption) | assumption)
                                obtain ⟨ad230, e230, hx230_0⟩ := Kd.at_bool (Kd.R_reads' HO_4.out).2.2 t226 p230 q230
                                (try rw [← Nbq23.out] at hx230_0)
                                cases e230
                                replace p230 := eq_true p230
                                replace q230 := eq_true q230
                                go_wp2
                                go_meet
                                case rel => exact ⟨_, (true), (by first | rfl | (simp; done) | (simp [*]; done)), H', ⟨by have := HK1.out; first | omega | exact Nat.le_refl _⟩, ⟨by (with_reducible repeat (first | apply Kd.R_alloc | apply Kd.R_drewN | apply Kd.R_drew)); first | exact HO_4.out | exact Kd.R_mono HO_4.out (fun k_ h_ => ne_own_len h_)⟩, ⟨by repeat (first | (with_reducible first | exact HB.out | apply below_alloc | apply pw_below_drewN | apply below_drew1) | exact HB.out)⟩⟩
                              · replace c24 := Bool.eq_false_iff.mpr c24
                                subst c24
                                have H1 : (if t228 = x7_1 then (if t226 = (Go.bits .xor .i64 x7_1 (wrap64 (Int.tdiv x7_1 2))) then (if x7_1 > 0 then ((neonwrightlaw04_one.f (Go.bits .xor .i64 t226 x5_1)).bind fun t231 => (neonwrightlaw04_FlashAll.j1 k1 ji2 x4_1 x6_1 x7_1 t226 (!t231))) else (neonwrightlaw04_FlashAll.j1 k1 ji2 x4_1 x6_1 x7_1 t226 false)) else (neonwrightlaw04_FlashAll.j1 k1 ji2 x4_1 x6_1 x7_1 t226 true)) else (neonwrightlaw04_FlashAll.j1 k1 ji2 x4_1 x6_1 x7_1 t226 true)) = some r := by rw [if_neg (show ¬ (false = true) by decide)] at H; exact H
                                clear H
                                have H := H1
                                clear H1
                                by_cases c26 : t228 = x7_1
                                · rw [if_pos c26] at H
                                  have c26b0 : (t228 == x7_1) = true := beq_iff_eq.mpr c26
                                  have c26b1 : (t228 != x7_1) = false := bne_eq_false_iff_eq.mpr c26
                                  clear c26
                                  by_cases c27 : t226 = (Go.bits .xor .i64 x7_1 (wrap64 (Int.tdiv x7_1 2)))
                                  · rw [if_pos c27] at H
                                    have c27b0 : (t226 == (Go.bits .xor .i64 x7_1 (wrap64 (Int.tdiv x7_1 2)))) = true := beq_iff_eq.mpr c27
                                    have c27b1 : (t226 != (Go.bits .xor .i64 x7_1 (wrap64 (Int.tdiv x7_1 2)))) = false := bne_eq_false_iff_eq.mpr c27
                                    clear c27
                                    by_cases c28 : x7_1 > 0
                                    · rw [if_pos c28] at H
                                      have c28b0 : decide (0 < x7_1) = true := decide_eq_true c28
                                      clear c28
                                      replace H := Option.bind_eq_some_iff.mp H
                                      obtain ⟨t231, A290, H⟩ := H
                                      replace H : (neonwrightlaw04_FlashAll.j1 k1 ji2 x4_1 x6_1 x7_1 t226 (!t231)) = some r := H
                                      have A29 := Aside0.mk A290
                                      clear A290
                                      have H' := Aside0.mk H
                                      clear H
                                      obtain ⟨Ao30, co30, eo30⟩ := Kd.R_slice HO_4.out
                                      subst eo30
                                      have p230 : 0 ≤ (t226 : Int) := of_decide_eq_true (by first | (with_reducible assumption) | assumption)
                                      have q230 : t226 < (x4_1.length : Int) := of_decide_eq_true (by first | (with_reducible assumption) | assumption)
                                      obtain ⟨ad230, e230, hx230_0⟩ := Kd.at_bool (Kd.R_reads' HO_4.out).2.2 t226 p230 q230
                                      (try rw [← Nbq23.out] at hx230_0)
                                      cases e230
                                      replace p230 := eq_true p230
                                      replace q230 := eq_true q230
                                      go_wp2_with (first | (go_at_call 27; (with_reducible refine (neonwrightlaw04_one.calls (Go.bits .xor .i64 t226 x5_1) t231 _ A29.out).mono ?_); rintro e w' ⟨rfl, ⟨nd, rfl⟩⟩))
                                      go_meet
                                      case rel => exact ⟨_, (!t231), (by first | rfl | (simp; done) | (simp [*]; done)), H', ⟨by have := HK1.out; first | omega | exact Nat.le_refl _⟩, ⟨by (with_reducible repeat (first | apply Kd.R_alloc | apply Kd.R_drewN | apply Kd.R_drew)); first | exact HO_4.out | exact Kd.R_mono HO_4.out (fun k_ h_ => ne_own_len h_)⟩, ⟨by repeat (first | (with_reducible first | exact HB.out | apply below_alloc | apply pw_below_drewN | apply below_drew1) | exact HB.out)⟩⟩
                                    · rw [if_neg c28] at H
                                      have c28b0 : decide (0 < x7_1) = false := decide_eq_false c28
                                      clear c28
                                      have H' := Aside0.mk H
                                      clear H
                                      obtain ⟨Ao31, co31, eo31⟩ := Kd.R_slice HO_4.out
                                      subst eo31
                                      have p230 : 0 ≤ (t226 : Int) := of_decide_eq_true (by first | (with_reducible assumption) | assumption)
                                      have q230 : t226 < (x4_1.length : Int) := of_decide_eq_true (by first | (with_reducible assumption) | assumption)
                                      obtain ⟨ad230, e230, hx230_0⟩ := Kd.at_bool (Kd.R_reads' HO_4.out).2.2 t226 p230 q230
                                      (try rw [← Nbq23.out] at hx230_0)
                                      cases e230
                                      replace p230 := eq_true p230
                                      replace q230 := eq_true q230
                                      go_wp2
                                      go_meet
                                      case rel => exact ⟨_, (false), (by first | rfl | (simp; done) | (simp [*]; done)), H', ⟨by have := HK1.out; first | omega | exact Nat.le_refl _⟩, ⟨by (with_reducible repeat (first | apply Kd.R_alloc | apply Kd.R_drewN | apply Kd.R_drew)); first | exact HO_4.out | exact Kd.R_mono HO_4.out (fun k_ h_ => ne_own_len h_)⟩, ⟨by repeat (first | (with_reducible first | exact HB.out | apply below_alloc | apply pw_below_drewN | apply below_drew1) | exact HB.out)⟩⟩
                                  · rw [if_neg c27] at H
                                    have c27b0 : (t226 == (Go.bits .xor .i64 x7_1 (wrap64 (Int.tdiv x7_1 2)))) = false := beq_eq_false_iff_ne.mpr c27
                                    have c27b1 : (t226 != (Go.bits .xor .i64 x7_1 (wrap64 (Int.tdiv x7_1 2)))) = true := bne_iff_ne.mpr c27
                                    have H' := Aside0.mk H
                                    clear H
                                    obtain ⟨Ao32, co32, eo32⟩ := Kd.R_slice HO_4.out
                                    subst eo32
                                    have p230 : 0 ≤ (t226 : Int) := of_decide_eq_true (by first | (with_reducible assumption) | assumption)
                                    have q230 : t226 < (x4_1.length : Int) := of_decide_eq_true (by first | (with_reducible assumption) | assumption)
                                    obtain ⟨ad230, e230, hx230_0⟩ := Kd.at_bool (Kd.R_reads' HO_4.out).2.2 t226 p230 q230
                                    (try rw [← Nbq23.out] at hx230_0)
                                    cases e230
                                    replace p230 := eq_true p230
                                    replace q230 := eq_true q230
                                    go_wp2
                                    go_meet
                                    case rel => exact ⟨_, (true), (by first | rfl | (simp; done) | (simp [*]; done)), H', ⟨by have := HK1.out; first | omega | exact Nat.le_refl _⟩, ⟨by (with_reducible repeat (first | apply Kd.R_alloc | apply Kd.R_drewN | apply Kd.R_drew)); first | exact HO_4.out | exact Kd.R_mono HO_4.out (fun k_ h_ => ne_own_len h_)⟩, ⟨by repeat (first | (with_reducible first | exact HB.out | apply below_alloc | apply pw_below_drewN | apply below_drew1) | exact HB.out)⟩⟩
                                · rw [if_neg c26] at H
                                  have c26b0 : (t228 == x7_1) = false := beq_eq_false_iff_ne.mpr c26
                                  have c26b1 : (t228 != x7_1) = true := bne_iff_ne.mpr c26
                                  have H' := Aside0.mk H
                                  clear H
                                  obtain ⟨Ao33, co33, eo33⟩ := Kd.R_slice HO_4.out
                                  subst eo33
                                  have p230 : 0 ≤ (t226 : Int) := of_decide_eq_true (by first | (with_reducible assumption) | assumption)
                                  have q230 : t226 < (x4_1.length : Int) := of_decide_eq_true (by first | (with_reducible assumption) | assumption)
                                  obtain ⟨ad230, e230, hx230_0⟩ := Kd.at_bool (Kd.R_reads' HO_4.out).2.2 t226 p230 q230
                                  (try rw [← Nbq23.out] at hx230_0)
                                  cases e230
                                  replace p230 := eq_true p230
                                  replace q230 := eq_true q230
                                  go_wp2
                                  go_meet
                                  case rel => exact ⟨_, (true), (by first | rfl | (simp; done) | (simp [*]; done)), H', ⟨by have := HK1.out; first | omega | exact Nat.le_refl _⟩, ⟨by (with_reducible repeat (first | apply Kd.R_alloc | apply Kd.R_drewN | apply Kd.R_drew)); first | exact HO_4.out | exact Kd.R_mono HO_4.out (fun k_ h_ => ne_own_len h_)⟩, ⟨by repeat (first | (with_reducible first | exact HB.out | apply below_alloc | apply pw_below_drewN | apply below_drew1) | exact HB.out)⟩⟩
                            · rw [if_neg c22] at H
                              exact absurd H (by simp)
                          · rw [if_neg c21] at H
                            exact absurd H (by simp)
                    · rw [if_neg c16] at H
                      have c16b0 : (t229 == 0) = false := beq_eq_false_iff_ne.mpr c16
                      have c16b1 : (t229 != 0) = true := bne_iff_ne.mpr c16
                      have H' := Aside0.mk H
                      clear H
                      go_wp2
                      go_meet
                      case rel => exact ⟨_, (true), (by first | rfl | (simp; done) | (simp [*]; done)), H', ⟨by have := HK1.out; first | omega | exact Nat.le_refl _⟩, ⟨by (with_reducible repeat (first | apply Kd.R_alloc | apply Kd.R_drewN | apply Kd.R_drew)); first | exact HO_4.out | exact Kd.R_mono HO_4.out (fun k_ h_ => ne_own_len h_)⟩, ⟨by repeat (first | (with_reducible first | exact HB.out | apply below_alloc | apply pw_below_drewN | apply below_drew1) | exact HB.out)⟩⟩
                  · rw [if_neg c15] at H
                    have c15b0 : (t227 == 0) = false := beq_eq_false_iff_ne.mpr c15
                    have c15b1 : (t227 != 0) = true := bne_iff_ne.mpr c15
                    (first | rw [c15b0] | (simp only [i64_w, i32_w]; rw [c15b0]) | skip)
                    have H' := Aside0.mk H
                    clear H
                    go_wp2
                    go_meet
                    case rel => exact ⟨_, (true), (by first | rfl | (simp; done) | (simp [*]; done)), H', ⟨by have := HK1.out; first | omega | exact Nat.le_refl _⟩, ⟨by (with_reducible repeat (first | apply Kd.R_alloc | apply Kd.R_drewN | apply Kd.R_drew)); first | exact HO_4.out | exact Kd.R_mono HO_4.out (fun k_ h_ => ne_own_len h_)⟩, ⟨by repeat (first | (with_reducible first | exact HB.out | apply below_alloc | apply pw_below_drewN | apply below_drew1) | exact HB.out)⟩⟩
                case rest =>
                  clear HC14
                  try clear c1
                  try clear c2
                  try clear p2
                  try clear q2
                  try clear hx2
                  try clear c3
                  try clear c3b0
                  try clear c3b1
                  try clear c5
                  try clear c5b0
                  try clear c5b1
                  try clear c6
                  try clear c6b0
                  try clear c6b1
                  try clear p6
                  try clear c7
                  try clear c9
                  try clear c9b0
                  try clear c9b1
                  try clear c11
                  try clear c11b0
                  try clear c15
                  try clear c15b0
                  try clear c15b1
                  try clear c16
                  try clear c16b0
                  try clear c16b1
                  try clear c17
                  try clear c17b0
                  try clear c18
                  try clear c18b0
                  try clear c19
                  try clear c19b0
                  try clear c20
                  try clear c20b0
                  try clear c21
                  try clear c21b0
                  try clear c22
                  try clear c22b0
                  try clear c23
                  try clear p23
                  try clear q23
                  try clear hx23
                  try clear c24
                  try clear c25
                  try clear c26
                  try clear c26b0
                  try clear c26b1
                  try clear c27
                  try clear c27b0
                  try clear c27b1
                  try clear c28
                  try clear c28b0
                  try clear hx230_0
                  try clear p2
                  try clear p230
                  try clear p6
                  try clear q230
                  obtain ⟨kq, x82_13, rfl, HA, HJ13, HO_4, HB⟩ := hcut
                  cases kq with
                  | zero => exact absurd HA.out (by simp [neonwrightlaw04_FlashAll.j1])
                  | succ kj13 =>
                    have H := HA.out
                    clear HA
                    simp only [neonwrightlaw04_FlashAll.j1] at H
                    by_cases c34 : x82_13 = true
                    · subst c34
                      have H1 : (some false) = some r := by rw [if_pos rfl] at H; exact H
                      clear H
                      have H := H1
                      clear H1
                      obtain rfl := Option.some.inj H
                      go_wp2
                      go_ret
                      exact ⟨by first | rfl | (simp [errW_none, errW_some] <;> rfl) | (simp only [← hji2, ← hji4, ← hji10]; first | rfl | (simp [errW_none, errW_some] <;> rfl)) | (simp [*, errW_none, errW_some] <;> rfl), by repeat (first | (with_reducible first | exact HB.out | apply below_alloc | apply pw_below_drewN | apply below_drew1) | exact HB.out)⟩
                    · replace c34 := Bool.eq_false_iff.mpr c34
                      subst c34
                      have H1 : (if 0 ≤ t226 then (if t226 < (x4_1.length : Int) then ((some (x4_1.set (t226 : Int).toNat true : List Bool)).bind fun y232 => (if x7_1 = 0 then (neonwrightlaw04_FlashAll.l0 kj13 ji2 y232 t226 t226 (wrap64 (x7_1 + 1))) else (neonwrightlaw04_FlashAll.l0 kj13 ji2 y232 t226 x6_1 (wrap64 (x7_1 + 1))))) else (none)) else (none)) = some r := by rw [if_neg (show ¬ (false = true) by decide)] at H; exact H
                      clear H
                      have H := H1
                      clear H1
                      by_cases c35 : 0 ≤ t226
                      · rw [if_pos c35] at H
                        have c35b0 : decide (0 ≤ t226) = true := decide_eq_true c35
                        clear c35
                        by_cases c36 : t226 < (x4_1.length : Int)
                        · rw [if_pos c36] at H
                          have c36b0 : decide (t226 < (x4_1.length : Int)) = true := decide_eq_true c36
                          clear c36
                          obtain ⟨y232, hy232⟩ : ∃ y_ : List Bool, y_ = (x4_1.set (t226 : Int).toNat true) := ⟨_, rfl⟩
                          replace H : (if x7_1 = 0 then (neonwrightlaw04_FlashAll.l0 kj13 ji2 y232 t226 t226 (wrap64 (x7_1 + 1))) else (neonwrightlaw04_FlashAll.l0 kj13 ji2 y232 t226 x6_1 (wrap64 (x7_1 + 1)))) = some r := by first | (rw [hy232]; with_reducible exact H) | (have H2_ := (Option.bind_some _ _).symm.trans H; rw [hy232]; with_reducible exact H2_) | (have H2_ := (Option.bind_some _ _).symm.trans H; with_reducible exact H2_) | with_reducible exact H | (rw [hy232]; exact H) | exact H
                          have Ny232 := Aside0.mk hy232
                          clear hy232
                          by_cases c38 : x7_1 = 0
                          · rw [if_pos c38] at H
                            have c38b0 : (x7_1 == 0) = true := beq_iff_eq.mpr c38
                            have c38b1 : (x7_1 != 0) = false := bne_eq_false_iff_eq.mpr c38
                            clear c38
                            have H' := Aside0.mk H
                            clear H
                            have p37 : 0 ≤ (t226 : Int) := of_decide_eq_true (by first | (with_reducible assumption) | assumption)
                            have q37 : (t226 : Int) < ((x4_1.length : Int) : Int) := of_decide_eq_true (by first | (with_reducible assumption) | assumption)
                            obtain ⟨go37, co37, eo37, gb37, gl37, cl37, HG37⟩ := Kd.R_form HO_4.out (by omega)
                            (first | cases eo37 | (injection eo37 with ea_ en_ ec_; (first | subst ea_ | (injection ea_ with ea_; subst ea_)); subst ec_; clear en_))
                            have GB37 := Aside0.mk gb37
                            have GG37 := Aside0.mk HG37
                            clear gb37 gl37 HG37
                            obtain ⟨hx37_0, hf37_0⟩ := Kd.R_celln false HO_4.out (t226 : Int) p37 q37
                            replace p37 := eq_true p37
                            replace q37 := eq_true q37
                            have HP39 := Kd.R_putg HO_4.out (t226 : Int) true
                            go_wp2_with (first | ((with_reducible refine gate_store (t := 4) (p := 85) rfl ?_); refine store_event (t := 4) (p := 85) (v := ?vo_w40) (w1 := (wc.setCell ⟨go37, (t226 : Int).toNat, none⟩ (.bool true))) ?hg ?ho ?hn ?hr ?_; (case ho => rfl); (case hg => rfl); (case hn => rfl); (case hr => first | (go_simp; done) | (go_simp; rfl)); intro w40 hw; have hg : wc.grownBy w40 (some go37) := (by rw [hw]; exact HP39.2); have hp_ : Kd.R Kd.bool 4 w40 w.heap.size (fun _ => True) (.slice (some ⟨go37, 0, none⟩) x4_1.length co37) y232 := (by rw [hw, Ny232.out]; exact HP39.1); clear HP39; have n0_ := Aside0.mk (hp_); have n1_ := Aside0.mk ((by rw [hw]; exact below_set (HB.out) GB37.out : Below w.heap.size w w40)); clear HO_4; clear HB; have HO_4 := n0_; have HB := n1_; clear n0_ n1_; clear hg hw hp_))
                            go_roundg kj13
                            case measure => have := HK1.out; have := HJ13.out; omega
                            case rel => exact ⟨(y232), (t226), (t226), (wrap64 (x7_1 + 1)), (by first | rfl | (simp; done) | (simp [*]; done)), (by first | rfl | (simp; done) | (simp [*]; done)), (by first | rfl | (simp; done) | (simp [*]; done)), H', ⟨by have := HK1.out; have := HJ13.out; omega⟩, ⟨by (with_reducible repeat (first | apply Kd.R_alloc | apply Kd.R_drewN | apply Kd.R_drew)); first | exact HO_4.out | exact Kd.R_mono HO_4.out (fun k_ h_ => ne_own_len h_)⟩, ⟨by repeat (first | (with_reducible first | exact HB.out | apply below_alloc | apply pw_below_drewN | apply below_drew1) | exact HB.out)⟩⟩
                          · rw [if_neg c38] at H
                            have c38b0 : (x7_1 == 0) = false := beq_eq_false_iff_ne.mpr c38
                            have c38b1 : (x7_1 != 0) = true := bne_iff_ne.mpr c38
                            have H' := Aside0.mk H
                            clear H
                            have p37 : 0 ≤ (t226 : Int) := of_decide_eq_true (by first | (with_reducible assumption) | assumption)
                            have q37 : (t226 : Int) < ((x4_1.length : Int) : Int) := of_decide_eq_true (by first | (with_reducible assumption) | assumption)
                            obtain ⟨go37, co37, eo37, gb37, gl37, cl37, HG37⟩ := Kd.R_form HO_4.out (by omega)
                            (first | cases eo37 | (injection eo37 with ea_ en_ ec_; (first | subst ea_ | (injection ea_ with ea_; subst ea_)); subst ec_; clear en_))
                            have GB37 := Aside0.mk gb37
                            have GG37 := Aside0.mk HG37
                            clear gb37 gl37 HG37
                            obtain ⟨hx37_0, hf37_0⟩ := Kd.R_celln false HO_4.out (t226 : Int) p37 q37
                            replace p37 := eq_true p37
                            replace q37 := eq_true q37
                            have HP41 := Kd.R_putg HO_4.out (t226 : Int) true
                            go_wp2_with (first | ((with_reducible refine gate_store (t := 4) (p := 85) rfl ?_); refine store_event (t := 4) (p := 85) (v := ?vo_w42) (w1 := (wc.setCell ⟨go37, (t226 : Int).toNat, none⟩ (.bool true))) ?hg ?ho ?hn ?hr ?_; (case ho => rfl); (case hg => rfl); (case hn => rfl); (case hr => first | (go_simp; done) | (go_simp; rfl)); intro w42 hw; have hg : wc.grownBy w42 (some go37) := (by rw [hw]; exact HP41.2); have hp_ : Kd.R Kd.bool 4 w42 w.heap.size (fun _ => True) (.slice (some ⟨go37, 0, none⟩) x4_1.length co37) y232 := (by rw [hw, Ny232.out]; exact HP41.1); clear HP41; have n0_ := Aside0.mk (hp_); have n1_ := Aside0.mk ((by rw [hw]; exact below_set (HB.out) GB37.out : Below w.heap.size w w42)); clear HO_4; clear HB; have HO_4 := n0_; have HB := n1_; clear n0_ n1_; clear hg hw hp_))
                            go_roundg kj13
                            case measure => have := HK1.out; have := HJ13.out; omega
                            case rel => exact ⟨(y232), (t226), (x6_1), (wrap64 (x7_1 + 1)), (by first | rfl | (simp; done) | (simp [*]; done)), (by first | rfl | (simp; done) | (simp [*]; done)), (by first | rfl | (simp; done) | (simp [*]; done)), H', ⟨by have := HK1.out; have := HJ13.out; omega⟩, ⟨by (with_reducible repeat (first | apply Kd.R_alloc | apply Kd.R_drewN | apply Kd.R_drew)); first | exact HO_4.out | exact Kd.R_mono HO_4.out (fun k_ h_ => ne_own_len h_)⟩, ⟨by repeat (first | (with_reducible first | exact HB.out | apply below_alloc | apply pw_below_drewN | apply below_drew1) | exact HB.out)⟩⟩
                        · rw [if_neg c36] at H
                          exact absurd H (by simp)
                      · rw [if_neg c35] at H
                        exact absurd H (by simp)
              · rw [if_neg c11] at H
                have c11b0 : decide (x7_1 < (ji10)) = false := decide_eq_false c11
                (try (have c11b0n : ¬ (ji4 = 0) := fun h_ => c11 (by rw [← hji4.symm.trans hji10]; exact h_)))
                (try (have c11b0j : decide (x7_1 < (ji4)) = false := by rw [hji4.symm.trans hji10]; exact c11b0))
                clear c11
                by_cases c43 : ji2 < 2
                · rw [if_pos c43] at H
                  have c43b0 : decide (ji2 < 2) = true := decide_eq_true c43
                  clear c43
                  replace H := Option.bind_eq_some_iff.mp H
                  obtain ⟨t223, A440, H⟩ := H
                  replace H : (some t223) = some r := H
                  have A44 := Aside0.mk A440
                  clear A440
                  obtain rfl := Option.some.inj H
                  go_wp2_with (first | (go_at_call 20; (with_reducible refine (neonwrightlaw04_alive.calls k1  t223 _ A44.out).mono ?_); rintro e w45 ⟨rfl, hb⟩; have n0_ := Aside0.mk (Kd.R_below (by (with_reducible repeat (first | apply Kd.R_alloc | apply Kd.R_drewN | apply Kd.R_drew)); exact HO_4.out) hb); have n1_ := Aside0.mk (below_step (by repeat (first | (with_reducible first | exact HB.out | apply below_alloc | apply pw_below_drewN | apply below_drew1) | exact HB.out)) hb); clear HO_4; clear HB; have HO_4 := n0_; have HB := n1_; clear n0_ n1_; (try clear hb); (try clear hb2); (try clear hk); (try clear hi)))
                  go_ret
                  exact ⟨by first | rfl | (simp [errW_none, errW_some] <;> rfl) | (simp only [← hji2, ← hji4, ← hji10]; first | rfl | (simp [errW_none, errW_some] <;> rfl)) | (simp [*, errW_none, errW_some] <;> rfl), by repeat (first | (with_reducible first | exact HB.out | apply below_alloc | apply pw_below_drewN | apply below_drew1) | exact HB.out)⟩
                · rw [if_neg c43] at H
                  have c43b0 : decide (ji2 < 2) = false := decide_eq_false c43
                  clear c43
                  replace H := Option.bind_eq_some_iff.mp H
                  obtain ⟨t224, A460, H⟩ := H
                  replace H : (if t224 = true then ((neonwrightlaw04_alive.f k1).bind fun t225 => (some t225)) else (some false)) = some r := H
                  have A46 := Aside0.mk A460
                  clear A460
                  by_cases c47 : t224 = true
                  · subst c47
                    have H1 : ((neonwrightlaw04_alive.f k1).bind fun t225 => (some t225)) = some r := by rw [if_pos rfl] at H; exact H
                    clear H
                    have H := H1
                    clear H1
                    replace H := Option.bind_eq_some_iff.mp H
                    obtain ⟨t225, A480, H⟩ := H
                    replace H : (some t225) = some r := H
                    have A48 := Aside0.mk A480
                    clear A480
                    obtain rfl := Option.some.inj H
                    go_wp2_with (first | (go_at_call 27; (with_reducible refine (neonwrightlaw04_one.calls (Go.bits .xor .i64 x5_1 x6_1) true _ A46.out).mono ?_); rintro e w' ⟨rfl, ⟨nd, rfl⟩⟩) | (go_at_call 20; (with_reducible refine (neonwrightlaw04_alive.calls k1  t225 _ A48.out).mono ?_); rintro e w49 ⟨rfl, hb⟩; have n0_ := Aside0.mk (Kd.R_below (by (with_reducible repeat (first | apply Kd.R_alloc | apply Kd.R_drewN | apply Kd.R_drew)); exact HO_4.out) hb); have n1_ := Aside0.mk (below_step (by repeat (first | (with_reducible first | exact HB.out | apply below_alloc | apply pw_below_drewN | apply below_drew1) | exact HB.out)) hb); clear HO_4; clear HB; have HO_4 := n0_; have HB := n1_; clear n0_ n1_; (try clear hb); (try clear hb2); (try clear hk); (try clear hi)))
                    go_ret
                    exact ⟨by first | rfl | (simp [errW_none, errW_some] <;> rfl) | (simp only [← hji2, ← hji4, ← hji10]; first | rfl | (simp [errW_none, errW_some] <;> rfl)) | (simp [*, errW_none, errW_some] <;> rfl), by repeat (first | (with_reducible first | exact HB.out | apply below_alloc | apply pw_below_drewN | apply below_drew1) | exact HB.out)⟩
                  · replace c47 := Bool.eq_false_iff.mpr c47
                    subst c47
                    have H1 : (some false) = some r := by rw [if_neg (show ¬ (false = true) by decide)] at H; exact H
                    clear H
                    have H := H1
                    clear H1
                    obtain rfl := Option.some.inj H
                    go_wp2_with (first | (go_at_call 27; (with_reducible refine (neonwrightlaw04_one.calls (Go.bits .xor .i64 x5_1 x6_1) false _ A46.out).mono ?_); rintro e w' ⟨rfl, ⟨nd, rfl⟩⟩))
                    go_ret
                    exact ⟨by first | rfl | (simp [errW_none, errW_some] <;> rfl) | (simp only [← hji2, ← hji4, ← hji10]; first | rfl | (simp [errW_none, errW_some] <;> rfl)) | (simp [*, errW_none, errW_some] <;> rfl), by repeat (first | (with_reducible first | exact HB.out | apply below_alloc | apply pw_below_drewN | apply below_drew1) | exact HB.out)⟩
            · rw [if_neg c9] at H
              exact absurd H (by simp)
      · rw [if_neg c6] at H
        exact absurd H (by simp)
    · rw [if_neg c5] at H
      exact absurd H (by simp)
  · rw [if_neg c3] at H
    exact absurd H (by simp)

/-- THE ONE PURE STATEMENT of neonwrightlaw04_FlashAll: yours. -/
def neonwrightlaw04_FlashAll.Pure : Prop := ∀ (a0 : Int), (Lit.int .u8 a0).wf = true → ∃ k, neonwrightlaw04_FlashAll.f k a0 = some true
theorem neonwrightlaw04_FlashAll.walk (P : neonwrightlaw04_FlashAll.Pure) (a0 : Int) (w : World) (w0 : (Lit.int .u8 a0).wf = true) :
    Calls Try.prog 7 #[.int .u8 a0] w fun e w' => e = .returned (.bool true) ∧ Below w.heap.size w w' := by
  obtain ⟨k, h⟩ := P a0 w0
  refine (neonwrightlaw04_FlashAll.calls k a0 true w h).mono ?_
  rintro e w' ⟨rfl, hd⟩
  exact ⟨rfl, hd⟩

end Go.Proofs.Ytnakkdaeehglnaa.P

namespace Go.Proofs.Ytnakkdaeehglnaa.P
open Go.RowKit Go.Proofs.YtnakkdaeehglnaaW.PrintWords Go.Proofs.YtnakkdaeehglnaaW.PrintLast Go.Proofs.YtnakkdaeehglnaaW.PrintMore
attribute [local go_sem] max2_int min2_int max_two min_two max_three min_three max_four min_four   -- for this text's walks alone
set_option linter.unusedVariables false
set_option linter.unusedSimpArgs false

/-! ### neonwrightref04_Gray: function 24 -/
mutual
def neonwrightref04_Gray.j0 : Nat → Int → Int → Bool → Option (Int × Int)
  | 0, _, _, _ => none
  | k + 1, x0, x1, x20 => if x20 = true then (some (0, 2)) else (neonwrightref04_Gray.l0 k x1 0 (wrap64 (x0 - 1)))
def neonwrightref04_Gray.l0 : Nat → Int → Int → Int → Option (Int × Int)
  | 0, _, _, _ => none
  | k + 1, x1, x6, x7 => if x7 ≥ 0 then (if 0 ≤ x7 then (if x1 ≥ (shl .i64 1 x7) then (if 0 ≤ (wrap64 (x7 + 1)) then (neonwrightref04_Gray.l0 k (wrap64 ((wrap64 ((shl .i64 1 (wrap64 (x7 + 1))) - 1)) - x1)) (wrap64 (x6 + (shl .i64 1 x7))) (wrap64 (x7 - 1))) else (none)) else (neonwrightref04_Gray.l0 k x1 x6 (wrap64 (x7 - 1)))) else (none)) else (some (x6, 0))
end
def neonwrightref04_Gray.f (k : Nat) (a0 : Int) (a1 : Int) : Option (Int × Int) := (neonwrightref04_Tubes.f a0).bind fun t208 => (if t208 = true then (if a1 < 0 then (neonwrightref04_Gray.j0 k a0 a1 true) else (if 0 ≤ a0 then (neonwrightref04_Gray.j0 k a0 a1 (decide (a1 ≥ (shl .i64 1 a0)))) else (none))) else (neonwrightref04_Gray.j0 k a0 a1 true))
theorem neonwrightref04_Gray.mono_l : ∀ k, (∀ y0 y1 y2, LeO (neonwrightref04_Gray.j0 k y0 y1 y2) (neonwrightref04_Gray.j0 (k + 1) y0 y1 y2)) ∧ (∀ y0 y1 y2, LeO (neonwrightref04_Gray.l0 k y0 y1 y2) (neonwrightref04_Gray.l0 (k + 1) y0 y1 y2))
  | 0 => ⟨fun _ _ _ r h => by simp [neonwrightref04_Gray.j0] at h, fun _ _ _ r h => by simp [neonwrightref04_Gray.l0] at h⟩
  | k + 1 => by
    obtain ⟨ih0, ih1⟩ := neonwrightref04_Gray.mono_l k
    refine ⟨?_, ?_⟩
    · intro y0 y1 y2
      unfold neonwrightref04_Gray.j0
      repeat' first
      | (with_reducible exact ih0 _ _ _)
      | (with_reducible exact ih1 _ _ _)
      | (with_reducible exact LeO.refl _)
      | (with_reducible exact LeO.none _)
      | (with_reducible refine LeO.ite ?_ ?_)
      | (with_reducible refine LeO.bind ?_ (fun _ => ?_))
      | exact ih0 _ _ _
      | exact ih1 _ _ _
      | exact LeO.none _
      | refine LeO.ite ?_ ?_
      | refine LeO.bind ?_ (fun _ => ?_)
    · intro y0 y1 y2
      unfold neonwrightref04_Gray.l0
      repeat' first
      | (with_reducible exact ih0 _ _ _)
      | (with_reducible exact ih1 _ _ _)
      | (with_reducible exact LeO.refl _)
      | (with_reducible exact LeO.none _)
      | (with_reducible refine LeO.ite ?_ ?_)
      | (with_reducible refine LeO.bind ?_ (fun _ => ?_))
      | exact ih0 _ _ _
      | exact ih1 _ _ _
      | exact LeO.none _
      | refine LeO.ite ?_ ?_
      | refine LeO.bind ?_ (fun _ => ?_)
theorem neonwrightref04_Gray.mono : ∀ a0 a1 k, LeO (neonwrightref04_Gray.f k a0 a1) (neonwrightref04_Gray.f (k + 1) a0 a1) := by
  intro a0 a1 k
  obtain ⟨ih0, ih1⟩ := neonwrightref04_Gray.mono_l k
  unfold neonwrightref04_Gray.f
  repeat' first
      | (with_reducible exact ih0 _ _ _)
      | (with_reducible exact ih1 _ _ _)
      | (with_reducible exact LeO.refl _)
      | (with_reducible exact LeO.none _)
      | (with_reducible refine LeO.ite ?_ ?_)
      | (with_reducible refine LeO.bind ?_ (fun _ => ?_))
      | exact ih0 _ _ _
      | exact ih1 _ _ _
      | exact LeO.none _
      | refine LeO.ite ?_ ?_
      | refine LeO.bind ?_ (fun _ => ?_)
set_option maxHeartbeats 8000000 in
set_option maxRecDepth 100000 in
theorem neonwrightref04_Gray.calls (k : Nat) (a0 : Int) (a1 : Int) (r1 : Int) (r2 : Int) (w : World) (h : neonwrightref04_Gray.f k a0 a1 = some (r1, r2)) :
    Calls Try.prog 24 #[.int .i64 a0, .int .i64 a1] w fun e w' => e = .returned (.tuple #[.int .i64 r1, .int .i64 r2]) ∧ Drawn0 w w' := by
  have H : ((neonwrightref04_Tubes.f a0).bind fun t208 => (if t208 = true then (if a1 < 0 then (neonwrightref04_Gray.j0 k a0 a1 true) else (if 0 ≤ a0 then (neonwrightref04_Gray.j0 k a0 a1 (decide (a1 ≥ (shl .i64 1 a0)))) else (none))) else (neonwrightref04_Gray.j0 k a0 a1 true))) = some (r1, r2) := h
  clear h
  have HC3 := Aside0.mk H
  clear H
  go_enter Try.func24, Try.ntmps24
  go_upto_region 1 with (fail)
  go_cut [20] (fun v20 wc => ∃ (kq : Nat) (x20_2 : Bool), v20 = .bool x20_2 ∧ Aside0 (neonwrightref04_Gray.j0 kq a0 a1 x20_2 = some (r1, r2)) ∧ Aside0 (kq ≤ k) ∧ Drawn0 w wc)
  case first =>
    have H := HC3.out
    clear HC3
    replace H := Option.bind_eq_some_iff.mp H
    obtain ⟨t208, A40, H⟩ := H
    replace H : (if t208 = true then (if a1 < 0 then (neonwrightref04_Gray.j0 k a0 a1 true) else (if 0 ≤ a0 then (neonwrightref04_Gray.j0 k a0 a1 (decide (a1 ≥ (shl .i64 1 a0)))) else (none))) else (neonwrightref04_Gray.j0 k a0 a1 true)) = some (r1, r2) := H
    have A4 := Aside0.mk A40
    clear A40
    by_cases c5 : t208 = true
    · subst c5
      have H1 : (if a1 < 0 then (neonwrightref04_Gray.j0 k a0 a1 true) else (if 0 ≤ a0 then (neonwrightref04_Gray.j0 k a0 a1 (decide (a1 ≥ (shl .i64 1 a0)))) else (none))) = some (r1, r2) := by rw [if_pos rfl] at H; exact H
      clear H
      have H := H1
      clear H1
      by_cases c6 : a1 < 0
      · rw [if_pos c6] at H
        have c6b0 : decide (a1 < 0) = true := decide_eq_true c6
        clear c6
        (first | rw [c6b0] | (simp only [i64_w, i32_w]; rw [c6b0]) | skip)
        have H' := Aside0.mk H
        clear H
        go_wp2_with (first | ((with_reducible refine gate_callee (f := 39) rfl ?_); refine goesL_ (some 9) rfl rfl Try.func39 (by kernel_rfl) rfl #[.int .i64 a0] rfl (by (try simp only [List.map_toArray, List.map_cons, List.map_nil]); first | done | rfl | (simp only [List.length_drop, List.length_take]; rfl)) ?_; (with_reducible refine (neonwrightref04_Tubes.calls a0 true _ A4.out).mono ?_); rintro e w' ⟨rfl, ⟨nd, rfl⟩⟩; refine ⟨_, rfl, ?_⟩))
        go_meet
        case rel => exact ⟨_, (true), (by first | rfl | (simp; done) | (simp [*]; done)), H', ⟨by first | omega | exact Nat.le_refl _⟩, by repeat (first | exact Drawn0.refl _ | apply Drawn0.step)⟩
      · rw [if_neg c6] at H
        have c6b0 : decide (a1 < 0) = false := decide_eq_false c6
        clear c6
        (first | rw [c6b0] | (simp only [i64_w, i32_w]; rw [c6b0]) | skip)
        by_cases c7 : 0 ≤ a0
        · rw [if_pos c7] at H
          have c7b0 := eq_true c7
          have c7b1 : decide (0 ≤ a0) = true := decide_eq_true c7
          clear c7
          obtain ⟨ji8, hji8⟩ : ∃ j_ : Int, (shl .i64 1 a0) = j_ := ⟨_, rfl⟩
          replace H : (neonwrightref04_Gray.j0 k a0 a1 (decide (a1 ≥ (ji8)))) = some (r1, r2) := by first | (rw [hji8] at H; exact H) | (simp only [hji8] at H ⊢; exact H)
          (try rw [hji8] at A4)
          have hji8_ : (IntKind.i64.wrap (1 * 2 ^ min a0.toNat 64)) = ji8 := hji8
          have hji8z : a0 ≤ 64 → (IntKind.i64.wrap (1 * 2 ^ a0.toNat)) = ji8 := shl_small hji8
          have hji8u : (IntKind.i64.wrap (2 ^ min a0.toNat 64)) = ji8 := by have h_ := hji8_; rw [Int.one_mul] at h_; exact h_
          have hji8v : a0 ≤ 64 → (IntKind.i64.wrap (2 ^ a0.toNat)) = ji8 := fun hle_ => by have h_ := hji8z hle_; rw [Int.one_mul] at h_; exact h_
          have hji8y : (wrap64 (1 * 2 ^ min a0.toNat 64)) = ji8 := (i64_w _).symm.trans hji8_
          have hji8x : a0 ≤ 64 → (wrap64 (1 * 2 ^ a0.toNat)) = ji8 := fun h_ => (i64_w _).symm.trans (hji8z h_)
          have H' := Aside0.mk H
          clear H
          go_wp2_with (first | ((with_reducible refine gate_callee (f := 39) rfl ?_); refine goesL_ (some 9) rfl rfl Try.func39 (by kernel_rfl) rfl #[.int .i64 a0] rfl (by (try simp only [List.map_toArray, List.map_cons, List.map_nil]); first | done | rfl | (simp only [List.length_drop, List.length_take]; rfl)) ?_; (with_reducible refine (neonwrightref04_Tubes.calls a0 true _ A4.out).mono ?_); rintro e w' ⟨rfl, ⟨nd, rfl⟩⟩; refine ⟨_, rfl, ?_⟩))
          go_meet
          case rel => exact ⟨_, (decide (a1 ≥ (ji8))), (by first | rfl | (simp; done) | (simp only [← hji8] <;> (first | rfl | simp)) | (simp [*]; done)), H', ⟨by first | omega | exact Nat.le_refl _⟩, by repeat (first | exact Drawn0.refl _ | apply Drawn0.step)⟩
        · rw [if_neg c7] at H
          exact absurd H (by simp)
    · replace c5 := Bool.eq_false_iff.mpr c5
      subst c5
      have H1 : (neonwrightref04_Gray.j0 k a0 a1 true) = some (r1, r2) := by rw [if_neg (show ¬ (false = true) by decide)] at H; exact H
      clear H
      have H := H1
      clear H1
      have H' := Aside0.mk H
      clear H
      go_wp2_with (first | ((with_reducible refine gate_callee (f := 39) rfl ?_); refine goesL_ (some 9) rfl rfl Try.func39 (by kernel_rfl) rfl #[.int .i64 a0] rfl (by (try simp only [List.map_toArray, List.map_cons, List.map_nil]); first | done | rfl | (simp only [List.length_drop, List.length_take]; rfl)) ?_; (with_reducible refine (neonwrightref04_Tubes.calls a0 false _ A4.out).mono ?_); rintro e w' ⟨rfl, ⟨nd, rfl⟩⟩; refine ⟨_, rfl, ?_⟩))
      go_meet
      case rel => exact ⟨_, (true), (by first | rfl | (simp; done) | (simp [*]; done)), H', ⟨by first | omega | exact Nat.le_refl _⟩, by repeat (first | exact Drawn0.refl _ | apply Drawn0.step)⟩
  case rest =>
    clear HC3
    try clear c2
    try clear p2
    try clear c3
    try clear c5
    try clear c6
    try clear c6b0
    try clear p6
    try clear c7
    try clear c7b0
    try clear c7b1
    obtain ⟨kq, x20_2, rfl, HA, HJ2, ⟨mc2, rfl⟩⟩ := hcut
    cases kq with
    | zero => exact absurd HA.out (by simp [neonwrightref04_Gray.j0])
    | succ kj2 =>
      have H := HA.out
      clear HA
      simp only [neonwrightref04_Gray.j0] at H
      by_cases c9 : x20_2 = true
      · subst c9
        have H1 : (some (0, 2)) = some (r1, r2) := by rw [if_pos rfl] at H; exact H
        clear H
        have H := H1
        clear H1
        simp only [Option.some.injEq, Prod.mk.injEq] at H
        obtain ⟨rfl, rfl⟩ := H
        go_wp2
        go_ret2
        exact ⟨by first | rfl | (simp; done) | (simp [*]; done), by repeat (first | exact Drawn0.refl _ | apply Drawn0.step)⟩
      · replace c9 := Bool.eq_false_iff.mpr c9
        subst c9
        have H1 : (neonwrightref04_Gray.l0 kj2 a1 0 (wrap64 (a0 - 1))) = some (r1, r2) := by rw [if_neg (show ¬ (false = true) by decide)] at H; exact H
        clear H
        have H := H1
        clear H1
        have H' := Aside0.mk H
        clear H
        go_wp2
        go_loopg [1, 6, 7] kj2 (fun kq v1 v6 v7 w' => ∃ (x1_2 : Int) (x6_2 : Int) (x7_2 : Int), v1 = .int .i64 x1_2 ∧ v6 = .int .i64 x6_2 ∧ v7 = .int .i64 x7_2 ∧ Aside0 (neonwrightref04_Gray.l0 kq x1_2 x6_2 x7_2 = some (r1, r2)) ∧ Aside0 (kq ≤ kj2) ∧ Drawn0 w w')
        case atStart => exact ⟨(a1), (0), (wrap64 (a0 - 1)), (by first | rfl | (simp; done) | (simp [*]; done)), (by first | rfl | (simp; done) | (simp [*]; done)), (by first | rfl | (simp; done) | (simp [*]; done)), H', ⟨Nat.le_refl _⟩, by repeat (first | exact Drawn0.refl _ | apply Drawn0.step)⟩
        case round =>
          clear H'
          try clear c2
          try clear p2
          try clear c3
          try clear c5
          try clear c6
          try clear c6b0
          try clear p6
          try clear c7
          try clear c7b0
          try clear c7b1
          try clear c9
          try clear p2
          try clear p6
          obtain ⟨x1_2, x6_2, x7_2, rfl, rfl, rfl, HA, HK2, ⟨m2, rfl⟩⟩ := hrel
          cases gk with
          | zero => exact absurd HA.out (by simp [neonwrightref04_Gray.l0])
          | succ k2 =>
            have H := HA.out
            clear HA
            simp only [neonwrightref04_Gray.l0] at H
            by_cases c10 : x7_2 ≥ 0
            · rw [if_pos c10] at H
              have c10b0 : decide (0 ≤ x7_2) = true := decide_eq_true c10
              clear c10
              by_cases c11 : 0 ≤ x7_2
              · rw [if_pos c11] at H
                have c11b0 := eq_true c11
                have c11b1 : decide (0 ≤ x7_2) = true := decide_eq_true c11
                clear c11
                obtain ⟨ji12, hji12⟩ : ∃ j_ : Int, (shl .i64 1 x7_2) = j_ := ⟨_, rfl⟩
                replace H : (if x1_2 ≥ (ji12) then (if 0 ≤ (wrap64 (x7_2 + 1)) then (neonwrightref04_Gray.l0 k2 (wrap64 ((wrap64 ((shl .i64 1 (wrap64 (x7_2 + 1))) - 1)) - x1_2)) (wrap64 (x6_2 + (ji12))) (wrap64 (x7_2 - 1))) else (none)) else (neonwrightref04_Gray.l0 k2 x1_2 x6_2 (wrap64 (x7_2 - 1)))) = some (r1, r2) := by first | (rw [hji12] at H; exact H) | (simp only [hji12] at H ⊢; exact H)
                have hji12_ : (IntKind.i64.wrap (1 * 2 ^ min x7_2.toNat 64)) = ji12 := hji12
                have hji12z : x7_2 ≤ 64 → (IntKind.i64.wrap (1 * 2 ^ x7_2.toNat)) = ji12 := shl_small hji12
                have hji12u : (IntKind.i64.wrap (2 ^ min x7_2.toNat 64)) = ji12 := by have h_ := hji12_; rw [Int.one_mul] at h_; exact h_
                have hji12v : x7_2 ≤ 64 → (IntKind.i64.wrap (2 ^ x7_2.toNat)) = ji12 := fun hle_ => by have h_ := hji12z hle_; rw [Int.one_mul] at h_; exact h_
                have hji12y : (wrap64 (1 * 2 ^ min x7_2.toNat 64)) = ji12 := (i64_w _).symm.trans hji12_
                have hji12x : x7_2 ≤ 64 → (wrap64 (1 * 2 ^ x7_2.toNat)) = ji12 := fun h_ => (i64_w _).symm.trans (hji12z h_)
                by_cases c13 : x1_2 ≥ (ji12)
                · rw [if_pos c13] at H
                  have c13b0 : decide ((ji12) ≤ x1_2) = true := decide_eq_true c13
                  clear c13
                  have c14b0 := eq_true (of_decide_eq_true (by first | (with_reducible assumption) | assumption) : 0 ≤ x7_2)
                  obtain ⟨ji16, hji16⟩ : ∃ j_ : Int, (wrap64 (x7_2 + 1)) = j_ := ⟨_, rfl⟩
                  replace H : (if 0 ≤ (ji16) then (neonwrightref04_Gray.l0 k2 (wrap64 ((wrap64 ((shl .i64 1 (ji16)) - 1)) - x1_2)) (wrap64 (x6_2 + (ji12))) (wrap64 (x7_2 - 1))) else (none)) = some (r1, r2) := by first | (rw [hji16] at H; exact H) | (simp only [hji16] at H ⊢; exact H)
                  have hji16w : (IntKind.i64.wrap (x7_2 + 1)) = ji16 := (i64_w _).trans hji16
                  by_cases c17 : 0 ≤ (ji16)
                  · rw [if_pos c17] at H
                    have c17b0 := eq_true c17
                    have c17b1 : decide (0 ≤ (ji16)) = true := decide_eq_true c17
                    clear c17
                    obtain ⟨ji18, hji18⟩ : ∃ j_ : Int, (shl .i64 1 (ji16)) = j_ := ⟨_, rfl⟩
                    replace H : (neonwrightref04_Gray.l0 k2 (wrap64 ((wrap64 ((ji18) - 1)) - x1_2)) (wrap64 (x6_2 + (ji12))) (wrap64 (x7_2 - 1))) = some (r1, r2) := by first | (rw [hji18] at H; exact H) | (simp only [hji18] at H ⊢; exact H)
                    have hji18_ : (IntKind.i64.wrap (1 * 2 ^ min (ji16).toNat 64)) = ji18 := hji18
                    have hji18z : (ji16) ≤ 64 → (IntKind.i64.wrap (1 * 2 ^ (ji16).toNat)) = ji18 := shl_small hji18
                    have hji18u : (IntKind.i64.wrap (2 ^ min (ji16).toNat 64)) = ji18 := by have h_ := hji18_; rw [Int.one_mul] at h_; exact h_
                    have hji18v : (ji16) ≤ 64 → (IntKind.i64.wrap (2 ^ (ji16).toNat)) = ji18 := fun hle_ => by have h_ := hji18z hle_; rw [Int.one_mul] at h_; exact h_
                    have hji18y : (wrap64 (1 * 2 ^ min (ji16).toNat 64)) = ji18 := (i64_w _).symm.trans hji18_
                    have hji18x : (ji16) ≤ 64 → (wrap64 (1 * 2 ^ (ji16).toNat)) = ji18 := fun h_ => (i64_w _).symm.trans (hji18z h_)
                    have H' := Aside0.mk H
                    clear H
                    go_wp2
                    go_roundg k2
                    case measure => have := HJ2.out; have := HK2.out; omega
                    case rel => exact ⟨(wrap64 ((wrap64 ((ji18) - 1)) - x1_2)), (wrap64 (x6_2 + (ji12))), (wrap64 (x7_2 - 1)), (by first | rfl | (simp; done) | (simp only [← hji18] <;> (first | rfl | simp)) | (simp [*]; done)), (by first | rfl | (simp; done) | (simp only [← hji12] <;> (first | rfl | simp)) | (simp [*]; done)), (by first | rfl | (simp; done) | (simp [*]; done)), H', ⟨by have := HJ2.out; have := HK2.out; omega⟩, by repeat (first | exact Drawn0.refl _ | apply Drawn0.step)⟩
                  · rw [if_neg c17] at H
                    exact absurd H (by simp)
                · rw [if_neg c13] at H
                  have c13b0 : decide ((ji12) ≤ x1_2) = false := decide_eq_false c13
                  clear c13
                  have H' := Aside0.mk H
                  clear H
                  go_wp2
                  go_roundg k2
                  case measure => have := HJ2.out; have := HK2.out; omega
                  case rel => exact ⟨(x1_2), (x6_2), (wrap64 (x7_2 - 1)), (by first | rfl | (simp; done) | (simp [*]; done)), (by first | rfl | (simp; done) | (simp [*]; done)), (by first | rfl | (simp; done) | (simp [*]; done)), H', ⟨by have := HJ2.out; have := HK2.out; omega⟩, by repeat (first | exact Drawn0.refl _ | apply Drawn0.step)⟩
              · rw [if_neg c11] at H
                exact absurd H (by simp)
            · rw [if_neg c10] at H
              have c10b0 : decide (0 ≤ x7_2) = false := decide_eq_false c10
              clear c10
              simp only [Option.some.injEq, Prod.mk.injEq] at H
              obtain ⟨rfl, rfl⟩ := H
              go_wp2
              go_ret2
              exact ⟨by first | rfl | (simp; done) | (simp [*]; done), by repeat (first | exact Drawn0.refl _ | apply Drawn0.step)⟩

end Go.Proofs.Ytnakkdaeehglnaa.P

namespace Go.Proofs.Ytnakkdaeehglnaa.P
open Go.RowKit Go.Proofs.YtnakkdaeehglnaaW.PrintWords Go.Proofs.YtnakkdaeehglnaaW.PrintLast Go.Proofs.YtnakkdaeehglnaaW.PrintMore
attribute [local go_sem] max2_int min2_int max_two min_two max_three min_three max_four min_four   -- for this text's walks alone
set_option linter.unusedVariables false
set_option linter.unusedSimpArgs false

/-! ### neonwrightref04_Rank: function 26 -/
mutual
def neonwrightref04_Rank.j0 : Nat → Int → Int → Bool → Option (Int × Int)
  | 0, _, _, _ => none
  | k + 1, x0, x1, x20 => if x20 = true then (some (0, 2)) else (neonwrightref04_Rank.l0 k x0 x1 0 0)
def neonwrightref04_Rank.l0 : Nat → Int → Int → Int → Int → Option (Int × Int)
  | 0, _, _, _, _ => none
  | k + 1, x0, x1, x6, x7 => if x7 < x0 then (if 0 ≤ x7 then (if (Int.tmod (shr .i64 x1 x7) 2) = 1 then (if 0 ≤ (wrap64 (x7 + 1)) then (neonwrightref04_Rank.l0 k x0 x1 (wrap64 ((wrap64 ((shl .i64 1 (wrap64 (x7 + 1))) - 1)) - x6)) (wrap64 (x7 + 1))) else (none)) else (neonwrightref04_Rank.l0 k x0 x1 x6 (wrap64 (x7 + 1)))) else (none)) else (some (x6, 0))
end
def neonwrightref04_Rank.f (k : Nat) (a0 : Int) (a1 : Int) : Option (Int × Int) := (neonwrightref04_Tubes.f a0).bind fun t210 => (if t210 = true then (if a1 < 0 then (neonwrightref04_Rank.j0 k a0 a1 true) else (if 0 ≤ a0 then (neonwrightref04_Rank.j0 k a0 a1 (decide (a1 ≥ (shl .i64 1 a0)))) else (none))) else (neonwrightref04_Rank.j0 k a0 a1 true))
theorem neonwrightref04_Rank.mono_l : ∀ k, (∀ y0 y1 y2, LeO (neonwrightref04_Rank.j0 k y0 y1 y2) (neonwrightref04_Rank.j0 (k + 1) y0 y1 y2)) ∧ (∀ y0 y1 y2 y3, LeO (neonwrightref04_Rank.l0 k y0 y1 y2 y3) (neonwrightref04_Rank.l0 (k + 1) y0 y1 y2 y3))
  | 0 => ⟨fun _ _ _ r h => by simp [neonwrightref04_Rank.j0] at h, fun _ _ _ _ r h => by simp [neonwrightref04_Rank.l0] at h⟩
  | k + 1 => by
    obtain ⟨ih0, ih1⟩ := neonwrightref04_Rank.mono_l k
    refine ⟨?_, ?_⟩
    · intro y0 y1 y2
      unfold neonwrightref04_Rank.j0
      repeat' first
      | (with_reducible exact ih0 _ _ _)
      | (with_reducible exact ih1 _ _ _ _)
      | (with_reducible exact LeO.refl _)
      | (with_reducible exact LeO.none _)
      | (with_reducible refine LeO.ite ?_ ?_)
      | (with_reducible refine LeO.bind ?_ (fun _ => ?_))
      | exact ih0 _ _ _
      | exact ih1 _ _ _ _
      | exact LeO.none _
      | refine LeO.ite ?_ ?_
      | refine LeO.bind ?_ (fun _ => ?_)
    · intro y0 y1 y2 y3
      unfold neonwrightref04_Rank.l0
      repeat' first
      | (with_reducible exact ih0 _ _ _)
      | (with_reducible exact ih1 _ _ _ _)
      | (with_reducible exact LeO.refl _)
      | (with_reducible exact LeO.none _)
      | (with_reducible refine LeO.ite ?_ ?_)
      | (with_reducible refine LeO.bind ?_ (fun _ => ?_))
      | exact ih0 _ _ _
      | exact ih1 _ _ _ _
      | exact LeO.none _
      | refine LeO.ite ?_ ?_
      | refine LeO.bind ?_ (fun _ => ?_)
theorem neonwrightref04_Rank.mono : ∀ a0 a1 k, LeO (neonwrightref04_Rank.f k a0 a1) (neonwrightref04_Rank.f (k + 1) a0 a1) := by
  intro a0 a1 k
  obtain ⟨ih0, ih1⟩ := neonwrightref04_Rank.mono_l k
  unfold neonwrightref04_Rank.f
  repeat' first
      | (with_reducible exact ih0 _ _ _)
      | (with_reducible exact ih1 _ _ _ _)
      | (with_reducible exact LeO.refl _)
      | (with_reducible exact LeO.none _)
      | (with_reducible refine LeO.ite ?_ ?_)
      | (with_reducible refine LeO.bind ?_ (fun _ => ?_))
      | exact ih0 _ _ _
      | exact ih1 _ _ _ _
      | exact LeO.none _
      | refine LeO.ite ?_ ?_
      | refine LeO.bind ?_ (fun _ => ?_)
set_option maxHeartbeats 8000000 in
set_option maxRecDepth 100000 in
theorem neonwrightref04_Rank.calls (k : Nat) (a0 : Int) (a1 : Int) (r1 : Int) (r2 : Int) (w : World) (h : neonwrightref04_Rank.f k a0 a1 = some (r1, r2)) :
    Calls Try.prog 26 #[.int .i64 a0, .int .i64 a1] w fun e w' => e = .returned (.tuple #[.int .i64 r1, .int .i64 r2]) ∧ Drawn0 w w' := by
  have H : ((neonwrightref04_Tubes.f a0).bind fun t210 => (if t210 = true then (if a1 < 0 then (neonwrightref04_Rank.j0 k a0 a1 true) else (if 0 ≤ a0 then (neonwrightref04_Rank.j0 k a0 a1 (decide (a1 ≥ (shl .i64 1 a0)))) else (none))) else (neonwrightref04_Rank.j0 k a0 a1 true))) = some (r1, r2) := h
  clear h
  have HC3 := Aside0.mk H
  clear H
  go_enter Try.func26, Try.ntmps26
  go_upto_region 1 with (fail)
  go_cut [20] (fun v20 wc => ∃ (kq : Nat) (x20_2 : Bool), v20 = .bool x20_2 ∧ Aside0 (neonwrightref04_Rank.j0 kq a0 a1 x20_2 = some (r1, r2)) ∧ Aside0 (kq ≤ k) ∧ Drawn0 w wc)
  case first =>
    have H := HC3.out
    clear HC3
    replace H := Option.bind_eq_some_iff.mp H
    obtain ⟨t210, A40, H⟩ := H
    replace H : (if t210 = true then (if a1 < 0 then (neonwrightref04_Rank.j0 k a0 a1 true) else (if 0 ≤ a0 then (neonwrightref04_Rank.j0 k a0 a1 (decide (a1 ≥ (shl .i64 1 a0)))) else (none))) else (neonwrightref04_Rank.j0 k a0 a1 true)) = some (r1, r2) := H
    have A4 := Aside0.mk A40
    clear A40
    by_cases c5 : t210 = true
    · subst c5
      have H1 : (if a1 < 0 then (neonwrightref04_Rank.j0 k a0 a1 true) else (if 0 ≤ a0 then (neonwrightref04_Rank.j0 k a0 a1 (decide (a1 ≥ (shl .i64 1 a0)))) else (none))) = some (r1, r2) := by rw [if_pos rfl] at H; exact H
      clear H
      have H := H1
      clear H1
      by_cases c6 : a1 < 0
      · rw [if_pos c6] at H
        have c6b0 : decide (a1 < 0) = true := decide_eq_true c6
        clear c6
        (first | rw [c6b0] | (simp only [i64_w, i32_w]; rw [c6b0]) | skip)
        have H' := Aside0.mk H
        clear H
        go_wp2_with (first | ((with_reducible refine gate_callee (f := 39) rfl ?_); refine goesL_ (some 9) rfl rfl Try.func39 (by kernel_rfl) rfl #[.int .i64 a0] rfl (by (try simp only [List.map_toArray, List.map_cons, List.map_nil]); first | done | rfl | (simp only [List.length_drop, List.length_take]; rfl)) ?_; (with_reducible refine (neonwrightref04_Tubes.calls a0 true _ A4.out).mono ?_); rintro e w' ⟨rfl, ⟨nd, rfl⟩⟩; refine ⟨_, rfl, ?_⟩))
        go_meet
        case rel => exact ⟨_, (true), (by first | rfl | (simp; done) | (simp [*]; done)), H', ⟨by first | omega | exact Nat.le_refl _⟩, by repeat (first | exact Drawn0.refl _ | apply Drawn0.step)⟩
      · rw [if_neg c6] at H
        have c6b0 : decide (a1 < 0) = false := decide_eq_false c6
        clear c6
        (first | rw [c6b0] | (simp only [i64_w, i32_w]; rw [c6b0]) | skip)
        by_cases c7 : 0 ≤ a0
        · rw [if_pos c7] at H
          have c7b0 := eq_true c7
          have c7b1 : decide (0 ≤ a0) = true := decide_eq_true c7
          clear c7
          obtain ⟨ji8, hji8⟩ : ∃ j_ : Int, (shl .i64 1 a0) = j_ := ⟨_, rfl⟩
          replace H : (neonwrightref04_Rank.j0 k a0 a1 (decide (a1 ≥ (ji8)))) = some (r1, r2) := by first | (rw [hji8] at H; exact H) | (simp only [hji8] at H ⊢; exact H)
          (try rw [hji8] at A4)
          have hji8_ : (IntKind.i64.wrap (1 * 2 ^ min a0.toNat 64)) = ji8 := hji8
          have hji8z : a0 ≤ 64 → (IntKind.i64.wrap (1 * 2 ^ a0.toNat)) = ji8 := shl_small hji8
          have hji8u : (IntKind.i64.wrap (2 ^ min a0.toNat 64)) = ji8 := by have h_ := hji8_; rw [Int.one_mul] at h_; exact h_
          have hji8v : a0 ≤ 64 → (IntKind.i64.wrap (2 ^ a0.toNat)) = ji8 := fun hle_ => by have h_ := hji8z hle_; rw [Int.one_mul] at h_; exact h_
          have hji8y : (wrap64 (1 * 2 ^ min a0.toNat 64)) = ji8 := (i64_w _).symm.trans hji8_
          have hji8x : a0 ≤ 64 → (wrap64 (1 * 2 ^ a0.toNat)) = ji8 := fun h_ => (i64_w _).symm.trans (hji8z h_)
          have H' := Aside0.mk H
          clear H
          go_wp2_with (first | ((with_reducible refine gate_callee (f := 39) rfl ?_); refine goesL_ (some 9) rfl rfl Try.func39 (by kernel_rfl) rfl #[.int .i64 a0] rfl (by (try simp only [List.map_toArray, List.map_cons, List.map_nil]); first | done | rfl | (simp only [List.length_drop, List.length_take]; rfl)) ?_; (with_reducible refine (neonwrightref04_Tubes.calls a0 true _ A4.out).mono ?_); rintro e w' ⟨rfl, ⟨nd, rfl⟩⟩; refine ⟨_, rfl, ?_⟩))
          go_meet
          case rel => exact ⟨_, (decide (a1 ≥ (ji8))), (by first | rfl | (simp; done) | (simp only [← hji8] <;> (first | rfl | simp)) | (simp [*]; done)), H', ⟨by first | omega | exact Nat.le_refl _⟩, by repeat (first | exact Drawn0.refl _ | apply Drawn0.step)⟩
        · rw [if_neg c7] at H
          exact absurd H (by simp)
    · replace c5 := Bool.eq_false_iff.mpr c5
      subst c5
      have H1 : (neonwrightref04_Rank.j0 k a0 a1 true) = some (r1, r2) := by rw [if_neg (show ¬ (false = true) by decide)] at H; exact H
      clear H
      have H := H1
      clear H1
      have H' := Aside0.mk H
      clear H
      go_wp2_with (first | ((with_reducible refine gate_callee (f := 39) rfl ?_); refine goesL_ (some 9) rfl rfl Try.func39 (by kernel_rfl) rfl #[.int .i64 a0] rfl (by (try simp only [List.map_toArray, List.map_cons, List.map_nil]); first | done | rfl | (simp only [List.length_drop, List.length_take]; rfl)) ?_; (with_reducible refine (neonwrightref04_Tubes.calls a0 false _ A4.out).mono ?_); rintro e w' ⟨rfl, ⟨nd, rfl⟩⟩; refine ⟨_, rfl, ?_⟩))
      go_meet
      case rel => exact ⟨_, (true), (by first | rfl | (simp; done) | (simp [*]; done)), H', ⟨by first | omega | exact Nat.le_refl _⟩, by repeat (first | exact Drawn0.refl _ | apply Drawn0.step)⟩
  case rest =>
    clear HC3
    try clear c2
    try clear p2
    try clear c3
    try clear c5
    try clear c6
    try clear c6b0
    try clear p6
    try clear c7
    try clear c7b0
    try clear c7b1
    obtain ⟨kq, x20_2, rfl, HA, HJ2, ⟨mc2, rfl⟩⟩ := hcut
    cases kq with
    | zero => exact absurd HA.out (by simp [neonwrightref04_Rank.j0])
    | succ kj2 =>
      have H := HA.out
      clear HA
      simp only [neonwrightref04_Rank.j0] at H
      by_cases c9 : x20_2 = true
      · subst c9
        have H1 : (some (0, 2)) = some (r1, r2) := by rw [if_pos rfl] at H; exact H
        clear H
        have H := H1
        clear H1
        simp only [Option.some.injEq, Prod.mk.injEq] at H
        obtain ⟨rfl, rfl⟩ := H
        go_wp2
        go_ret2
        exact ⟨by first | rfl | (simp; done) | (simp [*]; done), by repeat (first | exact Drawn0.refl _ | apply Drawn0.step)⟩
      · replace c9 := Bool.eq_false_iff.mpr c9
        subst c9
        have H1 : (neonwrightref04_Rank.l0 kj2 a0 a1 0 0) = some (r1, r2) := by rw [if_neg (show ¬ (false = true) by decide)] at H; exact H
        clear H
        have H := H1
        clear H1
        have H' := Aside0.mk H
        clear H
        go_wp2
        go_loopg [6, 7] kj2 (fun kq v6 v7 w' => ∃ (x6_2 : Int) (x7_2 : Int), v6 = .int .i64 x6_2 ∧ v7 = .int .i64 x7_2 ∧ Aside0 (neonwrightref04_Rank.l0 kq a0 a1 x6_2 x7_2 = some (r1, r2)) ∧ Aside0 (kq ≤ kj2) ∧ Drawn0 w w')
        case atStart => exact ⟨(0), (0), (by first | rfl | (simp; done) | (simp [*]; done)), (by first | rfl | (simp; done) | (simp [*]; done)), H', ⟨Nat.le_refl _⟩, by repeat (first | exact Drawn0.refl _ | apply Drawn0.step)⟩
        case round =>
          clear H'
          try clear c2
          try clear p2
          try clear c3
          try clear c5
          try clear c6
          try clear c6b0
          try clear p6
          try clear c7
          try clear c7b0
          try clear c7b1
          try clear c9
          try clear p2
          try clear p6
          obtain ⟨x6_2, x7_2, rfl, rfl, HA, HK2, ⟨m2, rfl⟩⟩ := hrel
          cases gk with
          | zero => exact absurd HA.out (by simp [neonwrightref04_Rank.l0])
          | succ k2 =>
            have H := HA.out
            clear HA
            simp only [neonwrightref04_Rank.l0] at H
            by_cases c10 : x7_2 < a0
            · rw [if_pos c10] at H
              have c10b0 : decide (x7_2 < a0) = true := decide_eq_true c10
              clear c10
              by_cases c11 : 0 ≤ x7_2
              · rw [if_pos c11] at H
                have c11b0 := eq_true c11
                have c11b1 : decide (0 ≤ x7_2) = true := decide_eq_true c11
                clear c11
                obtain ⟨ji12, hji12⟩ : ∃ j_ : Int, (shr .i64 a1 x7_2) = j_ := ⟨_, rfl⟩
                replace H : (if (Int.tmod (ji12) 2) = 1 then (if 0 ≤ (wrap64 (x7_2 + 1)) then (neonwrightref04_Rank.l0 k2 a0 a1 (wrap64 ((wrap64 ((shl .i64 1 (wrap64 (x7_2 + 1))) - 1)) - x6_2)) (wrap64 (x7_2 + 1))) else (none)) else (neonwrightref04_Rank.l0 k2 a0 a1 x6_2 (wrap64 (x7_2 + 1)))) = some (r1, r2) := by first | (rw [hji12] at H; exact H) | (simp only [hji12] at H ⊢; exact H)
                have hji12_ : (a1 / 2 ^ min x7_2.toNat 64) = ji12 := hji12
                have hji12z : x7_2 ≤ 64 → (a1 / 2 ^ x7_2.toNat) = ji12 := shr_small hji12
                by_cases c13 : (Int.tmod (ji12) 2) = 1
                · rw [if_pos c13] at H
                  have c13b0 : ((Int.tmod (ji12) 2) == 1) = true := beq_iff_eq.mpr c13
                  have c13b1 : ((Int.tmod (ji12) 2) != 1) = false := bne_eq_false_iff_eq.mpr c13
                  clear c13
                  obtain ⟨ji14, hji14⟩ : ∃ j_ : Int, (wrap64 (x7_2 + 1)) = j_ := ⟨_, rfl⟩
                  replace H : (if 0 ≤ (ji14) then (neonwrightref04_Rank.l0 k2 a0 a1 (wrap64 ((wrap64 ((shl .i64 1 (ji14)) - 1)) - x6_2)) ji14) else (none)) = some (r1, r2) := by first | (rw [hji14] at H; exact H) | (simp only [hji14] at H ⊢; exact H)
                  have hji14w : (IntKind.i64.wrap (x7_2 + 1)) = ji14 := (i64_w _).trans hji14
                  by_cases c15 : 0 ≤ (ji14)
                  · rw [if_pos c15] at H
                    have c15b0 := eq_true c15
                    have c15b1 : decide (0 ≤ (ji14)) = true := decide_eq_true c15
                    clear c15
                    obtain ⟨ji16, hji16⟩ : ∃ j_ : Int, (shl .i64 1 (ji14)) = j_ := ⟨_, rfl⟩
                    replace H : (neonwrightref04_Rank.l0 k2 a0 a1 (wrap64 ((wrap64 ((ji16) - 1)) - x6_2)) ji14) = some (r1, r2) := by first | (rw [hji16] at H; exact H) | (simp only [hji16] at H ⊢; exact H)
                    have hji16_ : (IntKind.i64.wrap (1 * 2 ^ min (ji14).toNat 64)) = ji16 := hji16
                    have hji16z : (ji14) ≤ 64 → (IntKind.i64.wrap (1 * 2 ^ (ji14).toNat)) = ji16 := shl_small hji16
                    have hji16u : (IntKind.i64.wrap (2 ^ min (ji14).toNat 64)) = ji16 := by have h_ := hji16_; rw [Int.one_mul] at h_; exact h_
                    have hji16v : (ji14) ≤ 64 → (IntKind.i64.wrap (2 ^ (ji14).toNat)) = ji16 := fun hle_ => by have h_ := hji16z hle_; rw [Int.one_mul] at h_; exact h_
                    have hji16y : (wrap64 (1 * 2 ^ min (ji14).toNat 64)) = ji16 := (i64_w _).symm.trans hji16_
                    have hji16x : (ji14) ≤ 64 → (wrap64 (1 * 2 ^ (ji14).toNat)) = ji16 := fun h_ => (i64_w _).symm.trans (hji16z h_)
                    have H' := Aside0.mk H
                    clear H
                    go_wp2
                    go_roundg k2
                    case measure => have := HJ2.out; have := HK2.out; omega
                    case rel => exact ⟨(wrap64 ((wrap64 ((ji16) - 1)) - x6_2)), (ji14), (by first | rfl | (simp; done) | (simp only [← hji16] <;> (first | rfl | simp)) | (simp [*]; done)), (by first | rfl | (simp; done) | (simp only [← hji14] <;> (first | rfl | simp)) | (simp [*]; done)), H', ⟨by have := HJ2.out; have := HK2.out; omega⟩, by repeat (first | exact Drawn0.refl _ | apply Drawn0.step)⟩
                  · rw [if_neg c15] at H
                    exact absurd H (by simp)
                · rw [if_neg c13] at H
                  have c13b0 : ((Int.tmod (ji12) 2) == 1) = false := beq_eq_false_iff_ne.mpr c13
                  have c13b1 : ((Int.tmod (ji12) 2) != 1) = true := bne_iff_ne.mpr c13
                  have H' := Aside0.mk H
                  clear H
                  go_wp2
                  go_roundg k2
                  case measure => have := HJ2.out; have := HK2.out; omega
                  case rel => exact ⟨(x6_2), (wrap64 (x7_2 + 1)), (by first | rfl | (simp; done) | (simp [*]; done)), (by first | rfl | (simp; done) | (simp [*]; done)), H', ⟨by have := HJ2.out; have := HK2.out; omega⟩, by repeat (first | exact Drawn0.refl _ | apply Drawn0.step)⟩
              · rw [if_neg c11] at H
                exact absurd H (by simp)
            · rw [if_neg c10] at H
              have c10b0 : decide (x7_2 < a0) = false := decide_eq_false c10
              clear c10
              simp only [Option.some.injEq, Prod.mk.injEq] at H
              obtain ⟨rfl, rfl⟩ := H
              go_wp2
              go_ret2
              exact ⟨by first | rfl | (simp; done) | (simp [*]; done), by repeat (first | exact Drawn0.refl _ | apply Drawn0.step)⟩

end Go.Proofs.Ytnakkdaeehglnaa.P

set_option linter.unusedSimpArgs false
set_option linter.unusedVariables false
namespace Go.Proofs.Ytnakkdaeehglnaa.Kit

def gray (i : Nat) : Nat := i ^^^ (i / 2)
theorem xor_half (a b : Nat) : (a ^^^ b) / 2 = (a / 2) ^^^ (b / 2) := by
  have := @Nat.xor_div_two_pow a b 1
  simpa using this
theorem xor_low (a b : Nat) : (a ^^^ b) % 2 = (a % 2 + b % 2) % 2 := by
  have h := @Nat.xor_mod_two_pow a b 1
  rw [Nat.pow_one] at h
  rw [h]
  rcases Nat.mod_two_eq_zero_or_one a with ha | ha <;> rcases Nat.mod_two_eq_zero_or_one b with hb | hb <;> rw [ha, hb] <;> rfl
theorem xor_split (a b c d : Nat) (hb : b < 2) (hd : d < 2) : (2 * a + b) ^^^ (2 * c + d) = 2 * (a ^^^ c) + (b + d) % 2 := by
  have h1 := xor_half (2 * a + b) (2 * c + d)
  have h2 := xor_low (2 * a + b) (2 * c + d)
  rw [show (2 * a + b) / 2 = a from by omega, show (2 * c + d) / 2 = c from by omega] at h1
  rw [show (2 * a + b) % 2 = b from by omega, show (2 * c + d) % 2 = d from by omega] at h2
  omega
theorem gray_rec (x y : Nat) (hy : y < 2) : gray (2 * x + y) = 2 * gray x + (x + y) % 2 := by
  unfold gray
  rw [show (2 * x + y) / 2 = x from by omega]
  have h := xor_split x y (x / 2) (x % 2) hy (by omega)
  rw [show 2 * (x / 2) + x % 2 = x from by omega] at h
  rw [h]
  omega
theorem gray_zero : gray 0 = 0 := rfl
theorem gray_half (i : Nat) : gray i / 2 = gray (i / 2) := by
  have h := gray_rec (i / 2) (i % 2) (by omega)
  rw [show 2 * (i / 2) + i % 2 = i from by omega] at h
  omega
theorem gray_up : ∀ t j, j < 2 ^ t → gray (2 ^ t + j) = 2 ^ t + gray (2 ^ t - 1 - j) := by
  intro t
  induction t with
  | zero =>
    intro j hj
    have : j = 0 := by simpa using hj
    subst this
    rfl
  | succ t ih =>
    intro j hj
    rw [Nat.pow_succ] at hj ⊢
    have hp := Nat.two_pow_pos t
    have h1 := ih (j / 2) (by omega)
    have h2 := gray_rec (2 ^ t + j / 2) (j % 2) (by omega)
    have h3 := gray_rec (2 ^ t - 1 - j / 2) (1 - j % 2) (by omega)
    rw [show 2 * (2 ^ t + j / 2) + j % 2 = 2 ^ t * 2 + j from by omega] at h2
    rw [show 2 * (2 ^ t - 1 - j / 2) + (1 - j % 2) = 2 ^ t * 2 - 1 - j from by omega] at h3
    omega
theorem gray_lt : ∀ t i, i < 2 ^ t → gray i < 2 ^ t := fun t i h => Nat.xor_lt_two_pow h (Nat.lt_of_le_of_lt (Nat.div_le_self _ _) h)
/-- Exclusive or of a number and all that come of it by halving. -/
def rankN : Nat → Nat → Nat
  | 0, _ => 0
  | f + 1, x => if 0 < x then x ^^^ rankN f (x / 2) else 0
theorem rank_gray : ∀ f i, i < 2 ^ f → rankN f (gray i) = i := by
  intro f
  induction f with
  | zero => intro i h; have : i = 0 := by simpa using h
            subst this; rfl
  | succ f ih =>
    intro i h
    unfold rankN
    rw [Nat.pow_succ] at h
    by_cases h0 : 0 < gray i
    · rw [if_pos h0, gray_half, ih (i / 2) (by omega)]
      unfold gray
      rw [Nat.xor_assoc, Nat.xor_self, Nat.xor_zero]
    · rw [if_neg h0]
      have hz : gray i = 0 := by omega
      have h1 := gray_half i
      rw [hz] at h1
      have h2 := ih (i / 2) (by omega)
      rw [← h1] at h2
      have h3 : rankN f (0 / 2) = 0 := by cases f <;> rfl
      rw [h3] at h2
      have : i < 2 := by omega
      have h4 : i = 0 ∨ i = 1 := by omega
      rcases h4 with rfl | rfl
      · rfl
      · cases hz
theorem gray_inj {i j : Nat} (h : gray i = gray j) : i = j := by
  have h1 := rank_gray (i + j) i (Nat.lt_of_le_of_lt (Nat.le_add_right i j) Nat.lt_two_pow_self)
  have h2 := rank_gray (i + j) j (Nat.lt_of_le_of_lt (Nat.le_add_left j i) Nat.lt_two_pow_self)
  rw [h] at h1
  exact h1.symm.trans h2
/-- The place of a state, from the low bit on. -/
def placeN (s : Nat) : Nat → Nat
  | 0 => 0
  | t + 1 => if s / 2 ^ t % 2 = 1 then 2 ^ (t + 1) - 1 - placeN s t else placeN s t
theorem place_gray (s : Nat) : ∀ t, placeN s t < 2 ^ t ∧ gray (placeN s t) = s % 2 ^ t := by
  intro t
  induction t with
  | zero => exact ⟨by simp [placeN], by simp [placeN, gray_zero, Nat.mod_one]⟩
  | succ t ih =>
    obtain ⟨h1, h2⟩ := ih
    have hp := Nat.two_pow_pos t
    have hm : s % 2 ^ (t + 1) = s % 2 ^ t + 2 ^ t * (s / 2 ^ t % 2) := Nat.mod_mul
    unfold placeN
    by_cases hb : s / 2 ^ t % 2 = 1
    · rw [if_pos hb]
      have hu := gray_up t (2 ^ t - 1 - placeN s t) (by omega)
      rw [show 2 ^ t - 1 - (2 ^ t - 1 - placeN s t) = placeN s t from by omega] at hu
      rw [Nat.pow_succ] at hm ⊢
      rw [show 2 ^ t * 2 - 1 - placeN s t = 2 ^ t + (2 ^ t - 1 - placeN s t) from by omega]
      refine ⟨by omega, ?_⟩
      rw [hu, hm, hb, h2]
      omega
    · rw [if_neg hb]
      have hb0 : s / 2 ^ t % 2 = 0 := by omega
      refine ⟨Nat.lt_of_lt_of_le h1 (Nat.pow_le_pow_right (by decide) (by omega)), ?_⟩
      rw [hm, hb0, h2]
      omega
/-- Downwards: what is added, and where one goes on. -/
def upN : Nat → Nat → Nat → Nat
  | 0, _, out => out
  | t + 1, i, out => if 2 ^ t ≤ i then upN t (2 ^ (t + 1) - 1 - i) (out + 2 ^ t) else upN t i out
theorem up_gray : ∀ t i out, i < 2 ^ t → upN t i out = out + gray i := by
  intro t
  induction t with
  | zero => intro i out h; have : i = 0 := by simpa using h
            subst this; rfl
  | succ t ih =>
    intro i out h
    unfold upN
    have hp := Nat.two_pow_pos t
    by_cases hb : 2 ^ t ≤ i
    · rw [if_pos hb]
      have h2 := h
      rw [Nat.pow_succ] at h2
      have hu := gray_up t (i - 2 ^ t) (by omega)
      rw [show 2 ^ t + (i - 2 ^ t) = i from by omega] at hu
      rw [Nat.pow_succ, show 2 ^ t * 2 - 1 - i = 2 ^ t - 1 - (i - 2 ^ t) from by omega, ih _ _ (by omega), hu]
      omega
    · rw [if_neg hb, ih _ _ (by omega)]
/-- A number is a power of 2. -/
def oneN (x : Nat) : Bool := decide (0 < x) && (x &&& (x - 1) == 0)
theorem one_pow (t : Nat) : oneN (2 ^ t) = true := by
  unfold oneN
  rw [decide_eq_true (Nat.two_pow_pos t), Bool.true_and, Nat.and_two_pow_sub_one_eq_mod, Nat.mod_self]
  rfl
theorem gray_next : ∀ n i, 0 < i → i ≤ n → ∃ t, gray i ^^^ gray (i - 1) = 2 ^ t ∧ 2 ^ t ≤ i := by
  intro n
  induction n with
  | zero => intro i h0 h; omega
  | succ n ih =>
    intro i h0 h
    have h1 := gray_rec (i / 2) (i % 2) (by omega)
    rw [show 2 * (i / 2) + i % 2 = i from by omega] at h1
    rcases Nat.mod_two_eq_zero_or_one i with hm | hm
    · obtain ⟨t, ht, hle⟩ := ih (i / 2) (by omega) (by omega)
      have h2 := gray_rec (i / 2 - 1) 1 (by omega)
      rw [show 2 * (i / 2 - 1) + 1 = i - 1 from by omega] at h2
      refine ⟨t + 1, ?_, by rw [Nat.pow_succ]; omega⟩
      rw [h1, h2, xor_split _ _ _ _ (by omega) (by omega), ht, Nat.pow_succ]
      omega
    · have h2 := gray_rec (i / 2) 0 (by omega)
      rw [show 2 * (i / 2) + 0 = i - 1 from by omega] at h2
      refine ⟨0, ?_, by simp; omega⟩
      rw [h1, h2, xor_split _ _ _ _ (by omega) (by omega), Nat.xor_self]
      omega
theorem gray_last (n : Nat) (hn : 1 ≤ n) : gray (2 ^ n - 1) = 2 ^ (n - 1) := by
  obtain ⟨m, rfl⟩ : ∃ m, n = m + 1 := ⟨n - 1, by omega⟩
  have hp := Nat.two_pow_pos m
  have h := gray_up m (2 ^ m - 1) (by omega)
  rw [show 2 ^ m - 1 - (2 ^ m - 1) = 0 from by omega, gray_zero] at h
  rw [Nat.pow_succ, show 2 ^ m * 2 - 1 = 2 ^ m + (2 ^ m - 1) from by omega, h]
  simp
end Go.Proofs.Ytnakkdaeehglnaa.Kit

set_option linter.unusedSimpArgs false
set_option linter.unusedVariables false
namespace Go.Proofs.Ytnakkdaeehglnaa.P
open Go.RowKit Go.Proofs.YtnakkdaeehglnaaW.PrintWords Go.Proofs.YtnakkdaeehglnaaW.PrintMore Go.Proofs.Ytnakkdaeehglnaa.Kit

/-- What both say of a place, or of a state: the error alone, or what ok gives. -/
def inTubes (n i : Int) : Bool := decide ((1 ≤ n ∧ n ≤ 12) ∧ 0 ≤ i ∧ i < ((2 ^ n.toNat : Nat) : Int))
def grayR (n i : Int) : Int × Int := if inTubes n i = true then ((gray i.toNat : Int), 0) else (0, 2)
def rankR (n s : Int) : Int × Int := if inTubes n s = true then ((rankN 13 s.toNat : Int), 0) else (0, 2)
theorem pow12 {n : Nat} (h : n ≤ 12) : 2 ^ n ≤ 4096 := by
  have : 2 ^ n ≤ 2 ^ 12 := Nat.pow_le_pow_right (by decide) h
  simpa using this
theorem gray_bits {i : Nat} (h : i < 4096) : Go.bits .xor .i64 (i : Int) (wrap64 (Int.tdiv (i : Int) 2)) = (gray i : Int) := by
  have h2 : Int.tdiv (i : Int) 2 = ((i / 2 : Nat) : Int) := tdivn i 2
  rw [h2, w64n _ (by omega), xor64 i (i / 2) (by omega) (by omega)]
  rfl
theorem gray_f (n i : Int) : flash_Gray.f n i = some (grayR n i) := by
  unfold flash_Gray.f grayR inTubes
  rw [sized_f, Option.bind_some]
  by_cases hn : 1 ≤ n ∧ n ≤ 12
  · obtain ⟨m, rfl⟩ : ∃ m : Nat, n = m := ⟨n.toNat, by omega⟩
    have hp := pow12 (n := m) (by omega)
    rw [decide_eq_true hn, if_pos rfl, Int.toNat_natCast]
    by_cases h0 : i < 0
    · rw [if_pos h0, decide_eq_false (by omega), if_neg (by decide)]
    · rw [if_neg h0, if_pos (by omega), shl1n (by omega)]
      by_cases h1 : i ≥ ((2 ^ m : Nat) : Int)
      · rw [if_pos h1, decide_eq_false (by omega), if_neg (by decide)]
      · obtain ⟨j, rfl⟩ : ∃ j : Nat, i = j := ⟨i.toNat, by omega⟩
        rw [if_neg h1, decide_eq_true (by omega), if_pos rfl, gray_bits (by omega), Int.toNat_natCast]
  · rw [decide_eq_false hn, if_neg (by decide), decide_eq_false (fun h => hn h.1), if_neg (by decide)]
theorem rgray_l0 : ∀ (t i out : Nat), t ≤ 12 → i < 4096 → out < 100000 → i < 2 ^ t → out + 2 ^ t ≤ 100000 → Ev (fun k => neonwrightref04_Gray.l0 k (i : Int) (out : Int) ((t : Int) - 1)) ((upN t i out : Int), 0) := by
  intro t
  induction t with
  | zero =>
    intro i out _ _ _ _ _
    refine Ev.step (f := fun _ => some ((out : Int), 0)) (fun k => ?_) (Ev.now _)
    simp only [neonwrightref04_Gray.l0]
    rw [if_neg (by omega)]
  | succ t ih =>
    intro i out ht hi ho hit hop
    have hp := pow12 (n := t) (by omega)
    have hp0 := Nat.two_pow_pos t
    have e0 : (((t + 1 : Nat) : Int) - 1) = (t : Int) := by omega
    have e1 : wrap64 ((t : Int) - 1) = (t : Int) - 1 := w64 (by omega) (by omega)
    have e2 : wrap64 ((t : Int) + 1) = ((t + 1 : Nat) : Int) := by rw [w64 (by omega) (by omega)]; rfl
    rw [Nat.pow_succ] at hit hop
    rw [e0]
    by_cases hb : 2 ^ t ≤ i
    · have h := ih (2 ^ (t + 1) - 1 - i) (out + 2 ^ t) (by omega) (by rw [Nat.pow_succ]; omega) (by omega) (by rw [Nat.pow_succ]; omega) (by omega)
      unfold upN
      rw [if_pos hb]
      refine Ev.step (f := fun k => neonwrightref04_Gray.l0 k ((2 ^ (t + 1) - 1 - i : Nat) : Int) ((out + 2 ^ t : Nat) : Int) ((t : Int) - 1)) (fun k => ?_) h
      simp only [neonwrightref04_Gray.l0]
      have hq : 2 ^ (t + 1) = 2 ^ t * 2 := Nat.pow_succ 2 t
      rw [if_pos (by omega), if_pos (by omega), shl1n (by omega), if_pos (by omega), e2, if_pos (by omega), shl1n (by omega), e1, hq]
      generalize 2 ^ t = p at hp hp0 hb hit hop
      rw [w64 (x := ((p * 2 : Nat) : Int) - 1) (by omega) (by omega), w64 (x := ((p * 2 : Nat) : Int) - 1 - (i : Int)) (by omega) (by omega), w64 (x := (out : Int) + (p : Int)) (by omega) (by omega)]
      rw [show ((p * 2 - 1 - i : Nat) : Int) = ((p * 2 : Nat) : Int) - 1 - (i : Int) from by omega]
      rfl
    · have h := ih i out (by omega) hi ho (by omega) (by omega)
      unfold upN
      rw [if_neg hb]
      refine Ev.step (f := fun k => neonwrightref04_Gray.l0 k (i : Int) (out : Int) ((t : Int) - 1)) (fun k => ?_) h
      simp only [neonwrightref04_Gray.l0]
      rw [if_pos (by omega), if_pos (by omega), shl1n (by omega), if_neg (by omega), e1]
theorem rgray_ev (n i : Int) : Ev (fun k => neonwrightref04_Gray.f k n i) (grayR n i) := by
  unfold grayR inTubes
  by_cases hn : 1 ≤ n ∧ n ≤ 12
  · obtain ⟨m, rfl⟩ : ∃ m : Nat, n = m := ⟨n.toNat, by omega⟩
    have hp := pow12 (n := m) (by omega)
    rw [Int.toNat_natCast]
    by_cases h0 : i < 0
    · rw [decide_eq_false (by omega), if_neg (by decide)]
      refine Ev.congr (f := fun k => neonwrightref04_Gray.j0 k (m : Int) i true) (fun k => ?_) (Ev.step (f := fun _ => some (0, 2)) (fun k => ?_) (Ev.now _))
      · show neonwrightref04_Gray.f k _ _ = _
        unfold neonwrightref04_Gray.f
        rw [tubes_f, Option.bind_some, decide_eq_true hn, if_pos rfl, if_pos h0]
      · simp only [neonwrightref04_Gray.j0]; rfl
    · by_cases h1 : i ≥ ((2 ^ m : Nat) : Int)
      · rw [decide_eq_false (by omega), if_neg (by decide)]
        refine Ev.congr (f := fun k => neonwrightref04_Gray.j0 k (m : Int) i true) (fun k => ?_) (Ev.step (f := fun _ => some (0, 2)) (fun k => ?_) (Ev.now _))
        · show neonwrightref04_Gray.f k _ _ = _
          unfold neonwrightref04_Gray.f
          rw [tubes_f, Option.bind_some, decide_eq_true hn, if_pos rfl, if_neg h0, if_pos (by omega), shl1n (by omega), decide_eq_true h1]
        · simp only [neonwrightref04_Gray.j0]; rfl
      · obtain ⟨j, rfl⟩ : ∃ j : Nat, i = j := ⟨i.toNat, by omega⟩
        rw [decide_eq_true (by omega), if_pos rfl, Int.toNat_natCast]
        have h := rgray_l0 m j 0 (by omega) (by omega) (by omega) (by omega) (by omega)
        rw [up_gray m j 0 (by omega), Nat.zero_add] at h
        refine Ev.congr (f := fun k => neonwrightref04_Gray.j0 k (m : Int) (j : Int) false) (fun k => ?_) (Ev.step (f := fun k => neonwrightref04_Gray.l0 k (j : Int) ((0 : Nat) : Int) ((m : Int) - 1)) (fun k => ?_) h)
        · show neonwrightref04_Gray.f k _ _ = _
          unfold neonwrightref04_Gray.f
          rw [tubes_f, Option.bind_some, decide_eq_true hn, if_pos rfl, if_neg h0, if_pos (by omega), shl1n (by omega), decide_eq_false h1]
        · simp only [neonwrightref04_Gray.j0]
          rw [if_neg (by decide), w64 (x := (m : Int) - 1) (by omega) (by omega)]
          rfl
  · rw [decide_eq_false (fun h => hn h.1), if_neg (by decide)]
    refine Ev.congr (f := fun k => neonwrightref04_Gray.j0 k n i true) (fun k => ?_) (Ev.step (f := fun _ => some (0, 2)) (fun k => ?_) (Ev.now _))
    · show neonwrightref04_Gray.f k _ _ = _
      unfold neonwrightref04_Gray.f
      rw [tubes_f, Option.bind_some, decide_eq_false hn, if_neg (by decide)]
    · simp only [neonwrightref04_Gray.j0]; rfl
theorem rank_l0 : ∀ (f x out : Nat), x < 2 ^ f → x < 4096 → out < 4096 → Ev (fun k => flash_Rank.l0 k (x : Int) (out : Int)) (((out ^^^ rankN f x : Nat) : Int), 0) := by
  intro f
  induction f with
  | zero =>
    intro x out hx _ _
    have : x = 0 := by simpa using hx
    subst this
    refine Ev.step (f := fun _ => some ((out : Int), 0)) (fun k => ?_) ?_
    · simp only [flash_Rank.l0]; rw [if_neg (by omega)]
    · unfold rankN; rw [Nat.xor_zero]; exact Ev.now _
  | succ f ih =>
    intro x out hx hx2 ho
    rw [Nat.pow_succ] at hx
    unfold rankN
    by_cases h0 : 0 < x
    · rw [if_pos h0]
      have hxo : out ^^^ x < 4096 := Nat.xor_lt_two_pow (n := 12) ho hx2
      have h := ih (x / 2) (out ^^^ x) (by omega) (by omega) hxo
      rw [Nat.xor_assoc] at h
      refine Ev.step (f := fun k => flash_Rank.l0 k ((x / 2 : Nat) : Int) ((out ^^^ x : Nat) : Int)) (fun k => ?_) h
      simp only [flash_Rank.l0]
      rw [if_pos (by omega), show Int.tdiv (x : Int) 2 = ((x / 2 : Nat) : Int) from tdivn x 2, w64n _ (by omega), xor64 out x (by omega) (by omega)]
    · rw [if_neg h0, Nat.xor_zero]
      refine Ev.step (f := fun _ => some ((out : Int), 0)) (fun k => ?_) (Ev.now _)
      simp only [flash_Rank.l0]; rw [if_neg (by omega)]
theorem rank_ev (n s : Int) : Ev (fun k => flash_Rank.f k n s) (rankR n s) := by
  unfold rankR inTubes
  by_cases hn : 1 ≤ n ∧ n ≤ 12
  · obtain ⟨m, rfl⟩ : ∃ m : Nat, n = m := ⟨n.toNat, by omega⟩
    have hp := pow12 (n := m) (by omega)
    rw [Int.toNat_natCast]
    by_cases h0 : s < 0
    · rw [decide_eq_false (by omega), if_neg (by decide)]
      refine Ev.congr (f := fun k => flash_Rank.j0 k s true) (fun k => ?_) (Ev.step (f := fun _ => some (0, 2)) (fun k => ?_) (Ev.now _))
      · show flash_Rank.f k _ _ = _
        unfold flash_Rank.f
        rw [sized_f, Option.bind_some, decide_eq_true hn, if_pos rfl, if_pos h0]
      · simp only [flash_Rank.j0]; rfl
    · by_cases h1 : s ≥ ((2 ^ m : Nat) : Int)
      · rw [decide_eq_false (by omega), if_neg (by decide)]
        refine Ev.congr (f := fun k => flash_Rank.j0 k s true) (fun k => ?_) (Ev.step (f := fun _ => some (0, 2)) (fun k => ?_) (Ev.now _))
        · show flash_Rank.f k _ _ = _
          unfold flash_Rank.f
          rw [sized_f, Option.bind_some, decide_eq_true hn, if_pos rfl, if_neg h0, if_pos (by omega), shl1n (by omega), decide_eq_true h1]
        · simp only [flash_Rank.j0]; rfl
      · obtain ⟨j, rfl⟩ : ∃ j : Nat, s = j := ⟨s.toNat, by omega⟩
        rw [decide_eq_true (by omega), if_pos rfl, Int.toNat_natCast]
        have h := rank_l0 13 j 0 (by show j < 8192; omega) (by omega) (by omega)
        rw [Nat.zero_xor] at h
        refine Ev.congr (f := fun k => flash_Rank.j0 k (j : Int) false) (fun k => ?_) (Ev.step (f := fun k => flash_Rank.l0 k (j : Int) ((0 : Nat) : Int)) (fun k => ?_) h)
        · show flash_Rank.f k _ _ = _
          unfold flash_Rank.f
          rw [sized_f, Option.bind_some, decide_eq_true hn, if_pos rfl, if_neg h0, if_pos (by omega), shl1n (by omega), decide_eq_false h1]
        · simp only [flash_Rank.j0]; rfl
  · rw [decide_eq_false (fun h => hn h.1), if_neg (by decide)]
    refine Ev.congr (f := fun k => flash_Rank.j0 k s true) (fun k => ?_) (Ev.step (f := fun _ => some (0, 2)) (fun k => ?_) (Ev.now _))
    · show flash_Rank.f k _ _ = _
      unfold flash_Rank.f
      rw [sized_f, Option.bind_some, decide_eq_false hn, if_neg (by decide)]
    · simp only [flash_Rank.j0]; rfl
theorem rrank_l0 (n s : Nat) (hn : n ≤ 12) (hs : s < 4096) : ∀ (d t : Nat), t + d = n → Ev (fun k => neonwrightref04_Rank.l0 k (n : Int) (s : Int) (placeN s t : Int) (t : Int)) ((placeN s n : Int), 0) := by
  intro d
  induction d with
  | zero =>
    intro t h
    obtain rfl : t = n := by omega
    refine Ev.step (f := fun _ => some ((placeN s t : Int), 0)) (fun k => ?_) (Ev.now _)
    simp only [neonwrightref04_Rank.l0]
    rw [if_neg (by omega)]
  | succ d ih =>
    intro t h
    have h1 := ih (t + 1) (by omega)
    have hp := pow12 (n := t + 1) (by omega)
    have hlt := (place_gray s t).1
    have hq : 2 ^ (t + 1) = 2 ^ t * 2 := Nat.pow_succ 2 t
    have e2 : wrap64 ((t : Int) + 1) = ((t + 1 : Nat) : Int) := by rw [w64 (by omega) (by omega)]; rfl
    refine Ev.step (f := fun k => neonwrightref04_Rank.l0 k (n : Int) (s : Int) (placeN s (t + 1) : Int) ((t + 1 : Nat) : Int)) (fun k => ?_) h1
    simp only [neonwrightref04_Rank.l0]
    rw [if_pos (by omega), if_pos (by omega), shrn (by omega), show (2 : Int) = ((2 : Nat) : Int) from rfl, tmodn, e2]
    have hpl : placeN s (t + 1) = if s / 2 ^ t % 2 = 1 then 2 ^ (t + 1) - 1 - placeN s t else placeN s t := rfl
    rw [hpl]
    by_cases hb : s / 2 ^ t % 2 = 1
    · rw [if_pos (by omega), if_pos (by omega), if_pos hb, shl1n (by omega)]
      generalize placeN s t = p at hlt
      generalize 2 ^ t = u at hlt hq
      rw [hq] at hp ⊢
      rw [w64 (x := ((u * 2 : Nat) : Int) - 1) (by omega) (by omega), w64 (x := ((u * 2 : Nat) : Int) - 1 - (p : Int)) (by omega) (by omega)]
      rw [show ((u * 2 - 1 - p : Nat) : Int) = ((u * 2 : Nat) : Int) - 1 - (p : Int) from by omega]
    · rw [if_neg (by omega), if_neg hb]
theorem place_rank {n s : Nat} (hn : n ≤ 12) (hs : s < 2 ^ n) : rankN 13 s = placeN s n := by
  obtain ⟨h1, h2⟩ := place_gray s n
  rw [Nat.mod_eq_of_lt hs] at h2
  have hp := pow12 hn
  have h := rank_gray 13 (placeN s n) (by show _ < 8192; omega)
  rw [h2] at h
  exact h
theorem rrank_ev (n s : Int) : Ev (fun k => neonwrightref04_Rank.f k n s) (rankR n s) := by
  unfold rankR inTubes
  by_cases hn : 1 ≤ n ∧ n ≤ 12
  · obtain ⟨m, rfl⟩ : ∃ m : Nat, n = m := ⟨n.toNat, by omega⟩
    have hp := pow12 (n := m) (by omega)
    rw [Int.toNat_natCast]
    by_cases h0 : s < 0
    · rw [decide_eq_false (by omega), if_neg (by decide)]
      refine Ev.congr (f := fun k => neonwrightref04_Rank.j0 k (m : Int) s true) (fun k => ?_) (Ev.step (f := fun _ => some (0, 2)) (fun k => ?_) (Ev.now _))
      · show neonwrightref04_Rank.f k _ _ = _
        unfold neonwrightref04_Rank.f
        rw [tubes_f, Option.bind_some, decide_eq_true hn, if_pos rfl, if_pos h0]
      · simp only [neonwrightref04_Rank.j0]; rfl
    · by_cases h1 : s ≥ ((2 ^ m : Nat) : Int)
      · rw [decide_eq_false (by omega), if_neg (by decide)]
        refine Ev.congr (f := fun k => neonwrightref04_Rank.j0 k (m : Int) s true) (fun k => ?_) (Ev.step (f := fun _ => some (0, 2)) (fun k => ?_) (Ev.now _))
        · show neonwrightref04_Rank.f k _ _ = _
          unfold neonwrightref04_Rank.f
          rw [tubes_f, Option.bind_some, decide_eq_true hn, if_pos rfl, if_neg h0, if_pos (by omega), shl1n (by omega), decide_eq_true h1]
        · simp only [neonwrightref04_Rank.j0]; rfl
      · obtain ⟨j, rfl⟩ : ∃ j : Nat, s = j := ⟨s.toNat, by omega⟩
        rw [decide_eq_true (by omega), if_pos rfl, Int.toNat_natCast, place_rank (n := m) (by omega) (by omega)]
        have h := rrank_l0 m j (by omega) (by omega) m 0 (by omega)
        refine Ev.congr (f := fun k => neonwrightref04_Rank.j0 k (m : Int) (j : Int) false) (fun k => ?_) (Ev.step (f := fun k => neonwrightref04_Rank.l0 k (m : Int) (j : Int) ((0 : Nat) : Int) ((0 : Nat) : Int)) (fun k => ?_) h)
        · show neonwrightref04_Rank.f k _ _ = _
          unfold neonwrightref04_Rank.f
          rw [tubes_f, Option.bind_some, decide_eq_true hn, if_pos rfl, if_neg h0, if_pos (by omega), shl1n (by omega), decide_eq_false h1]
        · simp only [neonwrightref04_Rank.j0]; rfl
  · rw [decide_eq_false (fun h => hn h.1), if_neg (by decide)]
    refine Ev.congr (f := fun k => neonwrightref04_Rank.j0 k n s true) (fun k => ?_) (Ev.step (f := fun _ => some (0, 2)) (fun k => ?_) (Ev.now _))
    · show neonwrightref04_Rank.f k _ _ = _
      unfold neonwrightref04_Rank.f
      rw [tubes_f, Option.bind_some, decide_eq_false hn, if_neg (by decide)]
    · simp only [neonwrightref04_Rank.j0]; rfl
end Go.Proofs.Ytnakkdaeehglnaa.P
