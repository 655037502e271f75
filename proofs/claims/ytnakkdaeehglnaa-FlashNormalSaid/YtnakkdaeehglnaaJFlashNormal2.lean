/- Several texts of this session in one file, in build order: Pf14. -/
import Derived.Test.YtnakkdaeehglnaaJB1
import Derived.Test.YtnakkdaeehglnaaJB2
import Derived.Test.YtnakkdaeehglnaaJFlashNormal1
namespace Go.Proofs.Ytnakkdaeehglnaa.P
open Go.RowKit Go.Proofs.YtnakkdaeehglnaaW.PrintWords Go.Proofs.YtnakkdaeehglnaaW.PrintLast Go.Proofs.YtnakkdaeehglnaaW.PrintMore
attribute [local go_sem] max2_int min2_int max_two min_two max_three min_three max_four min_four   -- for this text's walks alone
set_option linter.unusedVariables false
set_option linter.unusedSimpArgs false

/-! ### neonwrightlaw04_FlashNormal: function 14 -/
mutual
def neonwrightlaw04_FlashNormal.j0 : Nat → Int → List Int → List Int → Int → Int → Bool → Option (Bool)
  | 0, _, _, _, _, _, _ => none
  | k + 1, x0, x1, x2, x3, x4, x45 => if x45 = true then ((neonwrightlaw04_alive.f k).bind fun t499 => (some t499)) else ((flash_Normal.f x0 x1).bind fun bt500 => ((flash_Normal.f x0 x2).bind fun bt504 => ((flash_Same.f k x0 x1 x2).bind fun bt508 => (if bt500.2 = 0 then (neonwrightlaw04_FlashNormal.j1 k x0 x1 x3 x4 bt500.1 bt504.1 bt508.1 bt508.2 (bt504.2 != 0)) else (neonwrightlaw04_FlashNormal.j1 k x0 x1 x3 x4 bt500.1 bt504.1 bt508.1 bt508.2 true)))))
def neonwrightlaw04_FlashNormal.j1 : Nat → Int → List Int → Int → Int → List Int → List Int → Bool → Int → Bool → Option (Bool)
  | 0, _, _, _, _, _, _, _, _, _ => none
  | k + 1, x0, x1, x3, x4, x11, x13, x15, x16, x71 => if x71 = true then (if x16 = 0 then (some false) else (if x15 = true then (some false) else ((neonwrightlaw04_alive.f k).bind fun t510 => (some t510)))) else (if x16 = 0 then ((neonwrightlaw04_same.f k x11 x13).bind fun t511 => (if (x15 != t511) = true then (neonwrightlaw04_FlashNormal.j2 k x0 x1 x3 x4 x11 true) else (if (x11.length : Int) = (x1.length : Int) then (if 0 < (x11.length : Int) then (neonwrightlaw04_FlashNormal.j2 k x0 x1 x3 x4 x11 ((rd x11 0) != 0)) else (none)) else (neonwrightlaw04_FlashNormal.j2 k x0 x1 x3 x4 x11 true)))) else (neonwrightlaw04_FlashNormal.j2 k x0 x1 x3 x4 x11 true))
def neonwrightlaw04_FlashNormal.j2 : Nat → Int → List Int → Int → Int → List Int → Bool → Option (Bool)
  | 0, _, _, _, _, _, _ => none
  | k + 1, x0, x1, x3, x4, x11, x102 => if x102 = true then (some false) else ((flash_Same.f k x0 x1 x11).bind fun bt513 => (if x0 = 0 then (none) else (neonwrightlaw04_FlashNormal.l0 k x0 x1 x3 x11 bt513.2 bt513.1 ([] : List Int) (Int.tmod (wrap64 (x4)) x0) 0)))
def neonwrightlaw04_FlashNormal.l0 : Nat → Int → List Int → Int → List Int → Int → Bool → List Int → Int → Int → Option (Bool)
  | 0, _, _, _, _, _, _, _, _, _ => none
  | k + 1, x0, x1, x3, x11, x12, x17, x18, x19, x20 => if x20 < (x1.length : Int) then (if 0 ≤ x20 then (if 0 ≤ x0 then (if (shl .i64 1 x0) = 0 then (none) else (if 0 ≤ x19 then (if 0 ≤ (wrap64 (x0 - x19)) then (if x18.length < 17592186044416 then (neonwrightlaw04_FlashNormal.l0 k x0 x1 x3 x11 x12 x17 (x18 ++ [wrap64 ((Int.tmod (shl .i64 (Go.bits .xor .i64 (rd x1 x20) (Int.tmod (wrap64 (x3)) (shl .i64 1 x0))) x19) (shl .i64 1 x0)) + (shr .i64 (Go.bits .xor .i64 (rd x1 x20) (Int.tmod (wrap64 (x3)) (shl .i64 1 x0))) (wrap64 (x0 - x19))))]) x19 (wrap64 (x20 + 1))) else (none)) else (none)) else (none))) else (none)) else (none)) else ((flash_Same.f k x0 x1 x18).bind fun bt519 => ((flash_Normal.f x0 x18).bind fun bt521 => (if x12 = 0 then (if bt519.2 = 0 then (if bt521.2 = 0 then (if x17 = true then (if bt519.1 = true then ((neonwrightlaw04_same.f k x11 bt521.1).bind fun t525 => (neonwrightlaw04_FlashNormal.j4 k x0 x1 x18 x19 (!t525))) else (neonwrightlaw04_FlashNormal.j4 k x0 x1 x18 x19 true)) else (neonwrightlaw04_FlashNormal.j4 k x0 x1 x18 x19 true)) else (neonwrightlaw04_FlashNormal.j4 k x0 x1 x18 x19 true)) else (neonwrightlaw04_FlashNormal.j4 k x0 x1 x18 x19 true)) else (neonwrightlaw04_FlashNormal.j4 k x0 x1 x18 x19 true))))
def neonwrightlaw04_FlashNormal.j4 : Nat → Int → List Int → List Int → Int → Bool → Option (Bool)
  | 0, _, _, _, _, _ => none
  | k + 1, x0, x1, x18, x19, x181 => if x181 = true then (some false) else ((flash_Path.f x0 x1).bind fun bt526 => ((flash_Path.f x0 x18).bind fun bt529 => ((flash_Snake.f k x0 x1).bind fun bt532 => ((flash_Snake.f k x0 x18).bind fun bt535 => (if bt526.2.2 = 0 then (if bt529.2.2 = 0 then (if bt532.2.2 = 0 then (if bt535.2.2 = 0 then (if (bt526.1 != bt529.1) = true then (neonwrightlaw04_FlashNormal.j5 k x0 x1 x18 x19 bt526.1 true) else (if (bt526.2.1 != bt529.2.1) = true then (neonwrightlaw04_FlashNormal.j5 k x0 x1 x18 x19 bt526.1 true) else (if (bt532.1 != bt535.1) = true then (neonwrightlaw04_FlashNormal.j5 k x0 x1 x18 x19 bt526.1 true) else (neonwrightlaw04_FlashNormal.j5 k x0 x1 x18 x19 bt526.1 (bt532.2.1 != bt535.2.1))))) else (neonwrightlaw04_FlashNormal.j5 k x0 x1 x18 x19 bt526.1 true)) else (neonwrightlaw04_FlashNormal.j5 k x0 x1 x18 x19 bt526.1 true)) else (neonwrightlaw04_FlashNormal.j5 k x0 x1 x18 x19 bt526.1 true)) else (neonwrightlaw04_FlashNormal.j5 k x0 x1 x18 x19 bt526.1 true))))))
def neonwrightlaw04_FlashNormal.j5 : Nat → Int → List Int → List Int → Int → Bool → Bool → Option (Bool)
  | 0, _, _, _, _, _, _ => none
  | k + 1, x0, x1, x18, x19, x25, x243 => if x243 = true then (some false) else ((flash_Changes.f k x0 x1).bind fun bt538 => ((flash_Changes.f k x0 x18).bind fun bt542 => (neonwrightlaw04_FlashNormal.l1 k x0 x19 x25 bt538.1 bt542.1 0)))
def neonwrightlaw04_FlashNormal.l1 : Nat → Int → Int → Bool → List Int → List Int → Int → Option (Bool)
  | 0, _, _, _, _, _, _ => none
  | k + 1, x0, x19, x25, x33, x35, x37 => if x37 < (x33.length : Int) then (neonwrightlaw04_FlashNormal.j7 k x0 x19 x25 x33 x35 x37 x25) else (neonwrightlaw04_FlashNormal.j7 k x0 x19 x25 x33 x35 x37 false)
def neonwrightlaw04_FlashNormal.j7 : Nat → Int → Int → Bool → List Int → List Int → Int → Bool → Option (Bool)
  | 0, _, _, _, _, _, _, _ => none
  | k + 1, x0, x19, x25, x33, x35, x37, x262 => if x262 = true then (if (x35.length : Int) = (x33.length : Int) then (if x0 = 0 then (none) else (if 0 ≤ (Int.tmod (wrap64 (x37 + x19)) x0) then (if (Int.tmod (wrap64 (x37 + x19)) x0) < (x35.length : Int) then (if 0 ≤ x37 then (if x37 < (x33.length : Int) then (if (rd x35 (Int.tmod (wrap64 (x37 + x19)) x0)) = (rd x33 x37) then (neonwrightlaw04_FlashNormal.l1 k x0 x19 x25 x33 x35 (wrap64 (x37 + 1))) else (some false)) else (none)) else (none)) else (none)) else (none))) else (some false)) else ((neonwrightlaw04_alive.f k).bind fun t548 => (some t548))
end
def neonwrightlaw04_FlashNormal.f (k : Nat) (a0 : Int) (l1 : List Int) (l2 : List Int) (a3 : Int) (a4 : Int) : Option (Bool) := (neonwrightlaw04_few.f l1).bind fun t497 => (if t497 = true then ((neonwrightlaw04_few.f l2).bind fun t498 => (neonwrightlaw04_FlashNormal.j0 k a0 l1 l2 a3 a4 (!t498))) else (neonwrightlaw04_FlashNormal.j0 k a0 l1 l2 a3 a4 true))
theorem neonwrightlaw04_FlashNormal.mono_l : ∀ k, (∀ y0 y1 y2 y3 y4 y5, LeO (neonwrightlaw04_FlashNormal.j0 k y0 y1 y2 y3 y4 y5) (neonwrightlaw04_FlashNormal.j0 (k + 1) y0 y1 y2 y3 y4 y5)) ∧ (∀ y0 y1 y2 y3 y4 y5 y6 y7 y8, LeO (neonwrightlaw04_FlashNormal.j1 k y0 y1 y2 y3 y4 y5 y6 y7 y8) (neonwrightlaw04_FlashNormal.j1 (k + 1) y0 y1 y2 y3 y4 y5 y6 y7 y8)) ∧ (∀ y0 y1 y2 y3 y4 y5, LeO (neonwrightlaw04_FlashNormal.j2 k y0 y1 y2 y3 y4 y5) (neonwrightlaw04_FlashNormal.j2 (k + 1) y0 y1 y2 y3 y4 y5)) ∧ (∀ y0 y1 y2 y3 y4 y5 y6 y7 y8, LeO (neonwrightlaw04_FlashNormal.l0 k y0 y1 y2 y3 y4 y5 y6 y7 y8) (neonwrightlaw04_FlashNormal.l0 (k + 1) y0 y1 y2 y3 y4 y5 y6 y7 y8)) ∧ (∀ y0 y1 y2 y3 y4, LeO (neonwrightlaw04_FlashNormal.j4 k y0 y1 y2 y3 y4) (neonwrightlaw04_FlashNormal.j4 (k + 1) y0 y1 y2 y3 y4)) ∧ (∀ y0 y1 y2 y3 y4 y5, LeO (neonwrightlaw04_FlashNormal.j5 k y0 y1 y2 y3 y4 y5) (neonwrightlaw04_FlashNormal.j5 (k + 1) y0 y1 y2 y3 y4 y5)) ∧ (∀ y0 y1 y2 y3 y4 y5, LeO (neonwrightlaw04_FlashNormal.l1 k y0 y1 y2 y3 y4 y5) (neonwrightlaw04_FlashNormal.l1 (k + 1) y0 y1 y2 y3 y4 y5)) ∧ (∀ y0 y1 y2 y3 y4 y5 y6, LeO (neonwrightlaw04_FlashNormal.j7 k y0 y1 y2 y3 y4 y5 y6) (neonwrightlaw04_FlashNormal.j7 (k + 1) y0 y1 y2 y3 y4 y5 y6))
  | 0 => ⟨fun _ _ _ _ _ _ r h => by simp [neonwrightlaw04_FlashNormal.j0] at h, fun _ _ _ _ _ _ _ _ _ r h => by simp [neonwrightlaw04_FlashNormal.j1] at h, fun _ _ _ _ _ _ r h => by simp [neonwrightlaw04_FlashNormal.j2] at h, fun _ _ _ _ _ _ _ _ _ r h => by simp [neonwrightlaw04_FlashNormal.l0] at h, fun _ _ _ _ _ r h => by simp [neonwrightlaw04_FlashNormal.j4] at h, fun _ _ _ _ _ _ r h => by simp [neonwrightlaw04_FlashNormal.j5] at h, fun _ _ _ _ _ _ r h => by simp [neonwrightlaw04_FlashNormal.l1] at h, fun _ _ _ _ _ _ _ r h => by simp [neonwrightlaw04_FlashNormal.j7] at h⟩
  | k + 1 => by
    obtain ⟨ih0, ih1, ih2, ih3, ih4, ih5, ih6, ih7⟩ := neonwrightlaw04_FlashNormal.mono_l k
    refine ⟨?_, ?_, ?_, ?_, ?_, ?_, ?_, ?_⟩
    · intro y0 y1 y2 y3 y4 y5
      unfold neonwrightlaw04_FlashNormal.j0
      repeat' first
      | (with_reducible exact ih0 _ _ _ _ _ _)
      | (with_reducible exact ih1 _ _ _ _ _ _ _ _ _)
      | (with_reducible exact ih2 _ _ _ _ _ _)
      | (with_reducible exact ih3 _ _ _ _ _ _ _ _ _)
      | (with_reducible exact ih4 _ _ _ _ _)
      | (with_reducible exact ih5 _ _ _ _ _ _)
      | (with_reducible exact ih6 _ _ _ _ _ _)
      | (with_reducible exact ih7 _ _ _ _ _ _ _)
      | (with_reducible exact flash_Changes.mono _ _ _)
      | (with_reducible exact flash_Same.mono _ _ _ _)
      | (with_reducible exact flash_Snake.mono _ _ _)
      | (with_reducible exact neonwrightlaw04_alive.mono _)
      | (with_reducible exact neonwrightlaw04_same.mono _ _ _)
      | (with_reducible exact LeO.refl _)
      | (with_reducible exact LeO.none _)
      | (with_reducible refine LeO.ite ?_ ?_)
      | (with_reducible refine LeO.bind ?_ (fun _ => ?_))
      | exact ih0 _ _ _ _ _ _
      | exact ih1 _ _ _ _ _ _ _ _ _
      | exact ih2 _ _ _ _ _ _
      | exact ih3 _ _ _ _ _ _ _ _ _
      | exact ih4 _ _ _ _ _
      | exact ih5 _ _ _ _ _ _
      | exact ih6 _ _ _ _ _ _
      | exact ih7 _ _ _ _ _ _ _
      | exact flash_Changes.mono _ _ _
      | exact flash_Same.mono _ _ _ _
      | exact flash_Snake.mono _ _ _
      | exact neonwrightlaw04_alive.mono _
      | exact neonwrightlaw04_same.mono _ _ _
      | exact LeO.none _
      | refine LeO.ite ?_ ?_
      | refine LeO.bind ?_ (fun _ => ?_)
    · intro y0 y1 y2 y3 y4 y5 y6 y7 y8
      unfold neonwrightlaw04_FlashNormal.j1
      repeat' first
      | (with_reducible exact ih0 _ _ _ _ _ _)
      | (with_reducible exact ih1 _ _ _ _ _ _ _ _ _)
      | (with_reducible exact ih2 _ _ _ _ _ _)
      | (with_reducible exact ih3 _ _ _ _ _ _ _ _ _)
      | (with_reducible exact ih4 _ _ _ _ _)
      | (with_reducible exact ih5 _ _ _ _ _ _)
      | (with_reducible exact ih6 _ _ _ _ _ _)
      | (with_reducible exact ih7 _ _ _ _ _ _ _)
      | (with_reducible exact flash_Changes.mono _ _ _)
      | (with_reducible exact flash_Same.mono _ _ _ _)
      | (with_reducible exact flash_Snake.mono _ _ _)
      | (with_reducible exact neonwrightlaw04_alive.mono _)
      | (with_reducible exact neonwrightlaw04_same.mono _ _ _)
      | (with_reducible exact LeO.refl _)
      | (with_reducible exact LeO.none _)
      | (with_reducible refine LeO.ite ?_ ?_)
      | (with_reducible refine LeO.bind ?_ (fun _ => ?_))
      | exact ih0 _ _ _ _ _ _
      | exact ih1 _ _ _ _ _ _ _ _ _
      | exact ih2 _ _ _ _ _ _
      | exact ih3 _ _ _ _ _ _ _ _ _
      | exact ih4 _ _ _ _ _
      | exact ih5 _ _ _ _ _ _
      | exact ih6 _ _ _ _ _ _
      | exact ih7 _ _ _ _ _ _ _
      | exact flash_Changes.mono _ _ _
      | exact flash_Same.mono _ _ _ _
      | exact flash_Snake.mono _ _ _
      | exact neonwrightlaw04_alive.mono _
      | exact neonwrightlaw04_same.mono _ _ _
      | exact LeO.none _
      | refine LeO.ite ?_ ?_
      | refine LeO.bind ?_ (fun _ => ?_)
    · intro y0 y1 y2 y3 y4 y5
      unfold neonwrightlaw04_FlashNormal.j2
      repeat' first
      | (with_reducible exact ih0 _ _ _ _ _ _)
      | (with_reducible exact ih1 _ _ _ _ _ _ _ _ _)
      | (with_reducible exact ih2 _ _ _ _ _ _)
      | (with_reducible exact ih3 _ _ _ _ _ _ _ _ _)
      | (with_reducible exact ih4 _ _ _ _ _)
      | (with_reducible exact ih5 _ _ _ _ _ _)
      | (with_reducible exact ih6 _ _ _ _ _ _)
      | (with_reducible exact ih7 _ _ _ _ _ _ _)
      | (with_reducible exact flash_Changes.mono _ _ _)
      | (with_reducible exact flash_Same.mono _ _ _ _)
      | (with_reducible exact flash_Snake.mono _ _ _)
      | (with_reducible exact neonwrightlaw04_alive.mono _)
      | (with_reducible exact neonwrightlaw04_same.mono _ _ _)
      | (with_reducible exact LeO.refl _)
      | (with_reducible exact LeO.none _)
      | (with_reducible refine LeO.ite ?_ ?_)
      | (with_reducible refine LeO.bind ?_ (fun _ => ?_))
      | exact ih0 _ _ _ _ _ _
      | exact ih1 _ _ _ _ _ _ _ _ _
      | exact ih2 _ _ _ _ _ _
      | exact ih3 _ _ _ _ _ _ _ _ _
      | exact ih4 _ _ _ _ _
      | exact ih5 _ _ _ _ _ _
      | exact ih6 _ _ _ _ _ _
      | exact ih7 _ _ _ _ _ _ _
      | exact flash_Changes.mono _ _ _
      | exact flash_Same.mono _ _ _ _
      | exact flash_Snake.mono _ _ _
      | exact neonwrightlaw04_alive.mono _
      | exact neonwrightlaw04_same.mono _ _ _
      | exact LeO.none _
      | refine LeO.ite ?_ ?_
      | refine LeO.bind ?_ (fun _ => ?_)
    · intro y0 y1 y2 y3 y4 y5 y6 y7 y8
      unfold neonwrightlaw04_FlashNormal.l0
      repeat' first
      | (with_reducible exact ih0 _ _ _ _ _ _)
      | (with_reducible exact ih1 _ _ _ _ _ _ _ _ _)
      | (with_reducible exact ih2 _ _ _ _ _ _)
      | (with_reducible exact ih3 _ _ _ _ _ _ _ _ _)
      | (with_reducible exact ih4 _ _ _ _ _)
      | (with_reducible exact ih5 _ _ _ _ _ _)
      | (with_reducible exact ih6 _ _ _ _ _ _)
      | (with_reducible exact ih7 _ _ _ _ _ _ _)
      | (with_reducible exact flash_Changes.mono _ _ _)
      | (with_reducible exact flash_Same.mono _ _ _ _)
      | (with_reducible exact flash_Snake.mono _ _ _)
      | (with_reducible exact neonwrightlaw04_alive.mono _)
      | (with_reducible exact neonwrightlaw04_same.mono _ _ _)
      | (with_reducible exact LeO.refl _)
      | (with_reducible exact LeO.none _)
      | (with_reducible refine LeO.ite ?_ ?_)
      | (with_reducible refine LeO.bind ?_ (fun _ => ?_))
      | exact ih0 _ _ _ _ _ _
      | exact ih1 _ _ _ _ _ _ _ _ _
      | exact ih2 _ _ _ _ _ _
      | exact ih3 _ _ _ _ _ _ _ _ _
      | exact ih4 _ _ _ _ _
      | exact ih5 _ _ _ _ _ _
      | exact ih6 _ _ _ _ _ _
      | exact ih7 _ _ _ _ _ _ _
      | exact flash_Changes.mono _ _ _
      | exact flash_Same.mono _ _ _ _
      | exact flash_Snake.mono _ _ _
      | exact neonwrightlaw04_alive.mono _
      | exact neonwrightlaw04_same.mono _ _ _
      | exact LeO.none _
      | refine LeO.ite ?_ ?_
      | refine LeO.bind ?_ (fun _ => ?_)
    · intro y0 y1 y2 y3 y4
      unfold neonwrightlaw04_FlashNormal.j4
      repeat' first
      | (with_reducible exact ih0 _ _ _ _ _ _)
      | (with_reducible exact ih1 _ _ _ _ _ _ _ _ _)
      | (with_reducible exact ih2 _ _ _ _ _ _)
      | (with_reducible exact ih3 _ _ _ _ _ _ _ _ _)
      | (with_reducible exact ih4 _ _ _ _ _)
      | (with_reducible exact ih5 _ _ _ _ _ _)
      | (with_reducible exact ih6 _ _ _ _ _ _)
      | (with_reducible exact ih7 _ _ _ _ _ _ _)
      | (with_reducible exact flash_Changes.mono _ _ _)
      | (with_reducible exact flash_Same.mono _ _ _ _)
      | (with_reducible exact flash_Snake.mono _ _ _)
      | (with_reducible exact neonwrightlaw04_alive.mono _)
      | (with_reducible exact neonwrightlaw04_same.mono _ _ _)
      | (with_reducible exact LeO.refl _)
      | (with_reducible exact LeO.none _)
      | (with_reducible refine LeO.ite ?_ ?_)
      | (with_reducible refine LeO.bind ?_ (fun _ => ?_))
      | exact ih0 _ _ _ _ _ _
      | exact ih1 _ _ _ _ _ _ _ _ _
      | exact ih2 _ _ _ _ _ _
      | exact ih3 _ _ _ _ _ _ _ _ _
      | exact ih4 _ _ _ _ _
      | exact ih5 _ _ _ _ _ _
      | exact ih6 _ _ _ _ _ _
      | exact ih7 _ _ _ _ _ _ _
      | exact flash_Changes.mono _ _ _
      | exact flash_Same.mono _ _ _ _
      | exact flash_Snake.mono _ _ _
      | exact neonwrightlaw04_alive.mono _
      | exact neonwrightlaw04_same.mono _ _ _
      | exact LeO.none _
      | refine LeO.ite ?_ ?_
      | refine LeO.bind ?_ (fun _ => ?_)
    · intro y0 y1 y2 y3 y4 y5
      unfold neonwrightlaw04_FlashNormal.j5
      repeat' first
      | (with_reducible exact ih0 _ _ _ _ _ _)
      | (with_reducible exact ih1 _ _ _ _ _ _ _ _ _)
      | (with_reducible exact ih2 _ _ _ _ _ _)
      | (with_reducible exact ih3 _ _ _ _ _ _ _ _ _)
      | (with_reducible exact ih4 _ _ _ _ _)
      | (with_reducible exact ih5 _ _ _ _ _ _)
      | (with_reducible exact ih6 _ _ _ _ _ _)
      | (with_reducible exact ih7 _ _ _ _ _ _ _)
      | (with_reducible exact flash_Changes.mono _ _ _)
      | (with_reducible exact flash_Same.mono _ _ _ _)
      | (with_reducible exact flash_Snake.mono _ _ _)
      | (with_reducible exact neonwrightlaw04_alive.mono _)
      | (with_reducible exact neonwrightlaw04_same.mono _ _ _)
      | (with_reducible exact LeO.refl _)
      | (with_reducible exact LeO.none _)
      | (with_reducible refine LeO.ite ?_ ?_)
      | (with_reducible refine LeO.bind ?_ (fun _ => ?_))
      | exact ih0 _ _ _ _ _ _
      | exact ih1 _ _ _ _ _ _ _ _ _
      | exact ih2 _ _ _ _ _ _
      | exact ih3 _ _ _ _ _ _ _ _ _
      | exact ih4 _ _ _ _ _
      | exact ih5 _ _ _ _ _ _
      | exact ih6 _ _ _ _ _ _
      | exact ih7 _ _ _ _ _ _ _
      | exact flash_Changes.mono _ _ _
      | exact flash_Same.mono _ _ _ _
      | exact flash_Snake.mono _ _ _
      | exact neonwrightlaw04_alive.mono _
      | exact neonwrightlaw04_same.mono _ _ _
      | exact LeO.none _
      | refine LeO.ite ?_ ?_
      | refine LeO.bind ?_ (fun _ => ?_)
    · intro y0 y1 y2 y3 y4 y5
      unfold neonwrightlaw04_FlashNormal.l1
      repeat' first
      | (with_reducible exact ih0 _ _ _ _ _ _)
      | (with_reducible exact ih1 _ _ _ _ _ _ _ _ _)
      | (with_reducible exact ih2 _ _ _ _ _ _)
      | (with_reducible exact ih3 _ _ _ _ _ _ _ _ _)
      | (with_reducible exact ih4 _ _ _ _ _)
      | (with_reducible exact ih5 _ _ _ _ _ _)
      | (with_reducible exact ih6 _ _ _ _ _ _)
      | (with_reducible exact ih7 _ _ _ _ _ _ _)
      | (with_reducible exact flash_Changes.mono _ _ _)
      | (with_reducible exact flash_Same.mono _ _ _ _)
      | (with_reducible exact flash_Snake.mono _ _ _)
      | (with_reducible exact neonwrightlaw04_alive.mono _)
      | (with_reducible exact neonwrightlaw04_same.mono _ _ _)
      | (with_reducible exact LeO.refl _)
      | (with_reducible exact LeO.none _)
      | (with_reducible refine LeO.ite ?_ ?_)
      | (with_reducible refine LeO.bind ?_ (fun _ => ?_))
      | exact ih0 _ _ _ _ _ _
      | exact ih1 _ _ _ _ _ _ _ _ _
      | exact ih2 _ _ _ _ _ _
      | exact ih3 _ _ _ _ _ _ _ _ _
      | exact ih4 _ _ _ _ _
      | exact ih5 _ _ _ _ _ _
      | exact ih6 _ _ _ _ _ _
      | exact ih7 _ _ _ _ _ _ _
      | exact flash_Changes.mono _ _ _
      | exact flash_Same.mono _ _ _ _
      | exact flash_Snake.mono _ _ _
      | exact neonwrightlaw04_alive.mono _
      | exact neonwrightlaw04_same.mono _ _ _
      | exact LeO.none _
      | refine LeO.ite ?_ ?_
      | refine LeO.bind ?_ (fun _ => ?_)
    · intro y0 y1 y2 y3 y4 y5 y6
      unfold neonwrightlaw04_FlashNormal.j7
      repeat' first
      | (with_reducible exact ih0 _ _ _ _ _ _)
      | (with_reducible exact ih1 _ _ _ _ _ _ _ _ _)
      | (with_reducible exact ih2 _ _ _ _ _ _)
      | (with_reducible exact ih3 _ _ _ _ _ _ _ _ _)
      | (with_reducible exact ih4 _ _ _ _ _)
      | (with_reducible exact ih5 _ _ _ _ _ _)
      | (with_reducible exact ih6 _ _ _ _ _ _)
      | (with_reducible exact ih7 _ _ _ _ _ _ _)
      | (with_reducible exact flash_Changes.mono _ _ _)
      | (with_reducible exact flash_Same.mono _ _ _ _)
      | (with_reducible exact flash_Snake.mono _ _ _)
      | (with_reducible exact neonwrightlaw04_alive.mono _)
      | (with_reducible exact neonwrightlaw04_same.mono _ _ _)
      | (with_reducible exact LeO.refl _)
      | (with_reducible exact LeO.none _)
      | (with_reducible refine LeO.ite ?_ ?_)
      | (with_reducible refine LeO.bind ?_ (fun _ => ?_))
      | exact ih0 _ _ _ _ _ _
      | exact ih1 _ _ _ _ _ _ _ _ _
      | exact ih2 _ _ _ _ _ _
      | exact ih3 _ _ _ _ _ _ _ _ _
      | exact ih4 _ _ _ _ _
      | exact ih5 _ _ _ _ _ _
      | exact ih6 _ _ _ _ _ _
      | exact ih7 _ _ _ _ _ _ _
      | exact flash_Changes.mono _ _ _
      | exact flash_Same.mono _ _ _ _
      | exact flash_Snake.mono _ _ _
      | exact neonwrightlaw04_alive.mono _
      | exact neonwrightlaw04_same.mono _ _ _
      | exact LeO.none _
      | refine LeO.ite ?_ ?_
      | refine LeO.bind ?_ (fun _ => ?_)
theorem neonwrightlaw04_FlashNormal.mono : ∀ a0 a1 a2 a3 a4 k, LeO (neonwrightlaw04_FlashNormal.f k a0 a1 a2 a3 a4) (neonwrightlaw04_FlashNormal.f (k + 1) a0 a1 a2 a3 a4) := by
  intro a0 a1 a2 a3 a4 k
  obtain ⟨ih0, ih1, ih2, ih3, ih4, ih5, ih6, ih7⟩ := neonwrightlaw04_FlashNormal.mono_l k
  unfold neonwrightlaw04_FlashNormal.f
  repeat' first
      | (with_reducible exact ih0 _ _ _ _ _ _)
      | (with_reducible exact ih1 _ _ _ _ _ _ _ _ _)
      | (with_reducible exact ih2 _ _ _ _ _ _)
      | (with_reducible exact ih3 _ _ _ _ _ _ _ _ _)
      | (with_reducible exact ih4 _ _ _ _ _)
      | (with_reducible exact ih5 _ _ _ _ _ _)
      | (with_reducible exact ih6 _ _ _ _ _ _)
      | (with_reducible exact ih7 _ _ _ _ _ _ _)
      | (with_reducible exact flash_Changes.mono _ _ _)
      | (with_reducible exact flash_Same.mono _ _ _ _)
      | (with_reducible exact flash_Snake.mono _ _ _)
      | (with_reducible exact neonwrightlaw04_alive.mono _)
      | (with_reducible exact neonwrightlaw04_same.mono _ _ _)
      | (with_reducible exact LeO.refl _)
      | (with_reducible exact LeO.none _)
      | (with_reducible refine LeO.ite ?_ ?_)
      | (with_reducible refine LeO.bind ?_ (fun _ => ?_))
      | exact ih0 _ _ _ _ _ _
      | exact ih1 _ _ _ _ _ _ _ _ _
      | exact ih2 _ _ _ _ _ _
      | exact ih3 _ _ _ _ _ _ _ _ _
      | exact ih4 _ _ _ _ _
      | exact ih5 _ _ _ _ _ _
      | exact ih6 _ _ _ _ _ _
      | exact ih7 _ _ _ _ _ _ _
      | exact flash_Changes.mono _ _ _
      | exact flash_Same.mono _ _ _ _
      | exact flash_Snake.mono _ _ _
      | exact neonwrightlaw04_alive.mono _
      | exact neonwrightlaw04_same.mono _ _ _
      | exact LeO.none _
      | refine LeO.ite ?_ ?_
      | refine LeO.bind ?_ (fun _ => ?_)
def neonwrightlaw04_FlashNormal.T16 : Bool × List (List Nat × List Nat) := (true, [([], []), ([], []), ([0, 1], [0, 1]), ([2], [2]), ([], []), ([4], [4]), ([], []), ([6], [6]), ([5, 7], [5, 7]), ([3, 8], [3, 8]), ([9, 0, 1, 2, 3, 4, 5, 6, 7, 8, 9], [9])])
def neonwrightlaw04_FlashNormal.B16 : List Nat := [0, 0, 3, 7, 0, 16, 0, 64, 240, 511, 1023]
theorem neonwrightlaw04_FlashNormal.tab16 : rtab .any (opsOf Try.f14 16) = neonwrightlaw04_FlashNormal.T16 := by kernel_rfl
theorem neonwrightlaw04_FlashNormal.bits16 : waitsOk neonwrightlaw04_FlashNormal.T16.2 neonwrightlaw04_FlashNormal.B16 = true := by kernel_rfl
def neonwrightlaw04_FlashNormal.T17 : Bool × List (List Nat × List Nat) := (true, [([], []), ([], []), ([], []), ([1, 2], [1, 2]), ([], []), ([4], [4]), ([3, 5], [3, 5]), ([], []), ([], []), ([], []), ([8, 9], [8, 9]), ([7, 10], [7, 10]), ([6, 11], [6, 11]), ([12], [12]), ([0, 13], [0, 13]), ([14, 14, 0, 1, 2, 3, 4, 5, 6, 7, 8, 9, 10, 11, 12, 13, 14], [0, 14])])
def neonwrightlaw04_FlashNormal.B17 : List Nat := [0, 0, 0, 6, 0, 16, 62, 0, 0, 0, 768, 1920, 4094, 8190, 16383, 32767]
theorem neonwrightlaw04_FlashNormal.tab17 : rtab .any (opsOf Try.f14 17) = neonwrightlaw04_FlashNormal.T17 := by kernel_rfl
theorem neonwrightlaw04_FlashNormal.bits17 : waitsOk neonwrightlaw04_FlashNormal.T17.2 neonwrightlaw04_FlashNormal.B17 = true := by kernel_rfl
def neonwrightlaw04_FlashNormal.T33 : Bool × List (List Nat × List Nat) := (true, [([], []), ([0], [0]), ([], []), ([2], [2]), ([1, 3], [1, 3]), ([4], [4]), ([5], [5]), ([5], [5]), ([5], [5]), ([7, 8, 5], [5, 7, 8]), ([5], [5]), ([9, 10, 5], [5, 9, 10]), ([6, 11, 5], [5, 6, 11]), ([12, 5], [5, 12]), ([5], [5]), ([5], [5]), ([14, 15, 5], [5, 14, 15]), ([16, 5], [5, 16]), ([13, 17, 5], [5, 13, 17]), ([5, 18], [5, 18])])
def neonwrightlaw04_FlashNormal.B33 : List Nat := [0, 1, 0, 4, 15, 31, 63, 63, 63, 447, 63, 1983, 4095, 8191, 63, 63, 49215, 114751, 262143, 524287]
theorem neonwrightlaw04_FlashNormal.tab33 : rtab .any (opsOf Try.f14 33) = neonwrightlaw04_FlashNormal.T33 := by kernel_rfl
theorem neonwrightlaw04_FlashNormal.bits33 : waitsOk neonwrightlaw04_FlashNormal.T33.2 neonwrightlaw04_FlashNormal.B33 = true := by kernel_rfl
set_option maxHeartbeats 8000000 in
set_option maxRecDepth 100000 in
theorem neonwrightlaw04_FlashNormal.calls (k : Nat) (a0 : Int) (A1 : Option Addr) (c1 : Nat) (l1 : List Int) (A2 : Option Addr) (c2 : Nat) (l2 : List Int) (a3 : Int) (a4 : Int) (r : Bool) (w : World) (hr1 : Kd.C (Kd.int .i64) w A1 l1.length l1) (hc1 : l1.length ≤ c1) (hr2 : Kd.C (Kd.int .i64) w A2 l2.length l2) (hc2 : l2.length ≤ c2) (h : neonwrightlaw04_FlashNormal.f k a0 l1 l2 a3 a4 = some r) :
    Calls Try.prog 14 #[.int .i64 a0, .slice A1 l1.length c1, .slice A2 l2.length c2, .int .u16 a3, .int .u8 a4] w fun e w' => e = .returned (.bool r) ∧ Below w.heap.size w w' := by
  have HR1 := Aside0.mk hr1
  have HC1 := Aside0.mk hc1
  clear hr1 hc1
  have HR2 := Aside0.mk hr2
  have HC2 := Aside0.mk hc2
  clear hr2 hc2
  have HB := Aside0.mk (Below.refl w.heap.size w)
  have H : ((neonwrightlaw04_few.f l1).bind fun t497 => (if t497 = true then ((neonwrightlaw04_few.f l2).bind fun t498 => (neonwrightlaw04_FlashNormal.j0 k a0 l1 l2 a3 a4 (!t498))) else (neonwrightlaw04_FlashNormal.j0 k a0 l1 l2 a3 a4 true))) = some r := h
  clear h
  have HC6 := Aside0.mk H
  clear H
  go_enter Try.func14, Try.ntmps14
  go_upto_region 1 with (fail)
  go_cut [45] (fun v45 wc => ∃ (kq : Nat) (x45_5 : Bool), v45 = .bool x45_5 ∧ Aside0 (neonwrightlaw04_FlashNormal.j0 kq a0 l1 l2 a3 a4 x45_5 = some r) ∧ Aside0 (kq ≤ k) ∧ Aside0 (Below w.heap.size w wc))
  case first => as_aux_lemma =>
    have H := HC6.out
    clear HC6
    replace H := Option.bind_eq_some_iff.mp H
    obtain ⟨t497, A70, H⟩ := H
    replace H : (if t497 = true then ((neonwrightlaw04_few.f l2).bind fun t498 => (neonwrightlaw04_FlashNormal.j0 k a0 l1 l2 a3 a4 (!t498))) else (neonwrightlaw04_FlashNormal.j0 k a0 l1 l2 a3 a4 true)) = some r := H
    have A7 := Aside0.mk A70
    clear A70
    by_cases c8 : t497 = true
    · subst c8
      have H1 : ((neonwrightlaw04_few.f l2).bind fun t498 => (neonwrightlaw04_FlashNormal.j0 k a0 l1 l2 a3 a4 (!t498))) = some r := by rw [if_pos rfl] at H; exact H
      clear H
      have H := H1
      clear H1
      replace H := Option.bind_eq_some_iff.mp H
      obtain ⟨t498, A90, H⟩ := H
      replace H : (neonwrightlaw04_FlashNormal.j0 k a0 l1 l2 a3 a4 (!t498)) = some r := H
      have A9 := Aside0.mk A90
      clear A90
      have H' := Aside0.mk H
      clear H
      go_wp2_with (first | ((with_reducible refine gate_callee (f := 21) rfl ?_); refine goesL_ (some 39) rfl rfl Try.func21 (by kernel_rfl) rfl #[.slice A1 l1.length c1] rfl (by (try simp only [List.map_toArray, List.map_cons, List.map_nil]); first | done | rfl | (simp only [List.length_drop, List.length_take]; rfl)) ?_; (with_reducible refine (neonwrightlaw04_few.calls _ _ l1 true _ ?side1 ?side2 A7.out).mono ?_); (case side1 => repeat (first | exact (Kd.C_below HR1.out HB.out) | (with_reducible refine Kd.C_alloc ?_ _) | (with_reducible refine Kd.C_drewN ?_ _) | (with_reducible refine Kd.C_drew ?_))); (case side2 => exact HC1.out); rintro e w' ⟨rfl, ⟨nd, rfl⟩⟩; refine ⟨_, rfl, ?_⟩) | (go_at_call 21; (with_reducible refine (neonwrightlaw04_few.calls _ _ l2 t498 _ ?side1 ?side2 A9.out).mono ?_); (case side1 => repeat (first | exact (Kd.C_below HR2.out (by repeat (first | (with_reducible first | exact HB.out | apply below_alloc | apply pw_below_drewN | apply below_drew1) | exact HB.out))) | (with_reducible refine Kd.C_alloc ?_ _) | (with_reducible refine Kd.C_drewN ?_ _) | (with_reducible refine Kd.C_drew ?_))); (case side2 => exact HC2.out); rintro e w' ⟨rfl, ⟨nd, rfl⟩⟩))
      go_meet
      case rel => exact ⟨_, (!t498), (by first | rfl | (simp; done) | (simp [*]; done)), H', ⟨by first | omega | exact Nat.le_refl _⟩, ⟨by repeat (first | (with_reducible first | exact HB.out | apply below_alloc | apply pw_below_drewN | apply below_drew1) | exact HB.out)⟩⟩
    · replace c8 := Bool.eq_false_iff.mpr c8
      subst c8
      have H1 : (neonwrightlaw04_FlashNormal.j0 k a0 l1 l2 a3 a4 true) = some r := by rw [if_neg (show ¬ (false = true) by decide)] at H; exact H
      clear H
      have H := H1
      clear H1
      have H' := Aside0.mk H
      clear H
      go_wp2_with (first | ((with_reducible refine gate_callee (f := 21) rfl ?_); refine goesL_ (some 39) rfl rfl Try.func21 (by kernel_rfl) rfl #[.slice A1 l1.length c1] rfl (by (try simp only [List.map_toArray, List.map_cons, List.map_nil]); first | done | rfl | (simp only [List.length_drop, List.length_take]; rfl)) ?_; (with_reducible refine (neonwrightlaw04_few.calls _ _ l1 false _ ?side1 ?side2 A7.out).mono ?_); (case side1 => repeat (first | exact (Kd.C_below HR1.out HB.out) | (with_reducible refine Kd.C_alloc ?_ _) | (with_reducible refine Kd.C_drewN ?_ _) | (with_reducible refine Kd.C_drew ?_))); (case side2 => exact HC1.out); rintro e w' ⟨rfl, ⟨nd, rfl⟩⟩; refine ⟨_, rfl, ?_⟩))
      go_meet
      case rel => exact ⟨_, (true), (by first | rfl | (simp; done) | (simp [*]; done)), H', ⟨by first | omega | exact Nat.le_refl _⟩, ⟨by repeat (first | (with_reducible first | exact HB.out | apply below_alloc | apply pw_below_drewN | apply below_drew1) | exact HB.out)⟩⟩
  case rest => as_aux_lemma =>
    clear HC6
    try clear c1
    try clear c2
    try clear p2
    try clear c8
    obtain ⟨kq, x45_5, rfl, HA, HJ5, HB⟩ := hcut
    cases kq with
    | zero => exact absurd HA.out (by simp [neonwrightlaw04_FlashNormal.j0])
    | succ kj5 =>
      have H := HA.out
      clear HA
      simp only [neonwrightlaw04_FlashNormal.j0] at H
      by_cases c10 : x45_5 = true
      · subst c10
        have H1 : ((neonwrightlaw04_alive.f kj5).bind fun t499 => (some t499)) = some r := by rw [if_pos rfl] at H; exact H
        clear H
        have H := H1
        clear H1
        replace H := Option.bind_eq_some_iff.mp H
        obtain ⟨t499, A110, H⟩ := H
        replace H : (some t499) = some r := H
        have A11 := Aside0.mk A110
        clear A110
        obtain rfl := Option.some.inj H
        go_wp2_with (first | ((with_reducible refine gate_callee (f := 20) rfl ?_); refine goesL_ (some 46) rfl rfl Try.func20 (by kernel_rfl) rfl #[] rfl (by (try simp only [List.map_toArray, List.map_cons, List.map_nil]); first | done | rfl | (simp only [List.length_drop, List.length_take]; rfl)) ?_; (with_reducible refine (neonwrightlaw04_alive.calls kj5  t499 _ A11.out).mono ?_); rintro e w12 ⟨rfl, hb⟩; refine ⟨_, rfl, ?_⟩; have n0_ := Aside0.mk (below_step (by repeat (first | (with_reducible first | exact HB.out | apply below_alloc | apply pw_below_drewN | apply below_drew1) | exact HB.out)) hb); clear HB; have HB := n0_; clear n0_; (try clear hb); (try clear hb2); (try clear hk); (try clear hi)))
        go_ret
        exact ⟨by first | rfl | (simp [errW_none, errW_some] <;> rfl) | (simp [*, errW_none, errW_some] <;> rfl), by repeat (first | (with_reducible first | exact HB.out | apply below_alloc | apply pw_below_drewN | apply below_drew1) | exact HB.out)⟩
      · replace c10 := Bool.eq_false_iff.mpr c10
        subst c10
        have H1 : ((flash_Normal.f a0 l1).bind fun bt500 => ((flash_Normal.f a0 l2).bind fun bt504 => ((flash_Same.f kj5 a0 l1 l2).bind fun bt508 => (if bt500.2 = 0 then (neonwrightlaw04_FlashNormal.j1 kj5 a0 l1 a3 a4 bt500.1 bt504.1 bt508.1 bt508.2 (bt504.2 != 0)) else (neonwrightlaw04_FlashNormal.j1 kj5 a0 l1 a3 a4 bt500.1 bt504.1 bt508.1 bt508.2 true))))) = some r := by rw [if_neg (show ¬ (false = true) by decide)] at H; exact H
        clear H
        have H := H1
        clear H1
        replace H := Option.bind_eq_some_iff.mp H
        obtain ⟨⟨t500, t501⟩, A130, H⟩ := H
        replace H : ((flash_Normal.f a0 l2).bind fun bt504 => ((flash_Same.f kj5 a0 l1 l2).bind fun bt508 => (if t501 = 0 then (neonwrightlaw04_FlashNormal.j1 kj5 a0 l1 a3 a4 t500 bt504.1 bt508.1 bt508.2 (bt504.2 != 0)) else (neonwrightlaw04_FlashNormal.j1 kj5 a0 l1 a3 a4 t500 bt504.1 bt508.1 bt508.2 true)))) = some r := H
        have A13 := Aside0.mk A130
        clear A130
        replace H := Option.bind_eq_some_iff.mp H
        obtain ⟨⟨t504, t505⟩, A140, H⟩ := H
        replace H : ((flash_Same.f kj5 a0 l1 l2).bind fun bt508 => (if t501 = 0 then (neonwrightlaw04_FlashNormal.j1 kj5 a0 l1 a3 a4 t500 t504 bt508.1 bt508.2 (t505 != 0)) else (neonwrightlaw04_FlashNormal.j1 kj5 a0 l1 a3 a4 t500 t504 bt508.1 bt508.2 true))) = some r := H
        have A14 := Aside0.mk A140
        clear A140
        replace H := Option.bind_eq_some_iff.mp H
        obtain ⟨⟨t508, t509⟩, A150, H⟩ := H
        replace H : (if t501 = 0 then (neonwrightlaw04_FlashNormal.j1 kj5 a0 l1 a3 a4 t500 t504 t508 t509 (t505 != 0)) else (neonwrightlaw04_FlashNormal.j1 kj5 a0 l1 a3 a4 t500 t504 t508 t509 true)) = some r := H
        have A15 := Aside0.mk A150
        clear A150
        have HC16 := Aside0.mk H
        clear H
        go_upto_region 6 with (first | ((with_reducible refine gate_callee (f := 33) rfl ?_); refine goesL_ (some 50) rfl rfl Try.func33 (by kernel_rfl) rfl #[.int .i64 a0, .slice A1 l1.length c1] rfl (by (try simp only [List.map_toArray, List.map_cons, List.map_nil]); first | done | rfl | (simp only [List.length_drop, List.length_take]; rfl)) ?_; (with_reducible refine (flash_Normal.calls a0 _ _ l1 t500 t501 _ ?side1 ?side2 A13.out).mono ?_); (case side1 => repeat (first | exact (Kd.C_below HR1.out HB.out) | (with_reducible refine Kd.C_alloc ?_ _) | (with_reducible refine Kd.C_drewN ?_ _) | (with_reducible refine Kd.C_drew ?_))); (case side2 => exact HC1.out); rintro e w17 ⟨v502, rfl, ho0, hb⟩; refine ⟨_, rfl, ?_⟩; have n0_ := Aside0.mk (Kd.R_lower ho0 (below_size (by repeat (first | (with_reducible first | exact HB.out | apply below_alloc | apply pw_below_drewN | apply below_drew1) | exact HB.out)))); have n1_ := Aside0.mk (below_step (by repeat (first | (with_reducible first | exact HB.out | apply below_alloc | apply pw_below_drewN | apply below_drew1) | exact HB.out)) hb); clear HB; have HO503 := n0_; have HB := n1_; clear n0_ n1_; (try clear hb); (try clear hb2); (try clear hk); (try clear hi); (try clear ho0)) | ((with_reducible refine gate_callee (f := 33) rfl ?_); refine goesL_ (some 56) rfl rfl Try.func33 (by kernel_rfl) rfl #[.int .i64 a0, .slice A2 l2.length c2] rfl (by (try simp only [List.map_toArray, List.map_cons, List.map_nil]); first | done | rfl | (simp only [List.length_drop, List.length_take]; rfl)) ?_; (with_reducible refine (flash_Normal.calls a0 _ _ l2 t504 t505 _ ?side1 ?side2 A14.out).mono ?_); (case side1 => repeat (first | exact (Kd.C_below HR2.out HB.out) | (with_reducible refine Kd.C_alloc ?_ _) | (with_reducible refine Kd.C_drewN ?_ _) | (with_reducible refine Kd.C_drew ?_))); (case side2 => exact HC2.out); rintro e w18 ⟨v506, rfl, ho0, hb⟩; refine ⟨_, rfl, ?_⟩; have n0_ := Aside0.mk (Kd.R_elder' (by (with_reducible repeat (first | apply Kd.R_alloc | apply Kd.R_drewN | apply Kd.R_drew)); exact HO503.out) (Kd.R_base ho0) hb); have n1_ := Aside0.mk (Kd.R_lower (Kd.R_new' ho0 (Kd.R_lt (by (with_reducible repeat (first | apply Kd.R_alloc | apply Kd.R_drewN | apply Kd.R_drew)); exact HO503.out))) (below_size (by repeat (first | (with_reducible first | exact HB.out | apply below_alloc | apply pw_below_drewN | apply below_drew1) | exact HB.out)))); have n2_ := Aside0.mk (below_step (by repeat (first | (with_reducible first | exact HB.out | apply below_alloc | apply pw_below_drewN | apply below_drew1) | exact HB.out)) hb); clear HO503; clear HB; have HO503 := n0_; have HO507 := n1_; have HB := n2_; clear n0_ n1_ n2_; (try clear hb); (try clear hb2); (try clear hk); (try clear hi); (try clear ho0)) | ((with_reducible refine gate_callee (f := 31) rfl ?_); refine goesL_ (some 63) rfl rfl Try.func31 (by kernel_rfl) rfl #[.int .i64 a0, .slice A1 l1.length c1, .slice A2 l2.length c2] rfl (by (try simp only [List.map_toArray, List.map_cons, List.map_nil]); first | done | rfl | (simp only [List.length_drop, List.length_take]; rfl)) ?_; (with_reducible refine (flash_Same.calls kj5 a0 _ _ l1 _ _ l2 t508 t509 _ ?side1 ?side2 ?side3 ?side4 A15.out).mono ?_); (case side1 => repeat (first | exact (Kd.C_below HR1.out HB.out) | (with_reducible refine Kd.C_alloc ?_ _) | (with_reducible refine Kd.C_drewN ?_ _) | (with_reducible refine Kd.C_drew ?_))); (case side2 => exact HC1.out); (case side3 => repeat (first | exact (Kd.C_below HR2.out HB.out) | (with_reducible refine Kd.C_alloc ?_ _) | (with_reducible refine Kd.C_drewN ?_ _) | (with_reducible refine Kd.C_drew ?_))); (case side4 => exact HC2.out); rintro e w19 ⟨rfl, hb⟩; refine ⟨_, rfl, ?_⟩; have n0_ := Aside0.mk (Kd.R_below (by (with_reducible repeat (first | apply Kd.R_alloc | apply Kd.R_drewN | apply Kd.R_drew)); exact HO503.out) hb); have n1_ := Aside0.mk (Kd.R_below (by (with_reducible repeat (first | apply Kd.R_alloc | apply Kd.R_drewN | apply Kd.R_drew)); exact HO507.out) hb); have n2_ := Aside0.mk (below_step (by repeat (first | (with_reducible first | exact HB.out | apply below_alloc | apply pw_below_drewN | apply below_drew1) | exact HB.out)) hb); clear HO503; clear HO507; clear HB; have HO503 := n0_; have HO507 := n1_; have HB := n2_; clear n0_ n1_ n2_; (try clear hb); (try clear hb2); (try clear hk); (try clear hi)))
        (try simp only [Act.put, List.setIfInBounds_toArray, List.set_cons_zero, List.set_cons_succ])
        go_cut [71] (fun v71 wc => ∃ (kq : Nat) (x71_15 : Bool), v71 = .bool x71_15 ∧ Aside0 (neonwrightlaw04_FlashNormal.j1 kq a0 l1 a3 a4 t500 t504 t508 t509 x71_15 = some r) ∧ Aside0 (kq ≤ kj5) ∧ Aside0 (Kd.R (Kd.int .i64) 3 wc w.heap.size (fun k_ => some k_ ≠ (v506 : Value).ownBlock) v502 t500) ∧ Aside0 (Kd.R (Kd.int .i64) 3 wc w.heap.size (fun k_ => some k_ ≠ (v502 : Value).ownBlock) v506 t504) ∧ Aside0 (Below w.heap.size w wc))
        case first => as_aux_lemma =>
          have H := HC16.out
          clear HC16
          by_cases c20 : t501 = 0
          · rw [if_pos c20] at H
            have c20b0 : (t501 == 0) = true := beq_iff_eq.mpr c20
            have c20b1 : (t501 != 0) = false := bne_eq_false_iff_eq.mpr c20
            clear c20
            (first | rw [c20b0] | (simp only [i64_w, i32_w]; rw [c20b0]) | skip)
            have H' := Aside0.mk H
            clear H
            go_wp2
            go_meet
            case rel => exact ⟨_, ((t505 != 0)), (by first | rfl | (simp; done) | (simp [*]; done)), H', ⟨by have := HJ5.out; first | omega | exact Nat.le_refl _⟩, ⟨by (with_reducible repeat (first | apply Kd.R_alloc | apply Kd.R_drewN | apply Kd.R_drew)); exact Kd.R_mono HO503.out (fun _ hk => hk.2)⟩, ⟨by (with_reducible repeat (first | apply Kd.R_alloc | apply Kd.R_drewN | apply Kd.R_drew)); exact Kd.R_mono HO507.out (fun _ hk => hk.2)⟩, ⟨by repeat (first | (with_reducible first | exact HB.out | apply below_alloc | apply pw_below_drewN | apply below_drew1) | exact HB.out)⟩⟩
          · rw [if_neg c20] at H
            have c20b0 : (t501 == 0) = false := beq_eq_false_iff_ne.mpr c20
            have c20b1 : (t501 != 0) = true := bne_iff_ne.mpr c20
            (first | rw [c20b0] | (simp only [i64_w, i32_w]; rw [c20b0]) | skip)
            have H' := Aside0.mk H
            clear H
            go_wp2
            go_meet
            case rel => exact ⟨_, (true), (by first | rfl | (simp; done) | (simp [*]; done)), H', ⟨by have := HJ5.out; first | omega | exact Nat.le_refl _⟩, ⟨by (with_reducible repeat (first | apply Kd.R_alloc | apply Kd.R_drewN | apply Kd.R_drew)); exact Kd.R_mono HO503.out (fun _ hk => hk.2)⟩, ⟨by (with_reducible repeat (first | apply Kd.R_alloc | apply Kd.R_drewN | apply Kd.R_drew)); exact Kd.R_mono HO507.out (fun _ hk => hk.2)⟩, ⟨by repeat (first | (with_reducible first | exact HB.out | apply below_alloc | apply pw_below_drewN | apply below_drew1) | exact HB.out)⟩⟩
        case rest => as_aux_lemma =>
          clear HC16
          try clear c1
          try clear c2
          try clear p2
          try clear c3
          try clear c8
          try clear c10
          try clear c14
          try clear c20
          try clear c20b0
          try clear c20b1
          try clear p2
          obtain ⟨kq, x71_15, rfl, HA, HJ15, HO_11, HO_13, HB⟩ := hcut
          cases kq with
          | zero => exact absurd HA.out (by simp [neonwrightlaw04_FlashNormal.j1])
          | succ kj15 =>
            have H := HA.out
            clear HA
            simp only [neonwrightlaw04_FlashNormal.j1] at H
            by_cases c21 : x71_15 = true
            · subst c21
              have H1 : (if t509 = 0 then (some false) else (if t508 = true then (some false) else ((neonwrightlaw04_alive.f kj15).bind fun t510 => (some t510)))) = some r := by rw [if_pos rfl] at H; exact H
              clear H
              have H := H1
              clear H1
              by_cases c22 : t509 = 0
              · rw [if_pos c22] at H
                have c22b0 : (t509 == 0) = true := beq_iff_eq.mpr c22
                have c22b1 : (t509 != 0) = false := bne_eq_false_iff_eq.mpr c22
                clear c22
                obtain rfl := Option.some.inj H
                go_wp2
                go_ret
                exact ⟨by first | rfl | (simp [errW_none, errW_some] <;> rfl) | (simp [*, errW_none, errW_some] <;> rfl), by repeat (first | (with_reducible first | exact HB.out | apply below_alloc | apply pw_below_drewN | apply below_drew1) | exact HB.out)⟩
              · rw [if_neg c22] at H
                have c22b0 : (t509 == 0) = false := beq_eq_false_iff_ne.mpr c22
                have c22b1 : (t509 != 0) = true := bne_iff_ne.mpr c22
                by_cases c23 : t508 = true
                · subst c23
                  have H1 : (some false) = some r := by rw [if_pos rfl] at H; exact H
                  clear H
                  have H := H1
                  clear H1
                  obtain rfl := Option.some.inj H
                  go_wp2
                  go_ret
                  exact ⟨by first | rfl | (simp [errW_none, errW_some] <;> rfl) | (simp [*, errW_none, errW_some] <;> rfl), by repeat (first | (with_reducible first | exact HB.out | apply below_alloc | apply pw_below_drewN | apply below_drew1) | exact HB.out)⟩
                · replace c23 := Bool.eq_false_iff.mpr c23
                  subst c23
                  have H1 : ((neonwrightlaw04_alive.f kj15).bind fun t510 => (some t510)) = some r := by rw [if_neg (show ¬ (false = true) by decide)] at H; exact H
                  clear H
                  have H := H1
                  clear H1
                  replace H := Option.bind_eq_some_iff.mp H
                  obtain ⟨t510, A240, H⟩ := H
                  replace H : (some t510) = some r := H
                  have A24 := Aside0.mk A240
                  clear A240
                  obtain rfl := Option.some.inj H
                  go_wp2_with (first | (go_at_call 20; (with_reducible refine (neonwrightlaw04_alive.calls kj15  t510 _ A24.out).mono ?_); rintro e w25 ⟨rfl, hb⟩; have n0_ := Aside0.mk (Kd.R_below (by (with_reducible repeat (first | apply Kd.R_alloc | apply Kd.R_drewN | apply Kd.R_drew)); exact HO_11.out) hb); have n1_ := Aside0.mk (Kd.R_below (by (with_reducible repeat (first | apply Kd.R_alloc | apply Kd.R_drewN | apply Kd.R_drew)); exact HO_13.out) hb); have n2_ := Aside0.mk (below_step (by repeat (first | (with_reducible first | exact HB.out | apply below_alloc | apply pw_below_drewN | apply below_drew1) | exact HB.out)) hb); clear HO_11; clear HO_13; clear HB; have HO_11 := n0_; have HO_13 := n1_; have HB := n2_; clear n0_ n1_ n2_; (try clear hb); (try clear hb2); (try clear hk); (try clear hi)))
                  go_ret
                  exact ⟨by first | rfl | (simp [errW_none, errW_some] <;> rfl) | (simp [*, errW_none, errW_some] <;> rfl), by repeat (first | (with_reducible first | exact HB.out | apply below_alloc | apply pw_below_drewN | apply below_drew1) | exact HB.out)⟩
            · replace c21 := Bool.eq_false_iff.mpr c21
              subst c21
              have H1 : (if t509 = 0 then ((neonwrightlaw04_same.f kj15 t500 t504).bind fun t511 => (if (t508 != t511) = true then (neonwrightlaw04_FlashNormal.j2 kj15 a0 l1 a3 a4 t500 true) else (if (t500.length : Int) = (l1.length : Int) then (if 0 < (t500.length : Int) then (neonwrightlaw04_FlashNormal.j2 kj15 a0 l1 a3 a4 t500 ((rd t500 0) != 0)) else (none)) else (neonwrightlaw04_FlashNormal.j2 kj15 a0 l1 a3 a4 t500 true)))) else (neonwrightlaw04_FlashNormal.j2 kj15 a0 l1 a3 a4 t500 true)) = some r := by rw [if_neg (show ¬ (false = true) by decide)] at H; exact H
              clear H
              have H := H1
              clear H1
              have HC26 := Aside0.mk H
              clear H
              go_upto_region 8 with (fail)
              go_cut [102] (fun v102 wc => ∃ (kq : Nat) (x102_25 : Bool), v102 = .bool x102_25 ∧ Aside0 (neonwrightlaw04_FlashNormal.j2 kq a0 l1 a3 a4 t500 x102_25 = some r) ∧ Aside0 (kq ≤ kj15) ∧ Aside0 (Kd.R (Kd.int .i64) 3 wc w.heap.size (fun _ => True) v502 t500) ∧ Aside0 (Below w.heap.size w wc))
              case first => as_aux_lemma =>
                have H := HC26.out
                clear HC26
                by_cases c27 : t509 = 0
                · rw [if_pos c27] at H
                  have c27b0 : (t509 == 0) = true := beq_iff_eq.mpr c27
                  have c27b1 : (t509 != 0) = false := bne_eq_false_iff_eq.mpr c27
                  clear c27
                  (first | rw [c27b0] | (simp only [i64_w, i32_w]; rw [c27b0]) | skip)
                  replace H := Option.bind_eq_some_iff.mp H
                  obtain ⟨t511, A280, H⟩ := H
                  replace H : (if (t508 != t511) = true then (neonwrightlaw04_FlashNormal.j2 kj15 a0 l1 a3 a4 t500 true) else (if (t500.length : Int) = (l1.length : Int) then (if 0 < (t500.length : Int) then (neonwrightlaw04_FlashNormal.j2 kj15 a0 l1 a3 a4 t500 ((rd t500 0) != 0)) else (none)) else (neonwrightlaw04_FlashNormal.j2 kj15 a0 l1 a3 a4 t500 true))) = some r := H
                  have A28 := Aside0.mk A280
                  clear A280
                  by_cases c29 : (t508 != t511) = true
                  · rw [if_pos c29] at H
                    have c29b0 : (t508 != t511) = true := c29
                    (try (have c29b1 : decide (t508 = t511) = false := by simpa using c29))
                    (try (have c29b2 : (t508 == t511) = false := by simpa using c29))
                    (try (have c29b3 : ¬ (t508 = t511) := by simpa using c29))
                    clear c29
                    have H' := Aside0.mk H
                    clear H
                    obtain ⟨Ao30, co30, eo30⟩ := Kd.R_slice HO_11.out
                    subst eo30
                    obtain ⟨Ao31, co31, eo31⟩ := Kd.R_slice HO_13.out
                    subst eo31
                    go_wp2_with (first | (go_at_call 19; (with_reducible refine (neonwrightlaw04_same.calls kj15 _ _ t500 _ _ t504 t511 _ ?side1 ?side2 ?side3 ?side4 A28.out).mono ?_); (case side1 => repeat (first | exact (Kd.R_reads' HO_11.out).2.2 | (with_reducible refine Kd.C_alloc ?_ _) | (with_reducible refine Kd.C_drewN ?_ _) | (with_reducible refine Kd.C_drew ?_))); (case side2 => exact (Kd.R_reads' HO_11.out).2.1); (case side3 => repeat (first | exact (Kd.R_reads' HO_13.out).2.2 | (with_reducible refine Kd.C_alloc ?_ _) | (with_reducible refine Kd.C_drewN ?_ _) | (with_reducible refine Kd.C_drew ?_))); (case side4 => exact (Kd.R_reads' HO_13.out).2.1); rintro e w' ⟨rfl, ⟨nd, rfl⟩⟩))
                    go_meet
                    case rel => exact ⟨_, (true), (by first | rfl | (simp; done) | (simp [*]; done)), H', ⟨by have := HJ5.out; have := HJ15.out; first | omega | exact Nat.le_refl _⟩, ⟨by (with_reducible repeat (first | apply Kd.R_alloc | apply Kd.R_drewN | apply Kd.R_drew)); exact Kd.R_mono HO_11.out (fun _ hk => trivial)⟩, ⟨by repeat (first | (with_reducible first | exact HB.out | apply below_alloc | apply pw_below_drewN | apply below_drew1) | exact HB.out)⟩⟩
                  · rw [if_neg c29] at H
                    have c29b0 : (t508 != t511) = false := by simpa using c29
                    (try (have c29b1 : decide (t508 = t511) = true := by simpa using c29))
                    (try (have c29b2 : (t508 == t511) = true := by simpa using c29))
                    clear c29
                    by_cases c32 : (t500.length : Int) = (l1.length : Int)
                    · rw [if_pos c32] at H
                      have c32b0 : ((t500.length : Int) == (l1.length : Int)) = true := beq_iff_eq.mpr c32
                      have c32b1 : ((t500.length : Int) != (l1.length : Int)) = false := bne_eq_false_iff_eq.mpr c32
                      have c32b2 : (t500.length == l1.length) = true := by first | simpa using c32 | (simp at c32 ⊢; omega)
                      clear c32
                      by_cases c33 : 0 < (t500.length : Int)
                      · rw [if_pos c33] at H
                        have c33b0 : decide (0 < (t500.length : Int)) = true := decide_eq_true c33
                        have c33b1 : decide (0 < t500.length) = true := decide_eq_true (by omega)
                        clear c33
                        have H' := Aside0.mk H
                        clear H
                        obtain ⟨Ao34, co34, eo34⟩ := Kd.R_slice HO_11.out
                        subst eo34
                        obtain ⟨Ao35, co35, eo35⟩ := Kd.R_slice HO_13.out
                        subst eo35
                        go_wp2_with (first | (go_at_call 19; (with_reducible refine (neonwrightlaw04_same.calls kj15 _ _ t500 _ _ t504 t511 _ ?side1 ?side2 ?side3 ?side4 A28.out).mono ?_); (case side1 => repeat (first | exact (Kd.R_reads' HO_11.out).2.2 | (with_reducible refine Kd.C_alloc ?_ _) | (with_reducible refine Kd.C_drewN ?_ _) | (with_reducible refine Kd.C_drew ?_))); (case side2 => exact (Kd.R_reads' HO_11.out).2.1); (case side3 => repeat (first | exact (Kd.R_reads' HO_13.out).2.2 | (with_reducible refine Kd.C_alloc ?_ _) | (with_reducible refine Kd.C_drewN ?_ _) | (with_reducible refine Kd.C_drew ?_))); (case side4 => exact (Kd.R_reads' HO_13.out).2.1); rintro e w' ⟨rfl, ⟨nd, rfl⟩⟩; have p512 : 0 ≤ (0 : Int) := (by omega); have q512 : 0 < (t500.length : Int) := of_decide_eq_true (by first | (with_reducible assumption) | assumption); obtain ⟨ad512, e512, hx512_0⟩ := Kd.at_int (Kd.R_reads' HO_11.out).2.2 0 p512 q512; cases e512; have qi512 : (0 < t500.length) = True := eq_true (by omega); (try rw [show ((0 : Int)).toNat = 0 from rfl] at hx512_0); (try rw [Addr.add_zero'] at hx512_0); replace p512 := eq_true p512; replace q512 := eq_true q512))
                        go_meet
                        case rel => exact ⟨_, (((rd t500 0) != 0)), (by first | rfl | (simp; done) | (simp [*]; done)), H', ⟨by have := HJ5.out; have := HJ15.out; first | omega | exact Nat.le_refl _⟩, ⟨by (with_reducible repeat (first | apply Kd.R_alloc | apply Kd.R_drewN | apply Kd.R_drew)); exact Kd.R_mono HO_11.out (fun _ hk => trivial)⟩, ⟨by repeat (first | (with_reducible first | exact HB.out | apply below_alloc | apply pw_below_drewN | apply below_drew1) | exact HB.out)⟩⟩
                      · rw [if_neg c33] at H
                        exact absurd H (by simp)
                    · rw [if_neg c32] at H
                      have c32b0 : ((t500.length : Int) == (l1.length : Int)) = false := beq_eq_false_iff_ne.mpr c32
                      have c32b1 : ((t500.length : Int) != (l1.length : Int)) = true := bne_iff_ne.mpr c32
                      have c32b2 : (t500.length == l1.length) = false := by first | simpa using c32 | (simp at c32 ⊢; omega)
                      have H' := Aside0.mk H
                      clear H
                      obtain ⟨Ao36, co36, eo36⟩ := Kd.R_slice HO_11.out
                      subst eo36
                      obtain ⟨Ao37, co37, eo37⟩ := Kd.R_slice HO_13.out
                      subst eo37
                      go_wp2_with (first | (go_at_call 19; (with_reducible refine (neonwrightlaw04_same.calls kj15 _ _ t500 _ _ t504 t511 _ ?side1 ?side2 ?side3 ?side4 A28.out).mono ?_); (case side1 => repeat (first | exact (Kd.R_reads' HO_11.out).2.2 | (with_reducible refine Kd.C_alloc ?_ _) | (with_reducible refine Kd.C_drewN ?_ _) | (with_reducible refine Kd.C_drew ?_))); (case side2 => exact (Kd.R_reads' HO_11.out).2.1); (case side3 => repeat (first | exact (Kd.R_reads' HO_13.out).2.2 | (with_reducible refine Kd.C_alloc ?_ _) | (with_reducible refine Kd.C_drewN ?_ _) | (with_reducible refine Kd.C_drew ?_))); (case side4 => exact (Kd.R_reads' HO_13.out).2.1); rintro e w' ⟨rfl, ⟨nd, rfl⟩⟩))
                      go_meet
                      case rel => exact ⟨_, (true), (by first | rfl | (simp; done) | (simp [*]; done)), H', ⟨by have := HJ5.out; have := HJ15.out; first | omega | exact Nat.le_refl _⟩, ⟨by (with_reducible repeat (first | apply Kd.R_alloc | apply Kd.R_drewN | apply Kd.R_drew)); exact Kd.R_mono HO_11.out (fun _ hk => trivial)⟩, ⟨by repeat (first | (with_reducible first | exact HB.out | apply below_alloc | apply pw_below_drewN | apply below_drew1) | exact HB.out)⟩⟩
                · rw [if_neg c27] at H
                  have c27b0 : (t509 == 0) = false := beq_eq_false_iff_ne.mpr c27
                  have c27b1 : (t509 != 0) = true := bne_iff_ne.mpr c27
                  (first | rw [c27b0] | (simp only [i64_w, i32_w]; rw [c27b0]) | skip)
                  have H' := Aside0.mk H
                  clear H
                  go_wp2
                  go_meet
                  case rel => exact ⟨_, (true), (by first | rfl | (simp; done) | (simp [*]; done)), H', ⟨by have := HJ5.out; have := HJ15.out; first | omega | exact Nat.le_refl _⟩, ⟨by (with_reducible repeat (first | apply Kd.R_alloc | apply Kd.R_drewN | apply Kd.R_drew)); exact Kd.R_mono HO_11.out (fun _ hk => trivial)⟩, ⟨by repeat (first | (with_reducible first | exact HB.out | apply below_alloc | apply pw_below_drewN | apply below_drew1) | exact HB.out)⟩⟩
              case rest => as_aux_lemma =>
                clear HC26
                try clear c1
                try clear c2
                try clear p2
                try clear c3
                try clear p5
                try clear q5
                try clear hx5
                try clear qi5
                try clear c8
                try clear c10
                try clear c14
                try clear c20
                try clear c20b0
                try clear c20b1
                try clear c21
                try clear c22
                try clear c22b0
                try clear c22b1
                try clear c23
                try clear c27
                try clear c27b0
                try clear c27b1
                try clear c29
                try clear c29b0
                try clear c29b1
                try clear c29b2
                try clear c31
                try clear c32
                try clear c32b0
                try clear c32b1
                try clear c32b2
                try clear c33
                try clear c33b0
                try clear c33b1
                try clear hx512_0
                try clear p2
                try clear p512
                try clear q512
                obtain ⟨kq, x102_25, rfl, HA, HJ25, HO_11, HB⟩ := hcut
                cases kq with
                | zero => exact absurd HA.out (by simp [neonwrightlaw04_FlashNormal.j2])
                | succ kj25 =>
                  have H := HA.out
                  clear HA
                  simp only [neonwrightlaw04_FlashNormal.j2] at H
                  by_cases c38 : x102_25 = true
                  · subst c38
                    have H1 : (some false) = some r := by rw [if_pos rfl] at H; exact H
                    clear H
                    have H := H1
                    clear H1
                    obtain rfl := Option.some.inj H
                    go_wp2
                    go_ret
                    exact ⟨by first | rfl | (simp [errW_none, errW_some] <;> rfl) | (simp [*, errW_none, errW_some] <;> rfl), by repeat (first | (with_reducible first | exact HB.out | apply below_alloc | apply pw_below_drewN | apply below_drew1) | exact HB.out)⟩
                  · replace c38 := Bool.eq_false_iff.mpr c38
                    subst c38
                    have H1 : ((flash_Same.f kj25 a0 l1 t500).bind fun bt513 => (if a0 = 0 then (none) else (neonwrightlaw04_FlashNormal.l0 kj25 a0 l1 a3 t500 bt513.2 bt513.1 ([] : List Int) (Int.tmod (wrap64 (a4)) a0) 0))) = some r := by rw [if_neg (show ¬ (false = true) by decide)] at H; exact H
                    clear H
                    have H := H1
                    clear H1
                    replace H := Option.bind_eq_some_iff.mp H
                    obtain ⟨⟨t513, t514⟩, A390, H⟩ := H
                    replace H : (if a0 = 0 then (none) else (neonwrightlaw04_FlashNormal.l0 kj25 a0 l1 a3 t500 t514 t513 ([] : List Int) (Int.tmod (wrap64 (a4)) a0) 0)) = some r := H
                    have A39 := Aside0.mk A390
                    clear A390
                    by_cases c40 : a0 = 0
                    · rw [if_pos c40] at H
                      exact absurd H (by simp)
                    · rw [if_neg c40] at H
                      have c40b0 : (a0 == 0) = false := beq_eq_false_iff_ne.mpr c40
                      have c40b1 : (a0 != 0) = true := bne_iff_ne.mpr c40
                      have H' := Aside0.mk H
                      clear H
                      obtain ⟨Ao41, co41, eo41⟩ := Kd.R_slice HO_11.out
                      subst eo41
                      go_wp2_with (first | ((with_reducible refine gate_callee (f := 31) rfl ?_); refine goesL_ (some 107) rfl rfl Try.func31 (by kernel_rfl) rfl #[.int .i64 a0, .slice A1 l1.length c1, .slice Ao41 t500.length co41] rfl (by (try simp only [List.map_toArray, List.map_cons, List.map_nil]); first | done | rfl | (simp only [List.length_drop, List.length_take]; rfl)) ?_; (with_reducible refine (flash_Same.calls kj25 a0 _ _ l1 _ _ t500 t513 t514 _ ?side1 ?side2 ?side3 ?side4 A39.out).mono ?_); (case side1 => repeat (first | exact (Kd.C_below HR1.out HB.out) | (with_reducible refine Kd.C_alloc ?_ _) | (with_reducible refine Kd.C_drewN ?_ _) | (with_reducible refine Kd.C_drew ?_))); (case side2 => exact HC1.out); (case side3 => repeat (first | exact (Kd.R_reads' HO_11.out).2.2 | (with_reducible refine Kd.C_alloc ?_ _) | (with_reducible refine Kd.C_drewN ?_ _) | (with_reducible refine Kd.C_drew ?_))); (case side4 => exact (Kd.R_reads' HO_11.out).2.1); rintro e w42 ⟨rfl, hb⟩; refine ⟨_, rfl, ?_⟩; have n0_ := Aside0.mk (Kd.R_below (by (with_reducible repeat (first | apply Kd.R_alloc | apply Kd.R_drewN | apply Kd.R_drew)); exact HO_11.out) hb); have n1_ := Aside0.mk (below_step (by repeat (first | (with_reducible first | exact HB.out | apply below_alloc | apply pw_below_drewN | apply below_drew1) | exact HB.out)) hb); clear HO_11; clear HB; have HO_11 := n0_; have HB := n1_; clear n0_ n1_; (try clear hb); (try clear hb2); (try clear hk); (try clear hi)))
                      go_loopg [18, 20] kj25 (fun kq v18 v20 w' => ∃ (x18_4 : List Int) (x20_4 : Int), v20 = .int .i64 x20_4 ∧ Aside0 (neonwrightlaw04_FlashNormal.l0 kq a0 l1 a3 t500 t514 t513 x18_4 (Int.tmod (wrap64 (a4)) a0) x20_4 = some r) ∧ Aside0 (kq ≤ kj25) ∧ Aside0 (Kd.R (Kd.int .i64) 3 w' w.heap.size (fun k_ => some k_ ≠ (v18 : Value).ownBlock) (.slice Ao41 t500.length co41) t500) ∧ Aside0 (Kd.R (Kd.int .i64) 3 w' w.heap.size (fun k_ => some k_ ≠ ((.slice Ao41 t500.length co41) : Value).ownBlock) v18 x18_4) ∧ Aside0 (Below w.heap.size w w'))
                      case atStart => exact ⟨(([] : List Int)), (0), (by first | rfl | (simp; done) | (simp [*]; done)), H', ⟨Nat.le_refl _⟩, ⟨by (with_reducible repeat (first | apply Kd.R_alloc | apply Kd.R_drewN | apply Kd.R_drew)); exact Kd.R_mono HO_11.out (fun _ hk => (by simp [Value.ownBlock]))⟩, ⟨by first | exact Kd.R_nil _ _ _ _ _ | exact Kd.N_nil _ _ _ _ _ | exact Kd.V_nil _ _ _ _ _ | exact Kd.Q_nil _ _ _ _ _ | exact Kd.S_nil _ _ _ _ _⟩, ⟨by repeat (first | (with_reducible first | exact HB.out | apply below_alloc | apply pw_below_drewN | apply below_drew1) | exact HB.out)⟩⟩
                      case round => as_aux_lemma =>
                        clear H'
                        try clear c1
                        try clear c2
                        try clear p2
                        try clear c3
                        try clear c4
                        try clear p5
                        try clear q5
                        try clear hx5
                        try clear qi5
                        try clear p6
                        try clear c8
                        try clear c10
                        try clear c14
                        try clear c20
                        try clear c20b0
                        try clear c20b1
                        try clear c21
                        try clear c22
                        try clear c22b0
                        try clear c22b1
                        try clear c23
                        try clear c27
                        try clear c27b0
                        try clear c27b1
                        try clear c29
                        try clear c29b0
                        try clear c29b1
                        try clear c29b2
                        try clear c31
                        try clear c32
                        try clear c32b0
                        try clear c32b1
                        try clear c32b2
                        try clear c33
                        try clear c33b0
                        try clear c33b1
                        try clear c38
                        try clear c40
                        try clear c40b0
                        try clear c40b1
                        try clear hx512_0
                        try clear p2
                        try clear p5
                        try clear p512
                        try clear q5
                        try clear q512
                        obtain ⟨x18_4, x20_4, rfl, HA, HK4, HO_11, HO_18, HB⟩ := hrel
                        cases gk with
                        | zero => exact absurd HA.out (by simp [neonwrightlaw04_FlashNormal.l0])
                        | succ k4 =>
                          have H := HA.out
                          clear HA
                          simp only [neonwrightlaw04_FlashNormal.l0] at H
                          by_cases c43 : x20_4 < (l1.length : Int)
                          · rw [if_pos c43] at H
                            have c43b0 : decide (x20_4 < (l1.length : Int)) = true := decide_eq_true c43
                            clear c43
                            by_cases c44 : 0 ≤ x20_4
                            · rw [if_pos c44] at H
                              have c44b0 : decide (0 ≤ x20_4) = true := decide_eq_true c44
                              clear c44
                              by_cases c45 : 0 ≤ a0
                              · rw [if_pos c45] at H
                                have c45b0 := eq_true c45
                                have c45b1 : decide (0 ≤ a0) = true := decide_eq_true c45
                                clear c45
                                obtain ⟨ji46, hji46⟩ : ∃ j_ : Int, (shl .i64 1 a0) = j_ := ⟨_, rfl⟩
                                replace H : (if (ji46) = 0 then (none) else (if 0 ≤ (Int.tmod (wrap64 (a4)) a0) then (if 0 ≤ (wrap64 (a0 - (Int.tmod (wrap64 (a4)) a0))) then (if x18_4.length < 17592186044416 then (neonwrightlaw04_FlashNormal.l0 k4 a0 l1 a3 t500 t514 t513 (x18_4 ++ [wrap64 ((Int.tmod (shl .i64 (Go.bits .xor .i64 (rd l1 x20_4) (Int.tmod (wrap64 (a3)) (ji46))) (Int.tmod (wrap64 (a4)) a0)) (ji46)) + (shr .i64 (Go.bits .xor .i64 (rd l1 x20_4) (Int.tmod (wrap64 (a3)) (ji46))) (wrap64 (a0 - (Int.tmod (wrap64 (a4)) a0)))))]) (Int.tmod (wrap64 (a4)) a0) (wrap64 (x20_4 + 1))) else (none)) else (none)) else (none))) = some r := by first | (rw [hji46] at H; exact H) | (simp only [hji46] at H ⊢; exact H)
                                have hji46_ : (IntKind.i64.wrap (1 * 2 ^ min a0.toNat 64)) = ji46 := hji46
                                have hji46z : a0 ≤ 64 → (IntKind.i64.wrap (1 * 2 ^ a0.toNat)) = ji46 := shl_small hji46
                                have hji46u : (IntKind.i64.wrap (2 ^ min a0.toNat 64)) = ji46 := by have h_ := hji46_; rw [Int.one_mul] at h_; exact h_
                                have hji46v : a0 ≤ 64 → (IntKind.i64.wrap (2 ^ a0.toNat)) = ji46 := fun hle_ => by have h_ := hji46z hle_; rw [Int.one_mul] at h_; exact h_
                                have hji46y : (wrap64 (1 * 2 ^ min a0.toNat 64)) = ji46 := (i64_w _).symm.trans hji46_
                                have hji46x : a0 ≤ 64 → (wrap64 (1 * 2 ^ a0.toNat)) = ji46 := fun h_ => (i64_w _).symm.trans (hji46z h_)
                                by_cases c47 : (ji46) = 0
                                · rw [if_pos c47] at H
                                  exact absurd H (by simp)
                                · rw [if_neg c47] at H
                                  have c47b0 : ((ji46) == 0) = false := beq_eq_false_iff_ne.mpr c47
                                  have c47b1 : ((ji46) != 0) = true := bne_iff_ne.mpr c47
                                  obtain ⟨ji48, hji48⟩ : ∃ j_ : Int, (Int.tmod (wrap64 (a4)) a0) = j_ := ⟨_, rfl⟩
                                  replace H : (if 0 ≤ (ji48) then (if 0 ≤ (wrap64 (a0 - (ji48))) then (if x18_4.length < 17592186044416 then (neonwrightlaw04_FlashNormal.l0 k4 a0 l1 a3 t500 t514 t513 (x18_4 ++ [wrap64 ((Int.tmod (shl .i64 (Go.bits .xor .i64 (rd l1 x20_4) (Int.tmod (wrap64 (a3)) (ji46))) (ji48)) (ji46)) + (shr .i64 (Go.bits .xor .i64 (rd l1 x20_4) (Int.tmod (wrap64 (a3)) (ji46))) (wrap64 (a0 - (ji48)))))]) (ji48) (wrap64 (x20_4 + 1))) else (none)) else (none)) else (none)) = some r := by first | (rw [hji48] at H; exact H) | (simp only [hji48] at H ⊢; exact H)
                                  by_cases c49 : 0 ≤ (ji48)
                                  · rw [if_pos c49] at H
                                    have c49b0 := eq_true c49
                                    have c49b1 : decide (0 ≤ (ji48)) = true := decide_eq_true c49
                                    clear c49
                                    obtain ⟨ji50, hji50⟩ : ∃ j_ : Int, (shl .i64 (Go.bits .xor .i64 (rd l1 x20_4) (Int.tmod (wrap64 (a3)) (ji46))) (ji48)) = j_ := ⟨_, rfl⟩
                                    replace H : (if 0 ≤ (wrap64 (a0 - (ji48))) then (if x18_4.length < 17592186044416 then (neonwrightlaw04_FlashNormal.l0 k4 a0 l1 a3 t500 t514 t513 (x18_4 ++ [wrap64 ((Int.tmod (ji50) (ji46)) + (shr .i64 (Go.bits .xor .i64 (rd l1 x20_4) (Int.tmod (wrap64 (a3)) (ji46))) (wrap64 (a0 - (ji48)))))]) (ji48) (wrap64 (x20_4 + 1))) else (none)) else (none)) = some r := by first | (rw [hji50] at H; exact H) | (simp only [hji50] at H ⊢; exact H)
                                    have hji50_ : (IntKind.i64.wrap ((Go.bits .xor .i64 (rd l1 x20_4) (Int.tmod (wrap64 (a3)) (ji46))) * 2 ^ min (ji48).toNat 64)) = ji50 := hji50
                                    have hji50z : (ji48) ≤ 64 → (IntKind.i64.wrap ((Go.bits .xor .i64 (rd l1 x20_4) (Int.tmod (wrap64 (a3)) (ji46))) * 2 ^ (ji48).toNat)) = ji50 := shl_small hji50
                                    have hji50y : (wrap64 ((Go.bits .xor .i64 (rd l1 x20_4) (Int.tmod (wrap64 (a3)) (ji46))) * 2 ^ min (ji48).toNat 64)) = ji50 := (i64_w _).symm.trans hji50_
                                    have hji50x : (ji48) ≤ 64 → (wrap64 ((Go.bits .xor .i64 (rd l1 x20_4) (Int.tmod (wrap64 (a3)) (ji46))) * 2 ^ (ji48).toNat)) = ji50 := fun h_ => (i64_w _).symm.trans (hji50z h_)
                                    have c51b0 := eq_true (of_decide_eq_true (by first | (with_reducible assumption) | assumption) : 0 ≤ a0)
                                    obtain ⟨ji53, hji53⟩ : ∃ j_ : Int, (wrap64 (a0 - (ji48))) = j_ := ⟨_, rfl⟩
                                    replace H : (if 0 ≤ (ji53) then (if x18_4.length < 17592186044416 then (neonwrightlaw04_FlashNormal.l0 k4 a0 l1 a3 t500 t514 t513 (x18_4 ++ [wrap64 ((Int.tmod (ji50) (ji46)) + (shr .i64 (Go.bits .xor .i64 (rd l1 x20_4) (Int.tmod (wrap64 (a3)) (ji46))) (ji53)))]) (ji48) (wrap64 (x20_4 + 1))) else (none)) else (none)) = some r := by first | (rw [hji53] at H; exact H) | (simp only [hji53] at H ⊢; exact H)
                                    have hji53w : (IntKind.i64.wrap (a0 - (ji48))) = ji53 := (i64_w _).trans hji53
                                    by_cases c54 : 0 ≤ (ji53)
                                    · rw [if_pos c54] at H
                                      have c54b0 := eq_true c54
                                      have c54b1 : decide (0 ≤ (ji53)) = true := decide_eq_true c54
                                      clear c54
                                      obtain ⟨ji55, hji55⟩ : ∃ j_ : Int, (shr .i64 (Go.bits .xor .i64 (rd l1 x20_4) (Int.tmod (wrap64 (a3)) (ji46))) (ji53)) = j_ := ⟨_, rfl⟩
                                      replace H : (if x18_4.length < 17592186044416 then (neonwrightlaw04_FlashNormal.l0 k4 a0 l1 a3 t500 t514 t513 (x18_4 ++ [wrap64 ((Int.tmod (ji50) (ji46)) + (ji55))]) (ji48) (wrap64 (x20_4 + 1))) else (none)) = some r := by first | (rw [hji55] at H; exact H) | (simp only [hji55] at H ⊢; exact H)
                                      have hji55_ : ((Go.bits .xor .i64 (rd l1 x20_4) (Int.tmod (wrap64 (a3)) (ji46))) / 2 ^ min (ji53).toNat 64) = ji55 := hji55
                                      have hji55z : (ji53) ≤ 64 → ((Go.bits .xor .i64 (rd l1 x20_4) (Int.tmod (wrap64 (a3)) (ji46))) / 2 ^ (ji53).toNat) = ji55 := shr_small hji55
                                      by_cases c56 : x18_4.length < 17592186044416
                                      · rw [if_pos c56] at H
                                        have LMc56 := Aside0.mk c56
                                        clear c56
                                        obtain ⟨y516, hy516⟩ : ∃ y_ : List Int, y_ = (x18_4 ++ [wrap64 ((Int.tmod (ji50) (ji46)) + (ji55))]) := ⟨_, rfl⟩
                                        replace H : (neonwrightlaw04_FlashNormal.l0 k4 a0 l1 a3 t500 t514 t513 y516 (ji48) (wrap64 (x20_4 + 1))) = some r := by first | (rw [hy516]; with_reducible exact H) | (have H2_ := (Option.bind_some _ _).symm.trans H; rw [hy516]; with_reducible exact H2_) | (have H2_ := (Option.bind_some _ _).symm.trans H; with_reducible exact H2_) | with_reducible exact H | (rw [hy516]; exact H) | exact H
                                        have Ny516 := Aside0.mk hy516
                                        clear hy516
                                        have H' := Aside0.mk H
                                        clear H
                                        try go_wp2
                                        have n0_ := Aside0.mk (Kd.R_drew HO_11.out)
                                        have n1_ := Aside0.mk (Kd.R_drew HO_18.out)
                                        have n2_ := Aside0.mk (below_drew1 HB.out)
                                        clear HO_11
                                        clear HO_18
                                        clear HB
                                        have HO_11 := n0_
                                        have HO_18 := n1_
                                        have HB := n2_
                                        clear n0_ n1_ n2_
                                        have p515 : 0 ≤ (x20_4 : Int) := of_decide_eq_true (by first | (with_reducible assumption) | assumption)
                                        have q515 : x20_4 < (l1.length : Int) := of_decide_eq_true (by first | (with_reducible assumption) | assumption)
                                        obtain ⟨ad515, e515, hx515_0⟩ := Kd.at_int HR1.out x20_4 p515 q515
                                        have hw515_0 := hx515_0
                                        cases e515
                                        replace hx515_0 := (HB.out.cell (World.block_lt_of_cell? w _ hx515_0)).trans hx515_0
                                        replace p515 := eq_true p515
                                        replace q515 := eq_true q515
                                        refine start_ (n := 11) (S := fun w' => w'.cell? (ad515.add (x20_4).toNat) = some (.int .i64 (rd l1 x20_4))) (ds := []) #[false, false, false, false, false, false, false, false, false, false, false] (by kernel_rfl) rfl rfl (((HB.out.cell (World.block_lt_of_cell? w _ hw515_0)).trans hw515_0)) (fun hHeld => ?_); refine with_tabW neonwrightlaw04_FlashNormal.tab16 neonwrightlaw04_FlashNormal.bits16 (fun HT_ HW_ => ?_)
                                        generalize wr.drew = w57 at HO_11 HO_18 HB hx515_0 hHeld ⊢
                                        refine pure_ (i := 0) (N := some 120) (v := ?_) (a' := ?_) #[true, false, false, false, false, false, false, false, false, false, false] rfl rfl (any_of HT_.out (by kernel_rfl)) (fun _ _ _ h => h) (Or.inl ⟨by rfl, ?_⟩) ?_ ?_
                                        rotate_left
                                        · intro w'
                                          go_simp
                                          with_reducible rfl
                                        rotate_left
                                        · simp only [Act.put, List.setIfInBounds_toArray, List.set_cons_zero, List.set_cons_succ, i64_w, i32_w]
                                          rfl
                                        refine pure_ (i := 1) (N := some 121) (v := ?_) (a' := ?_) #[true, true, false, false, false, false, false, false, false, false, false] rfl rfl (any_of HT_.out (by kernel_rfl)) (fun _ _ _ h => h) (Or.inl ⟨by rfl, ?_⟩) ?_ ?_
                                        rotate_left
                                        · intro w'
                                          go_simp
                                          with_reducible rfl
                                        rotate_left
                                        · simp only [Act.put, List.setIfInBounds_toArray, List.set_cons_zero, List.set_cons_succ, i64_w, i32_w]
                                          rfl
                                        refine pure_ (i := 2) (N := some 122) (v := ?_) (a' := ?_) #[true, true, true, false, false, false, false, false, false, false, false] rfl rfl (any_of HT_.out (by kernel_rfl)) (fun _ _ _ h => h) (Or.inl ⟨by rfl, ?_⟩) ?_ ?_
                                        rotate_left
                                        · intro w'
                                          go_simp
                                          with_reducible rfl
                                        rotate_left
                                        · simp only [Act.put, List.setIfInBounds_toArray, List.set_cons_zero, List.set_cons_succ, i64_w, i32_w]
                                          rfl
                                        refine pure_ (i := 4) (N := some 124) (v := ?_) (a' := ?_) #[true, true, true, false, true, false, false, false, false, false, false] rfl rfl (any_of HT_.out (by kernel_rfl)) (fun _ _ _ h => h) (Or.inl ⟨by rfl, ?_⟩) ?_ ?_
                                        rotate_left
                                        · intro w'
                                          go_simp
                                          with_reducible rfl
                                        rotate_left
                                        · simp only [Act.put, List.setIfInBounds_toArray, List.set_cons_zero, List.set_cons_succ, i64_w, i32_w]
                                          rfl
                                        refine pure_ (i := 5) (N := some 125) (v := ?_) (a' := ?_) #[true, true, true, false, true, true, false, false, false, false, false] rfl rfl (any_of HT_.out (by kernel_rfl)) (fun _ _ _ h => h) (Or.inl ⟨by rfl, ?_⟩) ?_ ?_
                                        rotate_left
                                        · intro w'
                                          go_simp
                                          with_reducible rfl
                                        rotate_left
                                        · simp only [Act.put, List.setIfInBounds_toArray, List.set_cons_zero, List.set_cons_succ, i64_w, i32_w]
                                          rfl
                                        refine pure_ (i := 6) (N := some 126) (v := ?_) (a' := ?_) #[true, true, true, false, true, true, true, false, false, false, false] rfl rfl (any_of HT_.out (by kernel_rfl)) (fun _ _ _ h => h) (Or.inl ⟨by rfl, ?_⟩) ?_ ?_
                                        rotate_left
                                        · intro w'
                                          go_simp
                                          with_reducible rfl
                                        rotate_left
                                        · simp only [Act.put, List.setIfInBounds_toArray, List.set_cons_zero, List.set_cons_succ, i64_w, i32_w]
                                          rfl
                                        refine pure_ (i := 7) (N := some 127) (v := ?_) (a' := ?_) #[true, true, true, false, true, true, true, true, false, false, false] rfl rfl (any_of HT_.out (by kernel_rfl)) (fun _ _ _ h => h) (Or.inl ⟨by rfl, ?_⟩) ?_ ?_
                                        rotate_left
                                        · intro w'
                                          go_simp
                                          with_reducible rfl
                                        rotate_left
                                        · simp only [Act.put, List.setIfInBounds_toArray, List.set_cons_zero, List.set_cons_succ, i64_w, i32_w]
                                          rfl
                                        refine pure_ (i := 8) (N := some 128) (v := ?_) (a' := ?_) #[true, true, true, false, true, true, true, true, true, false, false] rfl rfl (any_of HT_.out (by kernel_rfl)) (fun _ _ _ h => h) (Or.inl ⟨by rfl, ?_⟩) ?_ ?_
                                        rotate_left
                                        · intro w'
                                          go_simp
                                          with_reducible rfl
                                        rotate_left
                                        · simp only [Act.put, List.setIfInBounds_toArray, List.set_cons_zero, List.set_cons_succ, i64_w, i32_w]
                                          rfl
                                        refine take_ (i := 3) (N := some 123) (v := ?_) (a' := ?_) #[true, true, true, true, true, true, true, true, true, false, false] rfl rfl (take_ofW HT_.out HW_.out (by kernel_rfl)) (fun _ _ _ h => h) (Or.inl ⟨by rfl, ?_⟩) hHeld ?_ ?_
                                        rotate_left
                                        · intro w' s0
                                          go_simp
                                          with_reducible rfl
                                        rotate_left
                                        · simp only [Act.put, List.setIfInBounds_toArray, List.set_cons_zero, List.set_cons_succ, i64_w, i32_w]
                                          rfl
                                        refine pure_ (i := 9) (N := some 129) (v := ?_) (a' := ?_) #[true, true, true, true, true, true, true, true, true, true, false] rfl rfl (any_of HT_.out (by kernel_rfl)) (fun _ _ _ h => h) (Or.inl ⟨by rfl, ?_⟩) ?_ ?_
                                        rotate_left
                                        · intro w'
                                          go_simp
                                          with_reducible rfl
                                        rotate_left
                                        · simp only [Act.put, List.setIfInBounds_toArray, List.set_cons_zero, List.set_cons_succ, i64_w, i32_w]
                                          rfl
                                        refine pure_ (i := 10) (N := some 21) (v := ?_) (a' := ?_) #[true, true, true, true, true, true, true, true, true, true, true] rfl rfl (any_of HT_.out (by kernel_rfl)) (fun _ _ _ h => h) (Or.inl ⟨by rfl, ?_⟩) ?_ ?_
                                        rotate_left
                                        · intro w'
                                          go_simp
                                          with_reducible rfl
                                        rotate_left
                                        · simp only [Act.put, List.setIfInBounds_toArray, List.set_cons_zero, List.set_cons_succ, i64_w, i32_w]
                                          rfl
                                        refine done_ (done_of HT_.out (by kernel_rfl)) ?_
                                        try go_wp2
                                        have n0_ := Aside0.mk (Kd.R_drew HO_11.out)
                                        have n1_ := Aside0.mk (Kd.R_drew HO_18.out)
                                        have n2_ := Aside0.mk (below_drew1 HB.out)
                                        clear HO_11
                                        clear HO_18
                                        clear HB
                                        have HO_11 := n0_
                                        have HO_18 := n1_
                                        have HB := n2_
                                        clear n0_ n1_ n2_
                                        refine start_ (n := 16) (S := fun w' => True) (ds := []) #[false, false, false, false, false, false, false, false, false, false, false, false, false, false, false, false] (by kernel_rfl) rfl rfl trivial (fun hHeld => ?_); refine with_tabW neonwrightlaw04_FlashNormal.tab17 neonwrightlaw04_FlashNormal.bits17 (fun HT_ HW_ => ?_)
                                        generalize w57.drew = w58 at HO_11 HO_18 HB hHeld ⊢
                                        refine pure_ (i := 0) (N := some 130) (v := ?_) (a' := ?_) #[true, false, false, false, false, false, false, false, false, false, false, false, false, false, false, false] rfl rfl (any_of HT_.out (by kernel_rfl)) (fun _ _ _ h => h) (Or.inl ⟨by rfl, ?_⟩) ?_ ?_
                                        rotate_left
                                        · intro w'
                                          go_simp
                                          with_reducible rfl
                                        rotate_left
                                        · simp only [Act.put, List.setIfInBounds_toArray, List.set_cons_zero, List.set_cons_succ, i64_w, i32_w]
                                          rfl
                                        refine pure_ (i := 1) (N := some 131) (v := ?_) (a' := ?_) #[true, true, false, false, false, false, false, false, false, false, false, false, false, false, false, false] rfl rfl (any_of HT_.out (by kernel_rfl)) (fun _ _ _ h => h) (Or.inl ⟨by rfl, ?_⟩) ?_ ?_
                                        rotate_left
                                        · intro w'
                                          go_simp
                                          with_reducible rfl
                                        rotate_left
                                        · simp only [Act.put, List.setIfInBounds_toArray, List.set_cons_zero, List.set_cons_succ, i64_w, i32_w]
                                          rfl
                                        refine pure_ (i := 2) (N := some 132) (v := ?_) (a' := ?_) #[true, true, true, false, false, false, false, false, false, false, false, false, false, false, false, false] rfl rfl (any_of HT_.out (by kernel_rfl)) (fun _ _ _ h => h) (Or.inl ⟨by rfl, ?_⟩) ?_ ?_
                                        rotate_left
                                        · intro w'
                                          go_simp
                                          with_reducible rfl
                                        rotate_left
                                        · simp only [Act.put, List.setIfInBounds_toArray, List.set_cons_zero, List.set_cons_succ, i64_w, i32_w]
                                          rfl
                                        refine pure_ (i := 3) (N := some 133) (v := ?_) (a' := ?_) #[true, true, true, true, false, false, false, false, false, false, false, false, false, false, false, false] rfl rfl (any_of HT_.out (by kernel_rfl)) (fun _ _ _ h => h) (Or.inl ⟨by rfl, ?_⟩) ?_ ?_
                                        rotate_left
                                        · intro w'
                                          go_simp
                                          with_reducible rfl
                                        rotate_left
                                        · simp only [Act.put, List.setIfInBounds_toArray, List.set_cons_zero, List.set_cons_succ, i64_w, i32_w]
                                          rfl
                                        refine pure_ (i := 4) (N := some 134) (v := ?_) (a' := ?_) #[true, true, true, true, true, false, false, false, false, false, false, false, false, false, false, false] rfl rfl (any_of HT_.out (by kernel_rfl)) (fun _ _ _ h => h) (Or.inl ⟨by rfl, ?_⟩) ?_ ?_
                                        rotate_left
                                        · intro w'
                                          go_simp
                                          with_reducible rfl
                                        rotate_left
                                        · simp only [Act.put, List.setIfInBounds_toArray, List.set_cons_zero, List.set_cons_succ, i64_w, i32_w]
                                          rfl
                                        refine pure_ (i := 5) (N := some 135) (v := ?_) (a' := ?_) #[true, true, true, true, true, true, false, false, false, false, false, false, false, false, false, false] rfl rfl (any_of HT_.out (by kernel_rfl)) (fun _ _ _ h => h) (Or.inl ⟨by rfl, ?_⟩) ?_ ?_
                                        rotate_left
                                        · intro w'
                                          go_simp
                                          with_reducible rfl
                                        rotate_left
                                        · simp only [Act.put, List.setIfInBounds_toArray, List.set_cons_zero, List.set_cons_succ, i64_w, i32_w]
                                          rfl
                                        refine pure_ (i := 6) (N := some 136) (v := ?_) (a' := ?_) #[true, true, true, true, true, true, true, false, false, false, false, false, false, false, false, false] rfl rfl (any_of HT_.out (by kernel_rfl)) (fun _ _ _ h => h) (Or.inl ⟨by rfl, ?_⟩) ?_ ?_
                                        rotate_left
                                        · intro w'
                                          go_simp
                                          with_reducible rfl
                                        rotate_left
                                        · simp only [Act.put, List.setIfInBounds_toArray, List.set_cons_zero, List.set_cons_succ, i64_w, i32_w]
                                          rfl
                                        refine pure_ (i := 7) (N := some 137) (v := ?_) (a' := ?_) #[true, true, true, true, true, true, true, true, false, false, false, false, false, false, false, false] rfl rfl (any_of HT_.out (by kernel_rfl)) (fun _ _ _ h => h) (Or.inl ⟨by rfl, ?_⟩) ?_ ?_
                                        rotate_left
                                        · intro w'
                                          go_simp
                                          with_reducible rfl
                                        rotate_left
                                        · simp only [Act.put, List.setIfInBounds_toArray, List.set_cons_zero, List.set_cons_succ, i64_w, i32_w]
                                          rfl
                                        refine pure_ (i := 8) (N := some 138) (v := ?_) (a' := ?_) #[true, true, true, true, true, true, true, true, true, false, false, false, false, false, false, false] rfl rfl (any_of HT_.out (by kernel_rfl)) (fun _ _ _ h => h) (Or.inl ⟨by rfl, ?_⟩) ?_ ?_
                                        rotate_left
                                        · intro w'
                                          go_simp
                                          with_reducible rfl
                                        rotate_left
                                        · simp only [Act.put, List.setIfInBounds_toArray, List.set_cons_zero, List.set_cons_succ, i64_w, i32_w]
                                          rfl
                                        refine pure_ (i := 9) (N := some 139) (v := ?_) (a' := ?_) #[true, true, true, true, true, true, true, true, true, true, false, false, false, false, false, false] rfl rfl (any_of HT_.out (by kernel_rfl)) (fun _ _ _ h => h) (Or.inl ⟨by rfl, ?_⟩) ?_ ?_
                                        rotate_left
                                        · intro w'
                                          go_simp
                                          with_reducible rfl
                                        rotate_left
                                        · simp only [Act.put, List.setIfInBounds_toArray, List.set_cons_zero, List.set_cons_succ, i64_w, i32_w]
                                          rfl
                                        refine pure_ (i := 10) (N := some 140) (v := ?_) (a' := ?_) #[true, true, true, true, true, true, true, true, true, true, true, false, false, false, false, false] rfl rfl (any_of HT_.out (by kernel_rfl)) (fun _ _ _ h => h) (Or.inl ⟨by rfl, ?_⟩) ?_ ?_
                                        rotate_left
                                        · intro w'
                                          go_simp
                                          with_reducible rfl
                                        rotate_left
                                        · simp only [Act.put, List.setIfInBounds_toArray, List.set_cons_zero, List.set_cons_succ, i64_w, i32_w]
                                          rfl
                                        refine pure_ (i := 11) (N := some 141) (v := ?_) (a' := ?_) #[true, true, true, true, true, true, true, true, true, true, true, true, false, false, false, false] rfl rfl (any_of HT_.out (by kernel_rfl)) (fun _ _ _ h => h) (Or.inl ⟨by rfl, ?_⟩) ?_ ?_
                                        rotate_left
                                        · intro w'
                                          go_simp
                                          with_reducible rfl
                                        rotate_left
                                        · simp only [Act.put, List.setIfInBounds_toArray, List.set_cons_zero, List.set_cons_succ, i64_w, i32_w]
                                          rfl
                                        refine pure_ (i := 12) (N := some 142) (v := ?_) (a' := ?_) #[true, true, true, true, true, true, true, true, true, true, true, true, true, false, false, false] rfl rfl (any_of HT_.out (by kernel_rfl)) (fun _ _ _ h => h) (Or.inl ⟨by rfl, ?_⟩) ?_ ?_
                                        rotate_left
                                        · intro w'
                                          go_simp
                                          with_reducible rfl
                                        rotate_left
                                        · simp only [Act.put, List.setIfInBounds_toArray, List.set_cons_zero, List.set_cons_succ, i64_w, i32_w]
                                          rfl
                                        refine one_ (i := 13) (N := some 143) #[true, true, true, true, true, true, true, true, true, true, true, true, true, true, false, false] rfl rfl (one_of HT_.out (by kernel_rfl)) (by decide) (fun K hK => ?_)
                                        refine value_ (w1 := ?_) (v := ?_) (by rfl) rfl ?_ ?_
                                        rotate_left 2
                                        · go_simp
                                          constructor
                                          · rfl
                                          · rfl
                                        refine hK.out _ _ trivial (fun hHeld => ?_)
                                        clear hK K
                                        refine norm_ (a' := ?_) ?_ ?_
                                        rotate_left
                                        · show Act.put _ (some 143) _ = _
                                          simp only [Act.put, List.setIfInBounds_toArray, List.set_cons_zero, List.set_cons_succ, i64_w, i32_w]
                                          rfl
                                        refine one_ (i := 14) (N := some 144) #[true, true, true, true, true, true, true, true, true, true, true, true, true, true, true, false] rfl rfl (one_of HT_.out (by kernel_rfl)) (by decide) (fun K hK => ?_)
                                        refine Kd.R_append_step (Kd.int .i64) (w0 := w) w.heap.size (by rfl) (.tmp 130) (.tmp 143) 22 3 (.int .i64 0) 8 rfl Try.underlying22 info3 rfl (by decide) (by omega) u18 x18_4 (wrap64 ((Int.tmod (ji50) (ji46)) + (ji55))) [.int .i64 (wrap64 ((Int.tmod (ji50) (ji46)) + (ji55)))] (fun k_ => some k_ ≠ (.slice Ao41 t500.length co41 : Value).ownBlock) (fun _ => False) rfl rfl ?aP (fun _ hk => hk.elim) ?aF ?aO ?aB ?aS ?aL ?_
                                        (case aP => exact rfl)
                                        (case aB => exact (by repeat (first | (with_reducible first | exact HB.out | apply below_alloc | apply pw_below_drewN | apply below_drew1) | exact HB.out)))
                                        (case aF => exact (fun k_ hk => Kd.fresh' (Kd.R_lt (by (with_reducible repeat (first | apply Kd.R_alloc | apply Kd.R_drewN | apply Kd.R_drew)); exact HO_11.out)) k_ hk))
                                        (case aO => exact (by (with_reducible repeat (first | apply Kd.R_alloc | apply Kd.R_drewN | apply Kd.R_drew)); exact HO_18.out))
                                        (case aS => exact (below_size (by repeat (first | (with_reducible first | exact HB.out | apply below_alloc | apply pw_below_drewN | apply below_drew1) | exact HB.out))))
                                        (case aL => have := LMc56.out; (try clear hji46); (try clear hji46_); (try clear hji46z); (try clear hji46u); (try clear hji46v); (try clear hji46y); (try clear hji46x); (try clear hji46w); (try clear hji48); (try clear hji48_); (try clear hji48z); (try clear hji48u); (try clear hji48v); (try clear hji48y); (try clear hji48x); (try clear hji48w); (try clear hji50); (try clear hji50_); (try clear hji50z); (try clear hji50u); (try clear hji50v); (try clear hji50y); (try clear hji50x); (try clear hji50w); (try clear hji53); (try clear hji53_); (try clear hji53z); (try clear hji53u); (try clear hji53v); (try clear hji53y); (try clear hji53x); (try clear hji53w); (try clear hji55); (try clear hji55_); (try clear hji55z); (try clear hji55u); (try clear hji55v); (try clear hji55y); (try clear hji55x); (try clear hji55w); omega)
                                        intro v517 w59 ho hb hg hat
                                        rw [← Ny516.out] at ho
                                        have n0_ := Aside0.mk (Kd.R_after (ok := (fun _ => True)) (by (with_reducible repeat (first | apply Kd.R_alloc | apply Kd.R_drewN | apply Kd.R_drew)); exact Kd.R_mono HO_11.out (fun _ hk => ⟨trivial, hk⟩)) hg hat)
                                        have n1_ := Aside0.mk (hb)
                                        have n2_ := Aside0.mk (ho)
                                        clear HO_11
                                        clear HB
                                        clear HO_18
                                        have HO_11 := n0_
                                        have HB := n1_
                                        have HO518 := n2_
                                        clear n0_ n1_ n2_
                                        clear ho hb hg hat
                                        refine hK.out _ _ trivial (fun hHeld => ?_)
                                        clear hK K
                                        refine norm_ (a' := ?_) ?_ ?_
                                        rotate_left
                                        · show Act.put _ (some 144) _ = _
                                          simp only [Act.put, List.setIfInBounds_toArray, List.set_cons_zero, List.set_cons_succ, i64_w, i32_w]
                                          rfl
                                        refine pure_ (i := 15) (N := some 18) (v := ?_) (a' := ?_) #[true, true, true, true, true, true, true, true, true, true, true, true, true, true, true, true] rfl rfl (any_of HT_.out (by kernel_rfl)) (fun _ _ _ h => h) (Or.inl ⟨by rfl, ?_⟩) ?_ ?_
                                        rotate_left
                                        · intro w'
                                          go_simp
                                          with_reducible rfl
                                        rotate_left
                                        · simp only [Act.put, List.setIfInBounds_toArray, List.set_cons_zero, List.set_cons_succ, i64_w, i32_w]
                                          rfl
                                        refine done_ (done_of HT_.out (by kernel_rfl)) ?_
                                        try go_wp2
                                        first | go_roundg k4 | ((try simp only [← hji46]); (try simp only [← hji48]); (try simp only [← hji50]); (try simp only [← hji53]); (try simp only [← hji55]); go_roundg k4)
                                        case measure => have := HJ5.out; have := HJ15.out; have := HJ25.out; have := HK4.out; (try clear hji46); (try clear hji46_); (try clear hji46z); (try clear hji46u); (try clear hji46v); (try clear hji46y); (try clear hji46x); (try clear hji46w); (try clear hji48); (try clear hji48_); (try clear hji48z); (try clear hji48u); (try clear hji48v); (try clear hji48y); (try clear hji48x); (try clear hji48w); (try clear hji50); (try clear hji50_); (try clear hji50z); (try clear hji50u); (try clear hji50v); (try clear hji50y); (try clear hji50x); (try clear hji50w); (try clear hji53); (try clear hji53_); (try clear hji53z); (try clear hji53u); (try clear hji53v); (try clear hji53y); (try clear hji53x); (try clear hji53w); (try clear hji55); (try clear hji55_); (try clear hji55z); (try clear hji55u); (try clear hji55v); (try clear hji55y); (try clear hji55x); (try clear hji55w); omega
                                        case rel => first | (exact ⟨(y516), (wrap64 (x20_4 + 1)), (by first | rfl | (simp; done) | (simp [*]; done)), H', ⟨by have := HJ5.out; have := HJ15.out; have := HJ25.out; have := HK4.out; (try clear hji46); (try clear hji46_); (try clear hji46z); (try clear hji46u); (try clear hji46v); (try clear hji46y); (try clear hji46x); (try clear hji46w); (try clear hji48); (try clear hji48_); (try clear hji48z); (try clear hji48u); (try clear hji48v); (try clear hji48y); (try clear hji48x); (try clear hji48w); (try clear hji50); (try clear hji50_); (try clear hji50z); (try clear hji50u); (try clear hji50v); (try clear hji50y); (try clear hji50x); (try clear hji50w); (try clear hji53); (try clear hji53_); (try clear hji53z); (try clear hji53u); (try clear hji53v); (try clear hji53y); (try clear hji53x); (try clear hji53w); (try clear hji55); (try clear hji55_); (try clear hji55z); (try clear hji55u); (try clear hji55v); (try clear hji55y); (try clear hji55x); (try clear hji55w); omega⟩, ⟨by (with_reducible repeat (first | apply Kd.R_alloc | apply Kd.R_drewN | apply Kd.R_drew)); exact Kd.R_mono HO_11.out (fun _ hk => hk.2)⟩, ⟨by (with_reducible repeat (first | apply Kd.R_alloc | apply Kd.R_drewN | apply Kd.R_drew)); first | exact HO518.out | exact Kd.R_mono HO518.out (fun k_ h_ => ne_own_len h_)⟩, ⟨by repeat (first | (with_reducible first | exact HB.out | apply below_alloc | apply pw_below_drewN | apply below_drew1) | exact HB.out)⟩⟩) | ((try simp only [← hji46] at H'); (try simp only [← hji48] at H'); (try simp only [← hji50] at H'); (try simp only [← hji53] at H'); (try simp only [← hji55] at H'); (exact ⟨(y516), (wrap64 (x20_4 + 1)), (by first | rfl | (simp; done) | (simp [*]; done)), H', ⟨by have := HJ5.out; have := HJ15.out; have := HJ25.out; have := HK4.out; (try clear hji46); (try clear hji46_); (try clear hji46z); (try clear hji46u); (try clear hji46v); (try clear hji46y); (try clear hji46x); (try clear hji46w); (try clear hji48); (try clear hji48_); (try clear hji48z); (try clear hji48u); (try clear hji48v); (try clear hji48y); (try clear hji48x); (try clear hji48w); (try clear hji50); (try clear hji50_); (try clear hji50z); (try clear hji50u); (try clear hji50v); (try clear hji50y); (try clear hji50x); (try clear hji50w); (try clear hji53); (try clear hji53_); (try clear hji53z); (try clear hji53u); (try clear hji53v); (try clear hji53y); (try clear hji53x); (try clear hji53w); (try clear hji55); (try clear hji55_); (try clear hji55z); (try clear hji55u); (try clear hji55v); (try clear hji55y); (try clear hji55x); (try clear hji55w); omega⟩, ⟨by (with_reducible repeat (first | apply Kd.R_alloc | apply Kd.R_drewN | apply Kd.R_drew)); exact Kd.R_mono HO_11.out (fun _ hk => hk.2)⟩, ⟨by (with_reducible repeat (first | apply Kd.R_alloc | apply Kd.R_drewN | apply Kd.R_drew)); first | exact HO518.out | exact Kd.R_mono HO518.out (fun k_ h_ => ne_own_len h_)⟩, ⟨by repeat (first | (with_reducible first | exact HB.out | apply below_alloc | apply pw_below_drewN | apply below_drew1) | exact HB.out)⟩⟩))
                                      · rw [if_neg c56] at H
                                        exact absurd H (by simp)
                                    · rw [if_neg c54] at H
                                      exact absurd H (by simp)
                                  · rw [if_neg c49] at H
                                    exact absurd H (by simp)
                              · rw [if_neg c45] at H
                                exact absurd H (by simp)
                            · rw [if_neg c44] at H
                              exact absurd H (by simp)
                          · rw [if_neg c43] at H
                            have c43b0 : decide (x20_4 < (l1.length : Int)) = false := decide_eq_false c43
                            clear c43
                            replace H := Option.bind_eq_some_iff.mp H
                            obtain ⟨⟨t519, t520⟩, A600, H⟩ := H
                            replace H : ((flash_Normal.f a0 x18_4).bind fun bt521 => (if t514 = 0 then (if t520 = 0 then (if bt521.2 = 0 then (if t513 = true then (if t519 = true then ((neonwrightlaw04_same.f k4 t500 bt521.1).bind fun t525 => (neonwrightlaw04_FlashNormal.j4 k4 a0 l1 x18_4 (Int.tmod (wrap64 (a4)) a0) (!t525))) else (neonwrightlaw04_FlashNormal.j4 k4 a0 l1 x18_4 (Int.tmod (wrap64 (a4)) a0) true)) else (neonwrightlaw04_FlashNormal.j4 k4 a0 l1 x18_4 (Int.tmod (wrap64 (a4)) a0) true)) else (neonwrightlaw04_FlashNormal.j4 k4 a0 l1 x18_4 (Int.tmod (wrap64 (a4)) a0) true)) else (neonwrightlaw04_FlashNormal.j4 k4 a0 l1 x18_4 (Int.tmod (wrap64 (a4)) a0) true)) else (neonwrightlaw04_FlashNormal.j4 k4 a0 l1 x18_4 (Int.tmod (wrap64 (a4)) a0) true))) = some r := H
                            have A60 := Aside0.mk A600
                            clear A600
                            replace H := Option.bind_eq_some_iff.mp H
                            obtain ⟨⟨t521, t522⟩, A610, H⟩ := H
                            replace H : (if t514 = 0 then (if t520 = 0 then (if t522 = 0 then (if t513 = true then (if t519 = true then ((neonwrightlaw04_same.f k4 t500 t521).bind fun t525 => (neonwrightlaw04_FlashNormal.j4 k4 a0 l1 x18_4 (Int.tmod (wrap64 (a4)) a0) (!t525))) else (neonwrightlaw04_FlashNormal.j4 k4 a0 l1 x18_4 (Int.tmod (wrap64 (a4)) a0) true)) else (neonwrightlaw04_FlashNormal.j4 k4 a0 l1 x18_4 (Int.tmod (wrap64 (a4)) a0) true)) else (neonwrightlaw04_FlashNormal.j4 k4 a0 l1 x18_4 (Int.tmod (wrap64 (a4)) a0) true)) else (neonwrightlaw04_FlashNormal.j4 k4 a0 l1 x18_4 (Int.tmod (wrap64 (a4)) a0) true)) else (neonwrightlaw04_FlashNormal.j4 k4 a0 l1 x18_4 (Int.tmod (wrap64 (a4)) a0) true)) = some r := H
                            have A61 := Aside0.mk A610
                            clear A610
                            have HC62 := Aside0.mk H
                            clear H
                            obtain ⟨Ao63, co63, eo63⟩ := Kd.R_slice HO_18.out
                            subst eo63
                            go_upto_region 20 with (first | ((with_reducible refine gate_callee (f := 31) rfl ?_); refine goesL_ (some 149) rfl rfl Try.func31 (by kernel_rfl) rfl #[.int .i64 a0, .slice A1 l1.length c1, .slice Ao63 x18_4.length co63] rfl (by (try simp only [List.map_toArray, List.map_cons, List.map_nil]); first | done | rfl | (simp only [List.length_drop, List.length_take]; rfl)) ?_; (with_reducible refine (flash_Same.calls k4 a0 _ _ l1 _ _ x18_4 t519 t520 _ ?side1 ?side2 ?side3 ?side4 A60.out).mono ?_); (case side1 => repeat (first | exact (Kd.C_below HR1.out HB.out) | (with_reducible refine Kd.C_alloc ?_ _) | (with_reducible refine Kd.C_drewN ?_ _) | (with_reducible refine Kd.C_drew ?_))); (case side2 => exact HC1.out); (case side3 => repeat (first | exact (Kd.R_reads' HO_18.out).2.2 | (with_reducible refine Kd.C_alloc ?_ _) | (with_reducible refine Kd.C_drewN ?_ _) | (with_reducible refine Kd.C_drew ?_))); (case side4 => exact (Kd.R_reads' HO_18.out).2.1); rintro e w64 ⟨rfl, hb⟩; refine ⟨_, rfl, ?_⟩; have n0_ := Aside0.mk (Kd.R_below (by (with_reducible repeat (first | apply Kd.R_alloc | apply Kd.R_drewN | apply Kd.R_drew)); exact HO_11.out) hb); have n1_ := Aside0.mk (Kd.R_below (by (with_reducible repeat (first | apply Kd.R_alloc | apply Kd.R_drewN | apply Kd.R_drew)); exact HO_18.out) hb); have n2_ := Aside0.mk (below_step (by repeat (first | (with_reducible first | exact HB.out | apply below_alloc | apply pw_below_drewN | apply below_drew1) | exact HB.out)) hb); clear HO_11; clear HO_18; clear HB; have HO_11 := n0_; have HO_18 := n1_; have HB := n2_; clear n0_ n1_ n2_; (try clear hb); (try clear hb2); (try clear hk); (try clear hi)) | ((with_reducible refine gate_callee (f := 33) rfl ?_); refine goesL_ (some 155) rfl rfl Try.func33 (by kernel_rfl) rfl #[.int .i64 a0, .slice Ao63 x18_4.length co63] rfl (by (try simp only [List.map_toArray, List.map_cons, List.map_nil]); first | done | rfl | (simp only [List.length_drop, List.length_take]; rfl)) ?_; (with_reducible refine (flash_Normal.calls a0 _ _ x18_4 t521 t522 _ ?side1 ?side2 A61.out).mono ?_); (case side1 => repeat (first | exact (Kd.R_reads' HO_18.out).2.2 | (with_reducible refine Kd.C_alloc ?_ _) | (with_reducible refine Kd.C_drewN ?_ _) | (with_reducible refine Kd.C_drew ?_))); (case side2 => exact (Kd.R_reads' HO_18.out).2.1); rintro e w65 ⟨v523, rfl, ho0, hb⟩; refine ⟨_, rfl, ?_⟩; have n0_ := Aside0.mk (Kd.R_elder' (by (with_reducible repeat (first | apply Kd.R_alloc | apply Kd.R_drewN | apply Kd.R_drew)); exact HO_11.out) (Kd.R_base ho0) hb); have n1_ := Aside0.mk (Kd.R_elder' (by (with_reducible repeat (first | apply Kd.R_alloc | apply Kd.R_drewN | apply Kd.R_drew)); exact HO_18.out) (Kd.R_base ho0) hb); have n2_ := Aside0.mk (Kd.R_lower (Kd.R_new' (Kd.R_new' ho0 (Kd.R_lt (by (with_reducible repeat (first | apply Kd.R_alloc | apply Kd.R_drewN | apply Kd.R_drew)); exact HO_11.out))) (Kd.R_lt (by (with_reducible repeat (first | apply Kd.R_alloc | apply Kd.R_drewN | apply Kd.R_drew)); exact HO_18.out))) (below_size (by repeat (first | (with_reducible first | exact HB.out | apply below_alloc | apply pw_below_drewN | apply below_drew1) | exact HB.out)))); have n3_ := Aside0.mk (below_step (by repeat (first | (with_reducible first | exact HB.out | apply below_alloc | apply pw_below_drewN | apply below_drew1) | exact HB.out)) hb); clear HO_11; clear HO_18; clear HB; have HO_11 := n0_; have HO_18 := n1_; have HO524 := n2_; have HB := n3_; clear n0_ n1_ n2_ n3_; (try clear hb); (try clear hb2); (try clear hk); (try clear hi); (try clear ho0)))
                            (try simp only [Act.put, List.setIfInBounds_toArray, List.set_cons_zero, List.set_cons_succ])
                            go_cut [181] (fun v181 wc => ∃ (kq : Nat) (x181_61 : Bool), v181 = .bool x181_61 ∧ Aside0 (neonwrightlaw04_FlashNormal.j4 kq a0 l1 x18_4 (Int.tmod (wrap64 (a4)) a0) x181_61 = some r) ∧ Aside0 (kq ≤ k4) ∧ Aside0 (Kd.R (Kd.int .i64) 3 wc w.heap.size (fun _ => True) (.slice Ao63 x18_4.length co63) x18_4) ∧ Aside0 (Below w.heap.size w wc))
                            case first => as_aux_lemma =>
                              have H := HC62.out
                              clear HC62
                              by_cases c66 : t514 = 0
                              · rw [if_pos c66] at H
                                have c66b0 : (t514 == 0) = true := beq_iff_eq.mpr c66
                                have c66b1 : (t514 != 0) = false := bne_eq_false_iff_eq.mpr c66
                                clear c66
                                (first | rw [c66b0] | (simp only [i64_w, i32_w]; rw [c66b0]) | skip)
                                by_cases c67 : t520 = 0
                                · rw [if_pos c67] at H
                                  have c67b0 : (t520 == 0) = true := beq_iff_eq.mpr c67
                                  have c67b1 : (t520 != 0) = false := bne_eq_false_iff_eq.mpr c67
                                  clear c67
                                  by_cases c68 : t522 = 0
                                  · rw [if_pos c68] at H
                                    have c68b0 : (t522 == 0) = true := beq_iff_eq.mpr c68
                                    have c68b1 : (t522 != 0) = false := bne_eq_false_iff_eq.mpr c68
                                    clear c68
                                    by_cases c69 : t513 = true
                                    · subst c69
                                      have H1 : (if t519 = true then ((neonwrightlaw04_same.f k4 t500 t521).bind fun t525 => (neonwrightlaw04_FlashNormal.j4 k4 a0 l1 x18_4 (Int.tmod (wrap64 (a4)) a0) (!t525))) else (neonwrightlaw04_FlashNormal.j4 k4 a0 l1 x18_4 (Int.tmod (wrap64 (a4)) a0) true)) = some r := by rw [if_pos rfl] at H; exact H
                                      clear H
                                      have H := H1
                                      clear H1
                                      by_cases c70 : t519 = true
                                      · subst c70
                                        have H1 : ((neonwrightlaw04_same.f k4 t500 t521).bind fun t525 => (neonwrightlaw04_FlashNormal.j4 k4 a0 l1 x18_4 (Int.tmod (wrap64 (a4)) a0) (!t525))) = some r := by rw [if_pos rfl] at H; exact H
                                        clear H
                                        have H := H1
                                        clear H1
                                        replace H := Option.bind_eq_some_iff.mp H
                                        obtain ⟨t525, A710, H⟩ := H
                                        replace H : (neonwrightlaw04_FlashNormal.j4 k4 a0 l1 x18_4 (Int.tmod (wrap64 (a4)) a0) (!t525)) = some r := H
                                        have A71 := Aside0.mk A710
                                        clear A710
                                        have H' := Aside0.mk H
                                        clear H
                                        obtain ⟨Ao72, co72, eo72⟩ := Kd.R_slice HO524.out
                                        subst eo72
                                        go_wp2_with (first | (go_at_call 19; (with_reducible refine (neonwrightlaw04_same.calls k4 _ _ t500 _ _ t521 t525 _ ?side1 ?side2 ?side3 ?side4 A71.out).mono ?_); (case side1 => repeat (first | exact (Kd.R_reads' HO_11.out).2.2 | (with_reducible refine Kd.C_alloc ?_ _) | (with_reducible refine Kd.C_drewN ?_ _) | (with_reducible refine Kd.C_drew ?_))); (case side2 => exact (Kd.R_reads' HO_11.out).2.1); (case side3 => repeat (first | exact (Kd.R_reads' HO524.out).2.2 | (with_reducible refine Kd.C_alloc ?_ _) | (with_reducible refine Kd.C_drewN ?_ _) | (with_reducible refine Kd.C_drew ?_))); (case side4 => exact (Kd.R_reads' HO524.out).2.1); rintro e w' ⟨rfl, ⟨nd, rfl⟩⟩))
                                        first | go_meet | ((try simp only [← hji46]); (try simp only [← hji48]); (try simp only [← hji50]); (try simp only [← hji53]); (try simp only [← hji55]); go_meet)
                                        case rel => first | (exact ⟨_, (!t525), (by first | rfl | (simp; done) | (simp [*]; done)), H', ⟨by have := HJ5.out; have := HJ15.out; have := HJ25.out; have := HK4.out; first | omega | exact Nat.le_refl _⟩, ⟨by (with_reducible repeat (first | apply Kd.R_alloc | apply Kd.R_drewN | apply Kd.R_drew)); exact Kd.R_mono HO_18.out (fun _ hk => trivial)⟩, ⟨by repeat (first | (with_reducible first | exact HB.out | apply below_alloc | apply pw_below_drewN | apply below_drew1) | exact HB.out)⟩⟩) | ((try simp only [← hji46] at H'); (try simp only [← hji48] at H'); (try simp only [← hji50] at H'); (try simp only [← hji53] at H'); (try simp only [← hji55] at H'); (exact ⟨_, (!t525), (by first | rfl | (simp; done) | (simp [*]; done)), H', ⟨by have := HJ5.out; have := HJ15.out; have := HJ25.out; have := HK4.out; first | omega | exact Nat.le_refl _⟩, ⟨by (with_reducible repeat (first | apply Kd.R_alloc | apply Kd.R_drewN | apply Kd.R_drew)); exact Kd.R_mono HO_18.out (fun _ hk => trivial)⟩, ⟨by repeat (first | (with_reducible first | exact HB.out | apply below_alloc | apply pw_below_drewN | apply below_drew1) | exact HB.out)⟩⟩))
                                      · replace c70 := Bool.eq_false_iff.mpr c70
                                        subst c70
                                        have H1 : (neonwrightlaw04_FlashNormal.j4 k4 a0 l1 x18_4 (Int.tmod (wrap64 (a4)) a0) true) = some r := by rw [if_neg (show ¬ (false = true) by decide)] at H; exact H
                                        clear H
                                        have H := H1
                                        clear H1
                                        have H' := Aside0.mk H
                                        clear H
                                        go_wp2
                                        first | go_meet | ((try simp only [← hji46]); (try simp only [← hji48]); (try simp only [← hji50]); (try simp only [← hji53]); (try simp only [← hji55]); go_meet)
                                        case rel => first | (exact ⟨_, (true), (by first | rfl | (simp; done) | (simp [*]; done)), H', ⟨by have := HJ5.out; have := HJ15.out; have := HJ25.out; have := HK4.out; first | omega | exact Nat.le_refl _⟩, ⟨by (with_reducible repeat (first | apply Kd.R_alloc | apply Kd.R_drewN | apply Kd.R_drew)); exact Kd.R_mono HO_18.out (fun _ hk => trivial)⟩, ⟨by repeat (first | (with_reducible first | exact HB.out | apply below_alloc | apply pw_below_drewN | apply below_drew1) | exact HB.out)⟩⟩) | ((try simp only [← hji46] at H'); (try simp only [← hji48] at H'); (try simp only [← hji50] at H'); (try simp only [← hji53] at H'); (try simp only [← hji55] at H'); (exact ⟨_, (true), (by first | rfl | (simp; done) | (simp [*]; done)), H', ⟨by have := HJ5.out; have := HJ15.out; have := HJ25.out; have := HK4.out; first | omega | exact Nat.le_refl _⟩, ⟨by (with_reducible repeat (first | apply Kd.R_alloc | apply Kd.R_drewN | apply Kd.R_drew)); exact Kd.R_mono HO_18.out (fun _ hk => trivial)⟩, ⟨by repeat (first | (with_reducible first | exact HB.out | apply below_alloc | apply pw_below_drewN | apply below_drew1) | exact HB.out)⟩⟩))
                                    · replace c69 := Bool.eq_false_iff.mpr c69
                                      subst c69
                                      have H1 : (neonwrightlaw04_FlashNormal.j4 k4 a0 l1 x18_4 (Int.tmod (wrap64 (a4)) a0) true) = some r := by rw [if_neg (show ¬ (false = true) by decide)] at H; exact H
                                      clear H
                                      have H := H1
                                      clear H1
                                      have H' := Aside0.mk H
                                      clear H
                                      go_wp2
                                      first | go_meet | ((try simp only [← hji46]); (try simp only [← hji48]); (try simp only [← hji50]); (try simp only [← hji53]); (try simp only [← hji55]); go_meet)
                                      case rel => first | (exact ⟨_, (true), (by first | rfl | (simp; done) | (simp [*]; done)), H', ⟨by have := HJ5.out; have := HJ15.out; have := HJ25.out; have := HK4.out; first | omega | exact Nat.le_refl _⟩, ⟨by (with_reducible repeat (first | apply Kd.R_alloc | apply Kd.R_drewN | apply Kd.R_drew)); exact Kd.R_mono HO_18.out (fun _ hk => trivial)⟩, ⟨by repeat (first | (with_reducible first | exact HB.out | apply below_alloc | apply pw_below_drewN | apply below_drew1) | exact HB.out)⟩⟩) | ((try simp only [← hji46] at H'); (try simp only [← hji48] at H'); (try simp only [← hji50] at H'); (try simp only [← hji53] at H'); (try simp only [← hji55] at H'); (exact ⟨_, (true), (by first | rfl | (simp; done) | (simp [*]; done)), H', ⟨by have := HJ5.out; have := HJ15.out; have := HJ25.out; have := HK4.out; first | omega | exact Nat.le_refl _⟩, ⟨by (with_reducible repeat (first | apply Kd.R_alloc | apply Kd.R_drewN | apply Kd.R_drew)); exact Kd.R_mono HO_18.out (fun _ hk => trivial)⟩, ⟨by repeat (first | (with_reducible first | exact HB.out | apply below_alloc | apply pw_below_drewN | apply below_drew1) | exact HB.out)⟩⟩))
                                  · rw [if_neg c68] at H
                                    have c68b0 : (t522 == 0) = false := beq_eq_false_iff_ne.mpr c68
                                    have c68b1 : (t522 != 0) = true := bne_iff_ne.mpr c68
                                    have H' := Aside0.mk H
                                    clear H
                                    go_wp2
                                    first | go_meet | ((try simp only [← hji46]); (try simp only [← hji48]); (try simp only [← hji50]); (try simp only [← hji53]); (try simp only [← hji55]); go_meet)
                                    case rel => first | (exact ⟨_, (true), (by first | rfl | (simp; done) | (simp [*]; done)), H', ⟨by have := HJ5.out; have := HJ15.out; have := HJ25.out; have := HK4.out; first | omega | exact Nat.le_refl _⟩, ⟨by (with_reducible repeat (first | apply Kd.R_alloc | apply Kd.R_drewN | apply Kd.R_drew)); exact Kd.R_mono HO_18.out (fun _ hk => trivial)⟩, ⟨by repeat (first | (with_reducible first | exact HB.out | apply below_alloc | apply pw_below_drewN | apply below_drew1) | exact HB.out)⟩⟩) | ((try simp only [← hji46] at H'); (try simp only [← hji48] at H'); (try simp only [← hji50] at H'); (try simp only [← hji53] at H'); (try simp only [← hji55] at H'); (exact ⟨_, (true), (by first | rfl | (simp; done) | (simp [*]; done)), H', ⟨by have := HJ5.out; have := HJ15.out; have := HJ25.out; have := HK4.out; first | omega | exact Nat.le_refl _⟩, ⟨by (with_reducible repeat (first | apply Kd.R_alloc | apply Kd.R_drewN | apply Kd.R_drew)); exact Kd.R_mono HO_18.out (fun _ hk => trivial)⟩, ⟨by repeat (first | (with_reducible first | exact HB.out | apply below_alloc | apply pw_below_drewN | apply below_drew1) | exact HB.out)⟩⟩))
                                · rw [if_neg c67] at H
                                  have c67b0 : (t520 == 0) = false := beq_eq_false_iff_ne.mpr c67
                                  have c67b1 : (t520 != 0) = true := bne_iff_ne.mpr c67
                                  have H' := Aside0.mk H
                                  clear H
                                  go_wp2
                                  first | go_meet | ((try simp only [← hji46]); (try simp only [← hji48]); (try simp only [← hji50]); (try simp only [← hji53]); (try simp only [← hji55]); go_meet)
                                  case rel => first | (exact ⟨_, (true), (by first | rfl | (simp; done) | (simp [*]; done)), H', ⟨by have := HJ5.out; have := HJ15.out; have := HJ25.out; have := HK4.out; first | omega | exact Nat.le_refl _⟩, ⟨by (with_reducible repeat (first | apply Kd.R_alloc | apply Kd.R_drewN | apply Kd.R_drew)); exact Kd.R_mono HO_18.out (fun _ hk => trivial)⟩, ⟨by repeat (first | (with_reducible first | exact HB.out | apply below_alloc | apply pw_below_drewN | apply below_drew1) | exact HB.out)⟩⟩) | ((try simp only [← hji46] at H'); (try simp only [← hji48] at H'); (try simp only [← hji50] at H'); (try simp only [← hji53] at H'); (try simp only [← hji55] at H'); (exact ⟨_, (true), (by first | rfl | (simp; done) | (simp [*]; done)), H', ⟨by have := HJ5.out; have := HJ15.out; have := HJ25.out; have := HK4.out; first | omega | exact Nat.le_refl _⟩, ⟨by (with_reducible repeat (first | apply Kd.R_alloc | apply Kd.R_drewN | apply Kd.R_drew)); exact Kd.R_mono HO_18.out (fun _ hk => trivial)⟩, ⟨by repeat (first | (with_reducible first | exact HB.out | apply below_alloc | apply pw_below_drewN | apply below_drew1) | exact HB.out)⟩⟩))
                              · rw [if_neg c66] at H
                                have c66b0 : (t514 == 0) = false := beq_eq_false_iff_ne.mpr c66
                                have c66b1 : (t514 != 0) = true := bne_iff_ne.mpr c66
                                (first | rw [c66b0] | (simp only [i64_w, i32_w]; rw [c66b0]) | skip)
                                have H' := Aside0.mk H
                                clear H
                                go_wp2
                                first | go_meet | ((try simp only [← hji46]); (try simp only [← hji48]); (try simp only [← hji50]); (try simp only [← hji53]); (try simp only [← hji55]); go_meet)
                                case rel => first | (exact ⟨_, (true), (by first | rfl | (simp; done) | (simp [*]; done)), H', ⟨by have := HJ5.out; have := HJ15.out; have := HJ25.out; have := HK4.out; first | omega | exact Nat.le_refl _⟩, ⟨by (with_reducible repeat (first | apply Kd.R_alloc | apply Kd.R_drewN | apply Kd.R_drew)); exact Kd.R_mono HO_18.out (fun _ hk => trivial)⟩, ⟨by repeat (first | (with_reducible first | exact HB.out | apply below_alloc | apply pw_below_drewN | apply below_drew1) | exact HB.out)⟩⟩) | ((try simp only [← hji46] at H'); (try simp only [← hji48] at H'); (try simp only [← hji50] at H'); (try simp only [← hji53] at H'); (try simp only [← hji55] at H'); (exact ⟨_, (true), (by first | rfl | (simp; done) | (simp [*]; done)), H', ⟨by have := HJ5.out; have := HJ15.out; have := HJ25.out; have := HK4.out; first | omega | exact Nat.le_refl _⟩, ⟨by (with_reducible repeat (first | apply Kd.R_alloc | apply Kd.R_drewN | apply Kd.R_drew)); exact Kd.R_mono HO_18.out (fun _ hk => trivial)⟩, ⟨by repeat (first | (with_reducible first | exact HB.out | apply below_alloc | apply pw_below_drewN | apply below_drew1) | exact HB.out)⟩⟩))
                            case rest => as_aux_lemma =>
                              clear HC62
                              try clear c1
                              try clear c2
                              try clear p2
                              try clear c3
                              try clear c4
                              try clear c5
                              try clear p5
                              try clear q5
                              try clear hx5
                              try clear qi5
                              try clear c6
                              try clear p6
                              try clear c7
                              try clear c8
                              try clear c10
                              try clear c14
                              try clear c20
                              try clear c20b0
                              try clear c20b1
                              try clear c21
                              try clear c22
                              try clear c22b0
                              try clear c22b1
                              try clear c23
                              try clear c27
                              try clear c27b0
                              try clear c27b1
                              try clear c29
                              try clear c29b0
                              try clear c29b1
                              try clear c29b2
                              try clear c31
                              try clear c32
                              try clear c32b0
                              try clear c32b1
                              try clear c32b2
                              try clear c33
                              try clear c33b0
                              try clear c33b1
                              try clear c38
                              try clear c40
                              try clear c40b0
                              try clear c40b1
                              try clear c43
                              try clear c43b0
                              try clear c44
                              try clear c44b0
                              try clear c45
                              try clear c45b0
                              try clear c45b1
                              try clear c47
                              try clear c47b0
                              try clear c47b1
                              try clear c49
                              try clear c49b0
                              try clear c49b1
                              try clear c51
                              try clear c51b0
                              try clear p51
                              try clear q51
                              try clear hx51
                              try clear c52
                              try clear c52b0
                              try clear c54
                              try clear c54b0
                              try clear c54b1
                              try clear c56
                              try clear p64
                              try clear c66
                              try clear c66b0
                              try clear c66b1
                              try clear c67
                              try clear c67b0
                              try clear c67b1
                              try clear c68
                              try clear c68b0
                              try clear c68b1
                              try clear c69
                              try clear c70
                              try clear hx512_0
                              try clear hx515_0
                              try clear p2
                              try clear p5
                              try clear p512
                              try clear p515
                              try clear p6
                              try clear q5
                              try clear q512
                              try clear q515
                              obtain ⟨kq, x181_61, rfl, HA, HJ61, HO_18, HB⟩ := hcut
                              cases kq with
                              | zero => exact absurd HA.out (by simp [neonwrightlaw04_FlashNormal.j4])
                              | succ kj61 =>
                                have H := HA.out
                                clear HA
                                simp only [neonwrightlaw04_FlashNormal.j4] at H
                                by_cases c73 : x181_61 = true
                                · subst c73
                                  have H1 : (some false) = some r := by rw [if_pos rfl] at H; exact H
                                  clear H
                                  have H := H1
                                  clear H1
                                  obtain rfl := Option.some.inj H
                                  go_wp2
                                  go_ret
                                  exact ⟨by first | rfl | (simp [errW_none, errW_some] <;> rfl) | (simp [*, errW_none, errW_some] <;> rfl), by repeat (first | (with_reducible first | exact HB.out | apply below_alloc | apply pw_below_drewN | apply below_drew1) | exact HB.out)⟩
                                · replace c73 := Bool.eq_false_iff.mpr c73
                                  subst c73
                                  have H1 : ((flash_Path.f a0 l1).bind fun bt526 => ((flash_Path.f a0 x18_4).bind fun bt529 => ((flash_Snake.f kj61 a0 l1).bind fun bt532 => ((flash_Snake.f kj61 a0 x18_4).bind fun bt535 => (if bt526.2.2 = 0 then (if bt529.2.2 = 0 then (if bt532.2.2 = 0 then (if bt535.2.2 = 0 then (if (bt526.1 != bt529.1) = true then (neonwrightlaw04_FlashNormal.j5 kj61 a0 l1 x18_4 (Int.tmod (wrap64 (a4)) a0) bt526.1 true) else (if (bt526.2.1 != bt529.2.1) = true then (neonwrightlaw04_FlashNormal.j5 kj61 a0 l1 x18_4 (Int.tmod (wrap64 (a4)) a0) bt526.1 true) else (if (bt532.1 != bt535.1) = true then (neonwrightlaw04_FlashNormal.j5 kj61 a0 l1 x18_4 (Int.tmod (wrap64 (a4)) a0) bt526.1 true) else (neonwrightlaw04_FlashNormal.j5 kj61 a0 l1 x18_4 (Int.tmod (wrap64 (a4)) a0) bt526.1 (bt532.2.1 != bt535.2.1))))) else (neonwrightlaw04_FlashNormal.j5 kj61 a0 l1 x18_4 (Int.tmod (wrap64 (a4)) a0) bt526.1 true)) else (neonwrightlaw04_FlashNormal.j5 kj61 a0 l1 x18_4 (Int.tmod (wrap64 (a4)) a0) bt526.1 true)) else (neonwrightlaw04_FlashNormal.j5 kj61 a0 l1 x18_4 (Int.tmod (wrap64 (a4)) a0) bt526.1 true)) else (neonwrightlaw04_FlashNormal.j5 kj61 a0 l1 x18_4 (Int.tmod (wrap64 (a4)) a0) bt526.1 true)))))) = some r := by rw [if_neg (show ¬ (false = true) by decide)] at H; exact H
                                  clear H
                                  have H := H1
                                  clear H1
                                  replace H := Option.bind_eq_some_iff.mp H
                                  obtain ⟨⟨t526, t527, t528⟩, A740, H⟩ := H
                                  replace H : ((flash_Path.f a0 x18_4).bind fun bt529 => ((flash_Snake.f kj61 a0 l1).bind fun bt532 => ((flash_Snake.f kj61 a0 x18_4).bind fun bt535 => (if t528 = 0 then (if bt529.2.2 = 0 then (if bt532.2.2 = 0 then (if bt535.2.2 = 0 then (if (t526 != bt529.1) = true then (neonwrightlaw04_FlashNormal.j5 kj61 a0 l1 x18_4 (Int.tmod (wrap64 (a4)) a0) t526 true) else (if (t527 != bt529.2.1) = true then (neonwrightlaw04_FlashNormal.j5 kj61 a0 l1 x18_4 (Int.tmod (wrap64 (a4)) a0) t526 true) else (if (bt532.1 != bt535.1) = true then (neonwrightlaw04_FlashNormal.j5 kj61 a0 l1 x18_4 (Int.tmod (wrap64 (a4)) a0) t526 true) else (neonwrightlaw04_FlashNormal.j5 kj61 a0 l1 x18_4 (Int.tmod (wrap64 (a4)) a0) t526 (bt532.2.1 != bt535.2.1))))) else (neonwrightlaw04_FlashNormal.j5 kj61 a0 l1 x18_4 (Int.tmod (wrap64 (a4)) a0) t526 true)) else (neonwrightlaw04_FlashNormal.j5 kj61 a0 l1 x18_4 (Int.tmod (wrap64 (a4)) a0) t526 true)) else (neonwrightlaw04_FlashNormal.j5 kj61 a0 l1 x18_4 (Int.tmod (wrap64 (a4)) a0) t526 true)) else (neonwrightlaw04_FlashNormal.j5 kj61 a0 l1 x18_4 (Int.tmod (wrap64 (a4)) a0) t526 true))))) = some r := H
                                  have A74 := Aside0.mk A740
                                  clear A740
                                  replace H := Option.bind_eq_some_iff.mp H
                                  obtain ⟨⟨t529, t530, t531⟩, A750, H⟩ := H
                                  replace H : ((flash_Snake.f kj61 a0 l1).bind fun bt532 => ((flash_Snake.f kj61 a0 x18_4).bind fun bt535 => (if t528 = 0 then (if t531 = 0 then (if bt532.2.2 = 0 then (if bt535.2.2 = 0 then (if (t526 != t529) = true then (neonwrightlaw04_FlashNormal.j5 kj61 a0 l1 x18_4 (Int.tmod (wrap64 (a4)) a0) t526 true) else (if (t527 != t530) = true then (neonwrightlaw04_FlashNormal.j5 kj61 a0 l1 x18_4 (Int.tmod (wrap64 (a4)) a0) t526 true) else (if (bt532.1 != bt535.1) = true then (neonwrightlaw04_FlashNormal.j5 kj61 a0 l1 x18_4 (Int.tmod (wrap64 (a4)) a0) t526 true) else (neonwrightlaw04_FlashNormal.j5 kj61 a0 l1 x18_4 (Int.tmod (wrap64 (a4)) a0) t526 (bt532.2.1 != bt535.2.1))))) else (neonwrightlaw04_FlashNormal.j5 kj61 a0 l1 x18_4 (Int.tmod (wrap64 (a4)) a0) t526 true)) else (neonwrightlaw04_FlashNormal.j5 kj61 a0 l1 x18_4 (Int.tmod (wrap64 (a4)) a0) t526 true)) else (neonwrightlaw04_FlashNormal.j5 kj61 a0 l1 x18_4 (Int.tmod (wrap64 (a4)) a0) t526 true)) else (neonwrightlaw04_FlashNormal.j5 kj61 a0 l1 x18_4 (Int.tmod (wrap64 (a4)) a0) t526 true)))) = some r := H
                                  have A75 := Aside0.mk A750
                                  clear A750
                                  replace H := Option.bind_eq_some_iff.mp H
                                  obtain ⟨⟨t532, t533, t534⟩, A760, H⟩ := H
                                  replace H : ((flash_Snake.f kj61 a0 x18_4).bind fun bt535 => (if t528 = 0 then (if t531 = 0 then (if t534 = 0 then (if bt535.2.2 = 0 then (if (t526 != t529) = true then (neonwrightlaw04_FlashNormal.j5 kj61 a0 l1 x18_4 (Int.tmod (wrap64 (a4)) a0) t526 true) else (if (t527 != t530) = true then (neonwrightlaw04_FlashNormal.j5 kj61 a0 l1 x18_4 (Int.tmod (wrap64 (a4)) a0) t526 true) else (if (t532 != bt535.1) = true then (neonwrightlaw04_FlashNormal.j5 kj61 a0 l1 x18_4 (Int.tmod (wrap64 (a4)) a0) t526 true) else (neonwrightlaw04_FlashNormal.j5 kj61 a0 l1 x18_4 (Int.tmod (wrap64 (a4)) a0) t526 (t533 != bt535.2.1))))) else (neonwrightlaw04_FlashNormal.j5 kj61 a0 l1 x18_4 (Int.tmod (wrap64 (a4)) a0) t526 true)) else (neonwrightlaw04_FlashNormal.j5 kj61 a0 l1 x18_4 (Int.tmod (wrap64 (a4)) a0) t526 true)) else (neonwrightlaw04_FlashNormal.j5 kj61 a0 l1 x18_4 (Int.tmod (wrap64 (a4)) a0) t526 true)) else (neonwrightlaw04_FlashNormal.j5 kj61 a0 l1 x18_4 (Int.tmod (wrap64 (a4)) a0) t526 true))) = some r := H
                                  have A76 := Aside0.mk A760
                                  clear A760
                                  replace H := Option.bind_eq_some_iff.mp H
                                  obtain ⟨⟨t535, t536, t537⟩, A770, H⟩ := H
                                  replace H : (if t528 = 0 then (if t531 = 0 then (if t534 = 0 then (if t537 = 0 then (if (t526 != t529) = true then (neonwrightlaw04_FlashNormal.j5 kj61 a0 l1 x18_4 (Int.tmod (wrap64 (a4)) a0) t526 true) else (if (t527 != t530) = true then (neonwrightlaw04_FlashNormal.j5 kj61 a0 l1 x18_4 (Int.tmod (wrap64 (a4)) a0) t526 true) else (if (t532 != t535) = true then (neonwrightlaw04_FlashNormal.j5 kj61 a0 l1 x18_4 (Int.tmod (wrap64 (a4)) a0) t526 true) else (neonwrightlaw04_FlashNormal.j5 kj61 a0 l1 x18_4 (Int.tmod (wrap64 (a4)) a0) t526 (t533 != t536))))) else (neonwrightlaw04_FlashNormal.j5 kj61 a0 l1 x18_4 (Int.tmod (wrap64 (a4)) a0) t526 true)) else (neonwrightlaw04_FlashNormal.j5 kj61 a0 l1 x18_4 (Int.tmod (wrap64 (a4)) a0) t526 true)) else (neonwrightlaw04_FlashNormal.j5 kj61 a0 l1 x18_4 (Int.tmod (wrap64 (a4)) a0) t526 true)) else (neonwrightlaw04_FlashNormal.j5 kj61 a0 l1 x18_4 (Int.tmod (wrap64 (a4)) a0) t526 true)) = some r := H
                                  have A77 := Aside0.mk A770
                                  clear A770
                                  have HC78 := Aside0.mk H
                                  clear H
                                  go_upto_region 26 with (first | ((with_reducible refine gate_callee (f := 35) rfl ?_); refine goesL_ (some 185) rfl rfl Try.func35 (by kernel_rfl) rfl #[.int .i64 a0, .slice A1 l1.length c1] rfl (by (try simp only [List.map_toArray, List.map_cons, List.map_nil]); first | done | rfl | (simp only [List.length_drop, List.length_take]; rfl)) ?_; (with_reducible refine (flash_Path.calls a0 _ _ l1 t526 t527 t528 _ ?side1 ?side2 A74.out).mono ?_); (case side1 => repeat (first | exact (Kd.C_below HR1.out HB.out) | (with_reducible refine Kd.C_alloc ?_ _) | (with_reducible refine Kd.C_drewN ?_ _) | (with_reducible refine Kd.C_drew ?_))); (case side2 => exact HC1.out); rintro e w79 ⟨rfl, hb⟩; refine ⟨_, rfl, ?_⟩; have n0_ := Aside0.mk (Kd.R_below (by (with_reducible repeat (first | apply Kd.R_alloc | apply Kd.R_drewN | apply Kd.R_drew)); exact HO_18.out) hb); have n1_ := Aside0.mk (below_step (by repeat (first | (with_reducible first | exact HB.out | apply below_alloc | apply pw_below_drewN | apply below_drew1) | exact HB.out)) hb); clear HO_18; clear HB; have HO_18 := n0_; have HB := n1_; clear n0_ n1_; (try clear hb); (try clear hb2); (try clear hk); (try clear hi)) | ((with_reducible refine gate_callee (f := 35) rfl ?_); refine goesL_ (some 192) rfl rfl Try.func35 (by kernel_rfl) rfl #[.int .i64 a0, .slice Ao63 x18_4.length co63] rfl (by (try simp only [List.map_toArray, List.map_cons, List.map_nil]); first | done | rfl | (simp only [List.length_drop, List.length_take]; rfl)) ?_; (with_reducible refine (flash_Path.calls a0 _ _ x18_4 t529 t530 t531 _ ?side1 ?side2 A75.out).mono ?_); (case side1 => repeat (first | exact (Kd.R_reads' HO_18.out).2.2 | (with_reducible refine Kd.C_alloc ?_ _) | (with_reducible refine Kd.C_drewN ?_ _) | (with_reducible refine Kd.C_drew ?_))); (case side2 => exact (Kd.R_reads' HO_18.out).2.1); rintro e w80 ⟨rfl, hb⟩; refine ⟨_, rfl, ?_⟩; have n0_ := Aside0.mk (Kd.R_below (by (with_reducible repeat (first | apply Kd.R_alloc | apply Kd.R_drewN | apply Kd.R_drew)); exact HO_18.out) hb); have n1_ := Aside0.mk (below_step (by repeat (first | (with_reducible first | exact HB.out | apply below_alloc | apply pw_below_drewN | apply below_drew1) | exact HB.out)) hb); clear HO_18; clear HB; have HO_18 := n0_; have HB := n1_; clear n0_ n1_; (try clear hb); (try clear hb2); (try clear hk); (try clear hi)) | ((with_reducible refine gate_callee (f := 22) rfl ?_); refine goesL_ (some 199) rfl rfl Try.func22 (by kernel_rfl) rfl #[.int .i64 a0, .slice A1 l1.length c1] rfl (by (try simp only [List.map_toArray, List.map_cons, List.map_nil]); first | done | rfl | (simp only [List.length_drop, List.length_take]; rfl)) ?_; (with_reducible refine (flash_Snake.calls kj61 a0 _ _ l1 t532 t533 t534 _ ?side1 ?side2 A76.out).mono ?_); (case side1 => repeat (first | exact (Kd.C_below HR1.out HB.out) | (with_reducible refine Kd.C_alloc ?_ _) | (with_reducible refine Kd.C_drewN ?_ _) | (with_reducible refine Kd.C_drew ?_))); (case side2 => exact HC1.out); rintro e w81 ⟨rfl, hb⟩; refine ⟨_, rfl, ?_⟩; have n0_ := Aside0.mk (Kd.R_below (by (with_reducible repeat (first | apply Kd.R_alloc | apply Kd.R_drewN | apply Kd.R_drew)); exact HO_18.out) hb); have n1_ := Aside0.mk (below_step (by repeat (first | (with_reducible first | exact HB.out | apply below_alloc | apply pw_below_drewN | apply below_drew1) | exact HB.out)) hb); clear HO_18; clear HB; have HO_18 := n0_; have HB := n1_; clear n0_ n1_; (try clear hb); (try clear hb2); (try clear hk); (try clear hi)) | ((with_reducible refine gate_callee (f := 22) rfl ?_); refine goesL_ (some 206) rfl rfl Try.func22 (by kernel_rfl) rfl #[.int .i64 a0, .slice Ao63 x18_4.length co63] rfl (by (try simp only [List.map_toArray, List.map_cons, List.map_nil]); first | done | rfl | (simp only [List.length_drop, List.length_take]; rfl)) ?_; (with_reducible refine (flash_Snake.calls kj61 a0 _ _ x18_4 t535 t536 t537 _ ?side1 ?side2 A77.out).mono ?_); (case side1 => repeat (first | exact (Kd.R_reads' HO_18.out).2.2 | (with_reducible refine Kd.C_alloc ?_ _) | (with_reducible refine Kd.C_drewN ?_ _) | (with_reducible refine Kd.C_drew ?_))); (case side2 => exact (Kd.R_reads' HO_18.out).2.1); rintro e w82 ⟨rfl, hb⟩; refine ⟨_, rfl, ?_⟩; have n0_ := Aside0.mk (Kd.R_below (by (with_reducible repeat (first | apply Kd.R_alloc | apply Kd.R_drewN | apply Kd.R_drew)); exact HO_18.out) hb); have n1_ := Aside0.mk (below_step (by repeat (first | (with_reducible first | exact HB.out | apply below_alloc | apply pw_below_drewN | apply below_drew1) | exact HB.out)) hb); clear HO_18; clear HB; have HO_18 := n0_; have HB := n1_; clear n0_ n1_; (try clear hb); (try clear hb2); (try clear hk); (try clear hi)))
                                  (try simp only [Act.put, List.setIfInBounds_toArray, List.set_cons_zero, List.set_cons_succ])
                                  go_cut [243] (fun v243 wc => ∃ (kq : Nat) (x243_77 : Bool), v243 = .bool x243_77 ∧ Aside0 (neonwrightlaw04_FlashNormal.j5 kq a0 l1 x18_4 (Int.tmod (wrap64 (a4)) a0) t526 x243_77 = some r) ∧ Aside0 (kq ≤ kj61) ∧ Aside0 (Kd.R (Kd.int .i64) 3 wc w.heap.size (fun _ => True) (.slice Ao63 x18_4.length co63) x18_4) ∧ Aside0 (Below w.heap.size w wc))
                                  case first => as_aux_lemma =>
                                    have H := HC78.out
                                    clear HC78
                                    by_cases c83 : t528 = 0
                                    · rw [if_pos c83] at H
                                      have c83b0 : (t528 == 0) = true := beq_iff_eq.mpr c83
                                      have c83b1 : (t528 != 0) = false := bne_eq_false_iff_eq.mpr c83
                                      clear c83
                                      (first | rw [c83b0] | (simp only [i64_w, i32_w]; rw [c83b0]) | skip)
                                      by_cases c84 : t531 = 0
                                      · rw [if_pos c84] at H
                                        have c84b0 : (t531 == 0) = true := beq_iff_eq.mpr c84
                                        have c84b1 : (t531 != 0) = false := bne_eq_false_iff_eq.mpr c84
                                        clear c84
                                        by_cases c85 : t534 = 0
                                        · rw [if_pos c85] at H
                                          have c85b0 : (t534 == 0) = true := beq_iff_eq.mpr c85
                                          have c85b1 : (t534 != 0) = false := bne_eq_false_iff_eq.mpr c85
                                          clear c85
                                          by_cases c86 : t537 = 0
                                          · rw [if_pos c86] at H
                                            have c86b0 : (t537 == 0) = true := beq_iff_eq.mpr c86
                                            have c86b1 : (t537 != 0) = false := bne_eq_false_iff_eq.mpr c86
                                            clear c86
                                            by_cases c87 : (t526 != t529) = true
                                            · rw [if_pos c87] at H
                                              have c87b0 : (t526 != t529) = true := c87
                                              (try (have c87b1 : decide (t526 = t529) = false := by simpa using c87))
                                              (try (have c87b2 : (t526 == t529) = false := by simpa using c87))
                                              (try (have c87b3 : ¬ (t526 = t529) := by simpa using c87))
                                              clear c87
                                              have H' := Aside0.mk H
                                              clear H
                                              go_wp2
                                              first | go_meet | ((try simp only [← hji46]); (try simp only [← hji48]); (try simp only [← hji50]); (try simp only [← hji53]); (try simp only [← hji55]); go_meet)
                                              case rel => first | (exact ⟨_, (true), (by first | rfl | (simp; done) | (simp [*]; done)), H', ⟨by have := HJ5.out; have := HJ15.out; have := HJ25.out; have := HK4.out; have := HJ61.out; first | omega | exact Nat.le_refl _⟩, ⟨by (with_reducible repeat (first | apply Kd.R_alloc | apply Kd.R_drewN | apply Kd.R_drew)); first | exact HO_18.out | exact Kd.R_mono HO_18.out (fun k_ h_ => ne_own_len h_)⟩, ⟨by repeat (first | (with_reducible first | exact HB.out | apply below_alloc | apply pw_below_drewN | apply below_drew1) | exact HB.out)⟩⟩) | ((try simp only [← hji46] at H'); (try simp only [← hji48] at H'); (try simp only [← hji50] at H'); (try simp only [← hji53] at H'); (try simp only [← hji55] at H'); (exact ⟨_, (true), (by first | rfl | (simp; done) | (simp [*]; done)), H', ⟨by have := HJ5.out; have := HJ15.out; have := HJ25.out; have := HK4.out; have := HJ61.out; first | omega | exact Nat.le_refl _⟩, ⟨by (with_reducible repeat (first | apply Kd.R_alloc | apply Kd.R_drewN | apply Kd.R_drew)); first | exact HO_18.out | exact Kd.R_mono HO_18.out (fun k_ h_ => ne_own_len h_)⟩, ⟨by repeat (first | (with_reducible first | exact HB.out | apply below_alloc | apply pw_below_drewN | apply below_drew1) | exact HB.out)⟩⟩))
                                            · rw [if_neg c87] at H
                                              have c87b0 : (t526 != t529) = false := by simpa using c87
                                              (try (have c87b1 : decide (t526 = t529) = true := by simpa using c87))
                                              (try (have c87b2 : (t526 == t529) = true := by simpa using c87))
                                              clear c87
                                              by_cases c88 : (t527 != t530) = true
                                              · rw [if_pos c88] at H
                                                have c88b0 : (t527 != t530) = true := c88
                                                (try (have c88b1 : decide (t527 = t530) = false := by simpa using c88))
                                                (try (have c88b2 : (t527 == t530) = false := by simpa using c88))
                                                (try (have c88b3 : ¬ (t527 = t530) := by simpa using c88))
                                                clear c88
                                                have H' := Aside0.mk H
                                                clear H
                                                go_wp2
                                                first | go_meet | ((try simp only [← hji46]); (try simp only [← hji48]); (try simp only [← hji50]); (try simp only [← hji53]); (try simp only [← hji55]); go_meet)
                                                case rel => first | (exact ⟨_, (true), (by first | rfl | (simp; done) | (simp [*]; done)), H', ⟨by have := HJ5.out; have := HJ15.out; have := HJ25.out; have := HK4.out; have := HJ61.out; first | omega | exact Nat.le_refl _⟩, ⟨by (with_reducible repeat (first | apply Kd.R_alloc | apply Kd.R_drewN | apply Kd.R_drew)); first | exact HO_18.out | exact Kd.R_mono HO_18.out (fun k_ h_ => ne_own_len h_)⟩, ⟨by repeat (first | (with_reducible first | exact HB.out | apply below_alloc | apply pw_below_drewN | apply below_drew1) | exact HB.out)⟩⟩) | ((try simp only [← hji46] at H'); (try simp only [← hji48] at H'); (try simp only [← hji50] at H'); (try simp only [← hji53] at H'); (try simp only [← hji55] at H'); (exact ⟨_, (true), (by first | rfl | (simp; done) | (simp [*]; done)), H', ⟨by have := HJ5.out; have := HJ15.out; have := HJ25.out; have := HK4.out; have := HJ61.out; first | omega | exact Nat.le_refl _⟩, ⟨by (with_reducible repeat (first | apply Kd.R_alloc | apply Kd.R_drewN | apply Kd.R_drew)); first | exact HO_18.out | exact Kd.R_mono HO_18.out (fun k_ h_ => ne_own_len h_)⟩, ⟨by repeat (first | (with_reducible first | exact HB.out | apply below_alloc | apply pw_below_drewN | apply below_drew1) | exact HB.out)⟩⟩))
                                              · rw [if_neg c88] at H
                                                have c88b0 : (t527 != t530) = false := by simpa using c88
                                                (try (have c88b1 : decide (t527 = t530) = true := by simpa using c88))
                                                (try (have c88b2 : (t527 == t530) = true := by simpa using c88))
                                                clear c88
                                                by_cases c89 : (t532 != t535) = true
                                                · rw [if_pos c89] at H
                                                  have c89b0 : (t532 != t535) = true := c89
                                                  (try (have c89b1 : decide (t532 = t535) = false := by simpa using c89))
                                                  (try (have c89b2 : (t532 == t535) = false := by simpa using c89))
                                                  (try (have c89b3 : ¬ (t532 = t535) := by simpa using c89))
                                                  clear c89
                                                  have H' := Aside0.mk H
                                                  clear H
                                                  go_wp2
                                                  first | go_meet | ((try simp only [← hji46]); (try simp only [← hji48]); (try simp only [← hji50]); (try simp only [← hji53]); (try simp only [← hji55]); go_meet)
                                                  case rel => first | (exact ⟨_, (true), (by first | rfl | (simp; done) | (simp [*]; done)), H', ⟨by have := HJ5.out; have := HJ15.out; have := HJ25.out; have := HK4.out; have := HJ61.out; first | omega | exact Nat.le_refl _⟩, ⟨by (with_reducible repeat (first | apply Kd.R_alloc | apply Kd.R_drewN | apply Kd.R_drew)); first | exact HO_18.out | exact Kd.R_mono HO_18.out (fun k_ h_ => ne_own_len h_)⟩, ⟨by repeat (first | (with_reducible first | exact HB.out | apply below_alloc | apply pw_below_drewN | apply below_drew1) | exact HB.out)⟩⟩) | ((try simp only [← hji46] at H'); (try simp only [← hji48] at H'); (try simp only [← hji50] at H'); (try simp only [← hji53] at H'); (try simp only [← hji55] at H'); (exact ⟨_, (true), (by first | rfl | (simp; done) | (simp [*]; done)), H', ⟨by have := HJ5.out; have := HJ15.out; have := HJ25.out; have := HK4.out; have := HJ61.out; first | omega | exact Nat.le_refl _⟩, ⟨by (with_reducible repeat (first | apply Kd.R_alloc | apply Kd.R_drewN | apply Kd.R_drew)); first | exact HO_18.out | exact Kd.R_mono HO_18.out (fun k_ h_ => ne_own_len h_)⟩, ⟨by repeat (first | (with_reducible first | exact HB.out | apply below_alloc | apply pw_below_drewN | apply below_drew1) | exact HB.out)⟩⟩))
                                                · rw [if_neg c89] at H
                                                  have c89b0 : (t532 != t535) = false := by simpa using c89
                                                  (try (have c89b1 : decide (t532 = t535) = true := by simpa using c89))
                                                  (try (have c89b2 : (t532 == t535) = true := by simpa using c89))
                                                  clear c89
                                                  have H' := Aside0.mk H
                                                  clear H
                                                  go_wp2
                                                  first | go_meet | ((try simp only [← hji46]); (try simp only [← hji48]); (try simp only [← hji50]); (try simp only [← hji53]); (try simp only [← hji55]); go_meet)
                                                  case rel => first | (exact ⟨_, ((t533 != t536)), (by first | rfl | (simp; done) | (simp [*]; done)), H', ⟨by have := HJ5.out; have := HJ15.out; have := HJ25.out; have := HK4.out; have := HJ61.out; first | omega | exact Nat.le_refl _⟩, ⟨by (with_reducible repeat (first | apply Kd.R_alloc | apply Kd.R_drewN | apply Kd.R_drew)); first | exact HO_18.out | exact Kd.R_mono HO_18.out (fun k_ h_ => ne_own_len h_)⟩, ⟨by repeat (first | (with_reducible first | exact HB.out | apply below_alloc | apply pw_below_drewN | apply below_drew1) | exact HB.out)⟩⟩) | ((try simp only [← hji46] at H'); (try simp only [← hji48] at H'); (try simp only [← hji50] at H'); (try simp only [← hji53] at H'); (try simp only [← hji55] at H'); (exact ⟨_, ((t533 != t536)), (by first | rfl | (simp; done) | (simp [*]; done)), H', ⟨by have := HJ5.out; have := HJ15.out; have := HJ25.out; have := HK4.out; have := HJ61.out; first | omega | exact Nat.le_refl _⟩, ⟨by (with_reducible repeat (first | apply Kd.R_alloc | apply Kd.R_drewN | apply Kd.R_drew)); first | exact HO_18.out | exact Kd.R_mono HO_18.out (fun k_ h_ => ne_own_len h_)⟩, ⟨by repeat (first | (with_reducible first | exact HB.out | apply below_alloc | apply pw_below_drewN | apply below_drew1) | exact HB.out)⟩⟩))
                                          · rw [if_neg c86] at H
                                            have c86b0 : (t537 == 0) = false := beq_eq_false_iff_ne.mpr c86
                                            have c86b1 : (t537 != 0) = true := bne_iff_ne.mpr c86
                                            have H' := Aside0.mk H
                                            clear H
                                            go_wp2
                                            first | go_meet | ((try simp only [← hji46]); (try simp only [← hji48]); (try simp only [← hji50]); (try simp only [← hji53]); (try simp only [← hji55]); go_meet)
                                            case rel => first | (exact ⟨_, (true), (by first | rfl | (simp; done) | (simp [*]; done)), H', ⟨by have := HJ5.out; have := HJ15.out; have := HJ25.out; have := HK4.out; have := HJ61.out; first | omega | exact Nat.le_refl _⟩, ⟨by (with_reducible repeat (first | apply Kd.R_alloc | apply Kd.R_drewN | apply Kd.R_drew)); first | exact HO_18.out | exact Kd.R_mono HO_18.out (fun k_ h_ => ne_own_len h_)⟩, ⟨by repeat (first | (with_reducible first | exact HB.out | apply below_alloc | apply pw_below_drewN | apply below_drew1) | exact HB.out)⟩⟩) | ((try simp only [← hji46] at H'); (try simp only [← hji48] at H'); (try simp only [← hji50] at H'); (try simp only [← hji53] at H'); (try simp only [← hji55] at H'); (exact ⟨_, (true), (by first | rfl | (simp; done) | (simp [*]; done)), H', ⟨by have := HJ5.out; have := HJ15.out; have := HJ25.out; have := HK4.out; have := HJ61.out; first | omega | exact Nat.le_refl _⟩, ⟨by (with_reducible repeat (first | apply Kd.R_alloc | apply Kd.R_drewN | apply Kd.R_drew)); first | exact HO_18.out | exact Kd.R_mono HO_18.out (fun k_ h_ => ne_own_len h_)⟩, ⟨by repeat (first | (with_reducible first | exact HB.out | apply below_alloc | apply pw_below_drewN | apply below_drew1) | exact HB.out)⟩⟩))
                                        · rw [if_neg c85] at H
                                          have c85b0 : (t534 == 0) = false := beq_eq_false_iff_ne.mpr c85
                                          have c85b1 : (t534 != 0) = true := bne_iff_ne.mpr c85
                                          have H' := Aside0.mk H
                                          clear H
                                          go_wp2
                                          first | go_meet | ((try simp only [← hji46]); (try simp only [← hji48]); (try simp only [← hji50]); (try simp only [← hji53]); (try simp only [← hji55]); go_meet)
                                          case rel => first | (exact ⟨_, (true), (by first | rfl | (simp; done) | (simp [*]; done)), H', ⟨by have := HJ5.out; have := HJ15.out; have := HJ25.out; have := HK4.out; have := HJ61.out; first | omega | exact Nat.le_refl _⟩, ⟨by (with_reducible repeat (first | apply Kd.R_alloc | apply Kd.R_drewN | apply Kd.R_drew)); first | exact HO_18.out | exact Kd.R_mono HO_18.out (fun k_ h_ => ne_own_len h_)⟩, ⟨by repeat (first | (with_reducible first | exact HB.out | apply below_alloc | apply pw_below_drewN | apply below_drew1) | exact HB.out)⟩⟩) | ((try simp only [← hji46] at H'); (try simp only [← hji48] at H'); (try simp only [← hji50] at H'); (try simp only [← hji53] at H'); (try simp only [← hji55] at H'); (exact ⟨_, (true), (by first | rfl | (simp; done) | (simp [*]; done)), H', ⟨by have := HJ5.out; have := HJ15.out; have := HJ25.out; have := HK4.out; have := HJ61.out; first | omega | exact Nat.le_refl _⟩, ⟨by (with_reducible repeat (first | apply Kd.R_alloc | apply Kd.R_drewN | apply Kd.R_drew)); first | exact HO_18.out | exact Kd.R_mono HO_18.out (fun k_ h_ => ne_own_len h_)⟩, ⟨by repeat (first | (with_reducible first | exact HB.out | apply below_alloc | apply pw_below_drewN | apply below_drew1) | exact HB.out)⟩⟩))
                                      · rw [if_neg c84] at H
                                        have c84b0 : (t531 == 0) = false := beq_eq_false_iff_ne.mpr c84
                                        have c84b1 : (t531 != 0) = true := bne_iff_ne.mpr c84
                                        have H' := Aside0.mk H
                                        clear H
                                        go_wp2
                                        first | go_meet | ((try simp only [← hji46]); (try simp only [← hji48]); (try simp only [← hji50]); (try simp only [← hji53]); (try simp only [← hji55]); go_meet)
                                        case rel => first | (exact ⟨_, (true), (by first | rfl | (simp; done) | (simp [*]; done)), H', ⟨by have := HJ5.out; have := HJ15.out; have := HJ25.out; have := HK4.out; have := HJ61.out; first | omega | exact Nat.le_refl _⟩, ⟨by (with_reducible repeat (first | apply Kd.R_alloc | apply Kd.R_drewN | apply Kd.R_drew)); first | exact HO_18.out | exact Kd.R_mono HO_18.out (fun k_ h_ => ne_own_len h_)⟩, ⟨by repeat (first | (with_reducible first | exact HB.out | apply below_alloc | apply pw_below_drewN | apply below_drew1) | exact HB.out)⟩⟩) | ((try simp only [← hji46] at H'); (try simp only [← hji48] at H'); (try simp only [← hji50] at H'); (try simp only [← hji53] at H'); (try simp only [← hji55] at H'); (exact ⟨_, (true), (by first | rfl | (simp; done) | (simp [*]; done)), H', ⟨by have := HJ5.out; have := HJ15.out; have := HJ25.out; have := HK4.out; have := HJ61.out; first | omega | exact Nat.le_refl _⟩, ⟨by (with_reducible repeat (first | apply Kd.R_alloc | apply Kd.R_drewN | apply Kd.R_drew)); first | exact HO_18.out | exact Kd.R_mono HO_18.out (fun k_ h_ => ne_own_len h_)⟩, ⟨by repeat (first | (with_reducible first | exact HB.out | apply below_alloc | apply pw_below_drewN | apply below_drew1) | exact HB.out)⟩⟩))
                                    · rw [if_neg c83] at H
                                      have c83b0 : (t528 == 0) = false := beq_eq_false_iff_ne.mpr c83
                                      have c83b1 : (t528 != 0) = true := bne_iff_ne.mpr c83
                                      (first | rw [c83b0] | (simp only [i64_w, i32_w]; rw [c83b0]) | skip)
                                      have H' := Aside0.mk H
                                      clear H
                                      go_wp2
                                      first | go_meet | ((try simp only [← hji46]); (try simp only [← hji48]); (try simp only [← hji50]); (try simp only [← hji53]); (try simp only [← hji55]); go_meet)
                                      case rel => first | (exact ⟨_, (true), (by first | rfl | (simp; done) | (simp [*]; done)), H', ⟨by have := HJ5.out; have := HJ15.out; have := HJ25.out; have := HK4.out; have := HJ61.out; first | omega | exact Nat.le_refl _⟩, ⟨by (with_reducible repeat (first | apply Kd.R_alloc | apply Kd.R_drewN | apply Kd.R_drew)); first | exact HO_18.out | exact Kd.R_mono HO_18.out (fun k_ h_ => ne_own_len h_)⟩, ⟨by repeat (first | (with_reducible first | exact HB.out | apply below_alloc | apply pw_below_drewN | apply below_drew1) | exact HB.out)⟩⟩) | ((try simp only [← hji46] at H'); (try simp only [← hji48] at H'); (try simp only [← hji50] at H'); (try simp only [← hji53] at H'); (try simp only [← hji55] at H'); (exact ⟨_, (true), (by first | rfl | (simp; done) | (simp [*]; done)), H', ⟨by have := HJ5.out; have := HJ15.out; have := HJ25.out; have := HK4.out; have := HJ61.out; first | omega | exact Nat.le_refl _⟩, ⟨by (with_reducible repeat (first | apply Kd.R_alloc | apply Kd.R_drewN | apply Kd.R_drew)); first | exact HO_18.out | exact Kd.R_mono HO_18.out (fun k_ h_ => ne_own_len h_)⟩, ⟨by repeat (first | (with_reducible first | exact HB.out | apply below_alloc | apply pw_below_drewN | apply below_drew1) | exact HB.out)⟩⟩))
                                  case rest => as_aux_lemma =>
                                    clear HC78
                                    try clear c1
                                    try clear c2
                                    try clear p2
                                    try clear c3
                                    try clear c4
                                    try clear c5
                                    try clear p5
                                    try clear q5
                                    try clear hx5
                                    try clear qi5
                                    try clear c6
                                    try clear p6
                                    try clear c7
                                    try clear c8
                                    try clear c10
                                    try clear c14
                                    try clear c20
                                    try clear c20b0
                                    try clear c20b1
                                    try clear c21
                                    try clear c22
                                    try clear c22b0
                                    try clear c22b1
                                    try clear c23
                                    try clear c27
                                    try clear c27b0
                                    try clear c27b1
                                    try clear c29
                                    try clear c29b0
                                    try clear c29b1
                                    try clear c29b2
                                    try clear c31
                                    try clear c32
                                    try clear c32b0
                                    try clear c32b1
                                    try clear c32b2
                                    try clear c33
                                    try clear c33b0
                                    try clear c33b1
                                    try clear c35
                                    try clear c38
                                    try clear c40
                                    try clear c40b0
                                    try clear c40b1
                                    try clear c43
                                    try clear c43b0
                                    try clear c44
                                    try clear c44b0
                                    try clear c45
                                    try clear c45b0
                                    try clear c45b1
                                    try clear c47
                                    try clear c47b0
                                    try clear c47b1
                                    try clear c49
                                    try clear c49b0
                                    try clear c49b1
                                    try clear c51
                                    try clear c51b0
                                    try clear p51
                                    try clear q51
                                    try clear hx51
                                    try clear c52
                                    try clear c52b0
                                    try clear c54
                                    try clear c54b0
                                    try clear c54b1
                                    try clear c56
                                    try clear p64
                                    try clear c66
                                    try clear c66b0
                                    try clear c66b1
                                    try clear c67
                                    try clear c67b0
                                    try clear c67b1
                                    try clear c68
                                    try clear c68b0
                                    try clear c68b1
                                    try clear c69
                                    try clear c70
                                    try clear c73
                                    try clear c83
                                    try clear c83b0
                                    try clear c83b1
                                    try clear c84
                                    try clear c84b0
                                    try clear c84b1
                                    try clear c85
                                    try clear c85b0
                                    try clear c85b1
                                    try clear c86
                                    try clear c86b0
                                    try clear c86b1
                                    try clear c87
                                    try clear c87b0
                                    try clear c87b1
                                    try clear c87b2
                                    try clear c88
                                    try clear c88b0
                                    try clear c88b1
                                    try clear c88b2
                                    try clear c89
                                    try clear c89b0
                                    try clear c89b1
                                    try clear c89b2
                                    try clear hx512_0
                                    try clear hx515_0
                                    try clear p2
                                    try clear p5
                                    try clear p51
                                    try clear p512
                                    try clear p515
                                    try clear p6
                                    try clear p64
                                    try clear q5
                                    try clear q51
                                    try clear q512
                                    try clear q515
                                    obtain ⟨kq, x243_77, rfl, HA, HJ77, HO_18, HB⟩ := hcut
                                    cases kq with
                                    | zero => exact absurd HA.out (by simp [neonwrightlaw04_FlashNormal.j5])
                                    | succ kj77 =>
                                      have H := HA.out
                                      clear HA
                                      simp only [neonwrightlaw04_FlashNormal.j5] at H
                                      by_cases c90 : x243_77 = true
                                      · subst c90
                                        have H1 : (some false) = some r := by rw [if_pos rfl] at H; exact H
                                        clear H
                                        have H := H1
                                        clear H1
                                        obtain rfl := Option.some.inj H
                                        go_wp2
                                        go_ret
                                        exact ⟨by first | rfl | (simp [errW_none, errW_some] <;> rfl) | (simp [*, errW_none, errW_some] <;> rfl), by repeat (first | (with_reducible first | exact HB.out | apply below_alloc | apply pw_below_drewN | apply below_drew1) | exact HB.out)⟩
                                      · replace c90 := Bool.eq_false_iff.mpr c90
                                        subst c90
                                        have H1 : ((flash_Changes.f kj77 a0 l1).bind fun bt538 => ((flash_Changes.f kj77 a0 x18_4).bind fun bt542 => (neonwrightlaw04_FlashNormal.l1 kj77 a0 (Int.tmod (wrap64 (a4)) a0) t526 bt538.1 bt542.1 0))) = some r := by rw [if_neg (show ¬ (false = true) by decide)] at H; exact H
                                        clear H
                                        have H := H1
                                        clear H1
                                        replace H := Option.bind_eq_some_iff.mp H
                                        obtain ⟨⟨t538, t539⟩, A910, H⟩ := H
                                        replace H : ((flash_Changes.f kj77 a0 x18_4).bind fun bt542 => (neonwrightlaw04_FlashNormal.l1 kj77 a0 (Int.tmod (wrap64 (a4)) a0) t526 t538 bt542.1 0)) = some r := H
                                        have A91 := Aside0.mk A910
                                        clear A910
                                        replace H := Option.bind_eq_some_iff.mp H
                                        obtain ⟨⟨t542, t543⟩, A920, H⟩ := H
                                        replace H : (neonwrightlaw04_FlashNormal.l1 kj77 a0 (Int.tmod (wrap64 (a4)) a0) t526 t538 t542 0) = some r := H
                                        have A92 := Aside0.mk A920
                                        clear A920
                                        have H' := Aside0.mk H
                                        clear H
                                        go_wp2_with (first | ((with_reducible refine gate_callee (f := 37) rfl ?_); refine goesL_ (some 247) rfl rfl Try.func37 (by kernel_rfl) rfl #[.int .i64 a0, .slice A1 l1.length c1] rfl (by (try simp only [List.map_toArray, List.map_cons, List.map_nil]); first | done | rfl | (simp only [List.length_drop, List.length_take]; rfl)) ?_; (with_reducible refine (flash_Changes.calls kj77 a0 _ _ l1 t538 t539 _ ?side1 ?side2 A91.out).mono ?_); (case side1 => repeat (first | exact (Kd.C_below HR1.out HB.out) | (with_reducible refine Kd.C_alloc ?_ _) | (with_reducible refine Kd.C_drewN ?_ _) | (with_reducible refine Kd.C_drew ?_))); (case side2 => exact HC1.out); rintro e w93 ⟨v540, rfl, ho0, hb⟩; refine ⟨_, rfl, ?_⟩; have n0_ := Aside0.mk (Kd.R_elder' (by (with_reducible repeat (first | apply Kd.R_alloc | apply Kd.R_drewN | apply Kd.R_drew)); exact HO_18.out) (Kd.R_base ho0) hb); have n1_ := Aside0.mk (Kd.R_lower (Kd.R_new' ho0 (Kd.R_lt (by (with_reducible repeat (first | apply Kd.R_alloc | apply Kd.R_drewN | apply Kd.R_drew)); exact HO_18.out))) (below_size (by repeat (first | (with_reducible first | exact HB.out | apply below_alloc | apply pw_below_drewN | apply below_drew1) | exact HB.out)))); have n2_ := Aside0.mk (below_step (by repeat (first | (with_reducible first | exact HB.out | apply below_alloc | apply pw_below_drewN | apply below_drew1) | exact HB.out)) hb); clear HO_18; clear HB; have HO_18 := n0_; have HO541 := n1_; have HB := n2_; clear n0_ n1_ n2_; (try clear hb); (try clear hb2); (try clear hk); (try clear hi); (try clear ho0)) | ((with_reducible refine gate_callee (f := 37) rfl ?_); refine goesL_ (some 253) rfl rfl Try.func37 (by kernel_rfl) rfl #[.int .i64 a0, .slice Ao63 x18_4.length co63] rfl (by (try simp only [List.map_toArray, List.map_cons, List.map_nil]); first | done | rfl | (simp only [List.length_drop, List.length_take]; rfl)) ?_; (with_reducible refine (flash_Changes.calls kj77 a0 _ _ x18_4 t542 t543 _ ?side1 ?side2 A92.out).mono ?_); (case side1 => repeat (first | exact (Kd.R_reads' HO_18.out).2.2 | (with_reducible refine Kd.C_alloc ?_ _) | (with_reducible refine Kd.C_drewN ?_ _) | (with_reducible refine Kd.C_drew ?_))); (case side2 => exact (Kd.R_reads' HO_18.out).2.1); rintro e w94 ⟨v544, rfl, ho0, hb⟩; refine ⟨_, rfl, ?_⟩; have n0_ := Aside0.mk (Kd.R_elder' (by (with_reducible repeat (first | apply Kd.R_alloc | apply Kd.R_drewN | apply Kd.R_drew)); exact HO_18.out) (Kd.R_base ho0) hb); have n1_ := Aside0.mk (Kd.R_elder' (by (with_reducible repeat (first | apply Kd.R_alloc | apply Kd.R_drewN | apply Kd.R_drew)); exact HO541.out) (Kd.R_base ho0) hb); have n2_ := Aside0.mk (Kd.R_lower (Kd.R_new' (Kd.R_new' ho0 (Kd.R_lt (by (with_reducible repeat (first | apply Kd.R_alloc | apply Kd.R_drewN | apply Kd.R_drew)); exact HO_18.out))) (Kd.R_lt (by (with_reducible repeat (first | apply Kd.R_alloc | apply Kd.R_drewN | apply Kd.R_drew)); exact HO541.out))) (below_size (by repeat (first | (with_reducible first | exact HB.out | apply below_alloc | apply pw_below_drewN | apply below_drew1) | exact HB.out)))); have n3_ := Aside0.mk (below_step (by repeat (first | (with_reducible first | exact HB.out | apply below_alloc | apply pw_below_drewN | apply below_drew1) | exact HB.out)) hb); clear HO_18; clear HO541; clear HB; have HO_18 := n0_; have HO541 := n1_; have HO545 := n2_; have HB := n3_; clear n0_ n1_ n2_ n3_; (try clear hb); (try clear hb2); (try clear hk); (try clear hi); (try clear ho0)))
                                        go_loopg [37] kj77 (fun kq v37 w' => ∃ (x37_7 : Int), v37 = .int .i64 x37_7 ∧ Aside0 (neonwrightlaw04_FlashNormal.l1 kq a0 (Int.tmod (wrap64 (a4)) a0) t526 t538 t542 x37_7 = some r) ∧ Aside0 (kq ≤ kj77) ∧ Aside0 (Kd.R (Kd.int .i64) 3 w' w.heap.size (fun k_ => some k_ ≠ (v544 : Value).ownBlock) v540 t538) ∧ Aside0 (Kd.R (Kd.int .i64) 3 w' w.heap.size (fun k_ => some k_ ≠ (v540 : Value).ownBlock) v544 t542) ∧ Aside0 (Below w.heap.size w w'))
                                        case atStart => exact ⟨(0), (by first | rfl | (simp; done) | (simp [*]; done)), H', ⟨Nat.le_refl _⟩, ⟨by (with_reducible repeat (first | apply Kd.R_alloc | apply Kd.R_drewN | apply Kd.R_drew)); exact Kd.R_mono HO541.out (fun _ hk => hk.2)⟩, ⟨by (with_reducible repeat (first | apply Kd.R_alloc | apply Kd.R_drewN | apply Kd.R_drew)); exact Kd.R_mono HO545.out (fun _ hk => hk.2)⟩, ⟨by repeat (first | (with_reducible first | exact HB.out | apply below_alloc | apply pw_below_drewN | apply below_drew1) | exact HB.out)⟩⟩
                                        case round => as_aux_lemma =>
                                          clear H'
                                          try clear c1
                                          try clear c2
                                          try clear p2
                                          try clear c3
                                          try clear c4
                                          try clear c5
                                          try clear p5
                                          try clear q5
                                          try clear hx5
                                          try clear qi5
                                          try clear c6
                                          try clear p6
                                          try clear c7
                                          try clear c8
                                          try clear c9
                                          try clear c10
                                          try clear c14
                                          try clear c20
                                          try clear c20b0
                                          try clear c20b1
                                          try clear c21
                                          try clear c22
                                          try clear c22b0
                                          try clear c22b1
                                          try clear c23
                                          try clear c27
                                          try clear c27b0
                                          try clear c27b1
                                          try clear c29
                                          try clear c29b0
                                          try clear c29b1
                                          try clear c29b2
                                          try clear c31
                                          try clear c32
                                          try clear c32b0
                                          try clear c32b1
                                          try clear c32b2
                                          try clear c33
                                          try clear c33b0
                                          try clear c33b1
                                          try clear c35
                                          try clear c37
                                          try clear c38
                                          try clear c40
                                          try clear c40b0
                                          try clear c40b1
                                          try clear c43
                                          try clear c43b0
                                          try clear c44
                                          try clear c44b0
                                          try clear c45
                                          try clear c45b0
                                          try clear c45b1
                                          try clear c47
                                          try clear c47b0
                                          try clear c47b1
                                          try clear c49
                                          try clear c49b0
                                          try clear c49b1
                                          try clear c51
                                          try clear c51b0
                                          try clear p51
                                          try clear q51
                                          try clear hx51
                                          try clear c52
                                          try clear c52b0
                                          try clear c54
                                          try clear c54b0
                                          try clear c54b1
                                          try clear c56
                                          try clear p64
                                          try clear c66
                                          try clear c66b0
                                          try clear c66b1
                                          try clear c67
                                          try clear c67b0
                                          try clear c67b1
                                          try clear c68
                                          try clear c68b0
                                          try clear c68b1
                                          try clear c69
                                          try clear c70
                                          try clear c73
                                          try clear c83
                                          try clear c83b0
                                          try clear c83b1
                                          try clear c84
                                          try clear c84b0
                                          try clear c84b1
                                          try clear c85
                                          try clear c85b0
                                          try clear c85b1
                                          try clear c86
                                          try clear c86b0
                                          try clear c86b1
                                          try clear c87
                                          try clear c87b0
                                          try clear c87b1
                                          try clear c87b2
                                          try clear c88
                                          try clear c88b0
                                          try clear c88b1
                                          try clear c88b2
                                          try clear c89
                                          try clear c89b0
                                          try clear c89b1
                                          try clear c89b2
                                          try clear c90
                                          try clear hx512_0
                                          try clear hx515_0
                                          try clear p2
                                          try clear p5
                                          try clear p51
                                          try clear p512
                                          try clear p515
                                          try clear p6
                                          try clear p64
                                          try clear q5
                                          try clear q51
                                          try clear q512
                                          try clear q515
                                          obtain ⟨x37_7, rfl, HA, HK7, HO_33, HO_35, HB⟩ := hrel
                                          cases gk with
                                          | zero => exact absurd HA.out (by simp [neonwrightlaw04_FlashNormal.l1])
                                          | succ k7 =>
                                            have H := HA.out
                                            clear HA
                                            simp only [neonwrightlaw04_FlashNormal.l1] at H
                                            have HC95 := Aside0.mk H
                                            clear H
                                            go_upto_region 31 with (fail)
                                            go_cut [262] (fun v262 wc => ∃ (kq : Nat) (x262_94 : Bool), v262 = .bool x262_94 ∧ Aside0 (neonwrightlaw04_FlashNormal.j7 kq a0 (Int.tmod (wrap64 (a4)) a0) t526 t538 t542 x37_7 x262_94 = some r) ∧ Aside0 (kq ≤ k7) ∧ Aside0 (Kd.R (Kd.int .i64) 3 wc w.heap.size (fun k_ => some k_ ≠ (v544 : Value).ownBlock) v540 t538) ∧ Aside0 (Kd.R (Kd.int .i64) 3 wc w.heap.size (fun k_ => some k_ ≠ (v540 : Value).ownBlock) v544 t542) ∧ Aside0 (Below w.heap.size w wc))
                                            case first => as_aux_lemma =>
                                              have H := HC95.out
                                              clear HC95
                                              by_cases c96 : x37_7 < (t538.length : Int)
                                              · rw [if_pos c96] at H
                                                have c96b0 : decide (x37_7 < (t538.length : Int)) = true := decide_eq_true c96
                                                clear c96
                                                (first | rw [c96b0] | (simp only [i64_w, i32_w]; rw [c96b0]) | skip)
                                                have H' := Aside0.mk H
                                                clear H
                                                obtain ⟨Ao97, co97, eo97⟩ := Kd.R_slice HO_33.out
                                                subst eo97
                                                go_wp2
                                                first | go_meet | ((try simp only [← hji46]); (try simp only [← hji48]); (try simp only [← hji50]); (try simp only [← hji53]); (try simp only [← hji55]); go_meet)
                                                case rel => first | (exact ⟨_, (t526), (by first | rfl | (simp; done) | (simp [*]; done)), H', ⟨by have := HJ5.out; have := HJ15.out; have := HJ25.out; have := HK4.out; have := HJ61.out; have := HJ77.out; have := HK7.out; first | omega | exact Nat.le_refl _⟩, ⟨by (with_reducible repeat (first | apply Kd.R_alloc | apply Kd.R_drewN | apply Kd.R_drew)); first | exact HO_33.out | exact Kd.R_mono HO_33.out (fun k_ h_ => ne_own_len h_)⟩, ⟨by (with_reducible repeat (first | apply Kd.R_alloc | apply Kd.R_drewN | apply Kd.R_drew)); first | exact HO_35.out | exact Kd.R_mono HO_35.out (fun k_ h_ => ne_own_len h_)⟩, ⟨by repeat (first | (with_reducible first | exact HB.out | apply below_alloc | apply pw_below_drewN | apply below_drew1) | exact HB.out)⟩⟩) | ((try simp only [← hji46] at H'); (try simp only [← hji48] at H'); (try simp only [← hji50] at H'); (try simp only [← hji53] at H'); (try simp only [← hji55] at H'); (exact ⟨_, (t526), (by first | rfl | (simp; done) | (simp [*]; done)), H', ⟨by have := HJ5.out; have := HJ15.out; have := HJ25.out; have := HK4.out; have := HJ61.out; have := HJ77.out; have := HK7.out; first | omega | exact Nat.le_refl _⟩, ⟨by (with_reducible repeat (first | apply Kd.R_alloc | apply Kd.R_drewN | apply Kd.R_drew)); first | exact HO_33.out | exact Kd.R_mono HO_33.out (fun k_ h_ => ne_own_len h_)⟩, ⟨by (with_reducible repeat (first | apply Kd.R_alloc | apply Kd.R_drewN | apply Kd.R_drew)); first | exact HO_35.out | exact Kd.R_mono HO_35.out (fun k_ h_ => ne_own_len h_)⟩, ⟨by repeat (first | (with_reducible first | exact HB.out | apply below_alloc | apply pw_below_drewN | apply below_drew1) | exact HB.out)⟩⟩))
                                              · rw [if_neg c96] at H
                                                have c96b0 : decide (x37_7 < (t538.length : Int)) = false := decide_eq_false c96
                                                clear c96
                                                (first | rw [c96b0] | (simp only [i64_w, i32_w]; rw [c96b0]) | skip)
                                                have H' := Aside0.mk H
                                                clear H
                                                obtain ⟨Ao98, co98, eo98⟩ := Kd.R_slice HO_33.out
                                                subst eo98
                                                go_wp2
                                                first | go_meet | ((try simp only [← hji46]); (try simp only [← hji48]); (try simp only [← hji50]); (try simp only [← hji53]); (try simp only [← hji55]); go_meet)
                                                case rel => first | (exact ⟨_, (false), (by first | rfl | (simp; done) | (simp [*]; done)), H', ⟨by have := HJ5.out; have := HJ15.out; have := HJ25.out; have := HK4.out; have := HJ61.out; have := HJ77.out; have := HK7.out; first | omega | exact Nat.le_refl _⟩, ⟨by (with_reducible repeat (first | apply Kd.R_alloc | apply Kd.R_drewN | apply Kd.R_drew)); first | exact HO_33.out | exact Kd.R_mono HO_33.out (fun k_ h_ => ne_own_len h_)⟩, ⟨by (with_reducible repeat (first | apply Kd.R_alloc | apply Kd.R_drewN | apply Kd.R_drew)); first | exact HO_35.out | exact Kd.R_mono HO_35.out (fun k_ h_ => ne_own_len h_)⟩, ⟨by repeat (first | (with_reducible first | exact HB.out | apply below_alloc | apply pw_below_drewN | apply below_drew1) | exact HB.out)⟩⟩) | ((try simp only [← hji46] at H'); (try simp only [← hji48] at H'); (try simp only [← hji50] at H'); (try simp only [← hji53] at H'); (try simp only [← hji55] at H'); (exact ⟨_, (false), (by first | rfl | (simp; done) | (simp [*]; done)), H', ⟨by have := HJ5.out; have := HJ15.out; have := HJ25.out; have := HK4.out; have := HJ61.out; have := HJ77.out; have := HK7.out; first | omega | exact Nat.le_refl _⟩, ⟨by (with_reducible repeat (first | apply Kd.R_alloc | apply Kd.R_drewN | apply Kd.R_drew)); first | exact HO_33.out | exact Kd.R_mono HO_33.out (fun k_ h_ => ne_own_len h_)⟩, ⟨by (with_reducible repeat (first | apply Kd.R_alloc | apply Kd.R_drewN | apply Kd.R_drew)); first | exact HO_35.out | exact Kd.R_mono HO_35.out (fun k_ h_ => ne_own_len h_)⟩, ⟨by repeat (first | (with_reducible first | exact HB.out | apply below_alloc | apply pw_below_drewN | apply below_drew1) | exact HB.out)⟩⟩))
                                            case rest => as_aux_lemma =>
                                              clear HC95
                                              try clear c1
                                              try clear c2
                                              try clear p2
                                              try clear c3
                                              try clear c4
                                              try clear c5
                                              try clear p5
                                              try clear q5
                                              try clear hx5
                                              try clear qi5
                                              try clear c6
                                              try clear p6
                                              try clear c7
                                              try clear c8
                                              try clear c9
                                              try clear c10
                                              try clear c14
                                              try clear c20
                                              try clear c20b0
                                              try clear c20b1
                                              try clear c21
                                              try clear c22
                                              try clear c22b0
                                              try clear c22b1
                                              try clear c23
                                              try clear c27
                                              try clear c27b0
                                              try clear c27b1
                                              try clear c29
                                              try clear c29b0
                                              try clear c29b1
                                              try clear c29b2
                                              try clear c31
                                              try clear c32
                                              try clear c32b0
                                              try clear c32b1
                                              try clear c32b2
                                              try clear c33
                                              try clear c33b0
                                              try clear c33b1
                                              try clear c35
                                              try clear c37
                                              try clear c38
                                              try clear c40
                                              try clear c40b0
                                              try clear c40b1
                                              try clear c43
                                              try clear c43b0
                                              try clear c44
                                              try clear c44b0
                                              try clear c45
                                              try clear c45b0
                                              try clear c45b1
                                              try clear c47
                                              try clear c47b0
                                              try clear c47b1
                                              try clear c49
                                              try clear c49b0
                                              try clear c49b1
                                              try clear c51
                                              try clear c51b0
                                              try clear p51
                                              try clear q51
                                              try clear hx51
                                              try clear c52
                                              try clear c52b0
                                              try clear c54
                                              try clear c54b0
                                              try clear c54b1
                                              try clear c56
                                              try clear p64
                                              try clear c66
                                              try clear c66b0
                                              try clear c66b1
                                              try clear c67
                                              try clear c67b0
                                              try clear c67b1
                                              try clear c68
                                              try clear c68b0
                                              try clear c68b1
                                              try clear c69
                                              try clear c70
                                              try clear c73
                                              try clear c83
                                              try clear c83b0
                                              try clear c83b1
                                              try clear c84
                                              try clear c84b0
                                              try clear c84b1
                                              try clear c85
                                              try clear c85b0
                                              try clear c85b1
                                              try clear c86
                                              try clear c86b0
                                              try clear c86b1
                                              try clear c87
                                              try clear c87b0
                                              try clear c87b1
                                              try clear c87b2
                                              try clear c88
                                              try clear c88b0
                                              try clear c88b1
                                              try clear c88b2
                                              try clear c89
                                              try clear c89b0
                                              try clear c89b1
                                              try clear c89b2
                                              try clear c90
                                              try clear c96
                                              try clear c96b0
                                              try clear hx512_0
                                              try clear hx515_0
                                              try clear p2
                                              try clear p5
                                              try clear p51
                                              try clear p512
                                              try clear p515
                                              try clear p6
                                              try clear p64
                                              try clear q5
                                              try clear q51
                                              try clear q512
                                              try clear q515
                                              obtain ⟨kq, x262_94, rfl, HA, HJ94, HO_33, HO_35, HB⟩ := hcut
                                              cases kq with
                                              | zero => exact absurd HA.out (by simp [neonwrightlaw04_FlashNormal.j7])
                                              | succ kj94 =>
                                                have H := HA.out
                                                clear HA
                                                simp only [neonwrightlaw04_FlashNormal.j7] at H
                                                by_cases c99 : x262_94 = true
                                                · subst c99
                                                  have H1 : (if (t542.length : Int) = (t538.length : Int) then (if a0 = 0 then (none) else (if 0 ≤ (Int.tmod (wrap64 (x37_7 + (Int.tmod (wrap64 (a4)) a0))) a0) then (if (Int.tmod (wrap64 (x37_7 + (Int.tmod (wrap64 (a4)) a0))) a0) < (t542.length : Int) then (if 0 ≤ x37_7 then (if x37_7 < (t538.length : Int) then (if (rd t542 (Int.tmod (wrap64 (x37_7 + (Int.tmod (wrap64 (a4)) a0))) a0)) = (rd t538 x37_7) then (neonwrightlaw04_FlashNormal.l1 kj94 a0 (Int.tmod (wrap64 (a4)) a0) t526 t538 t542 (wrap64 (x37_7 + 1))) else (some false)) else (none)) else (none)) else (none)) else (none))) else (some false)) = some r := by rw [if_pos rfl] at H; exact H
                                                  clear H
                                                  have H := H1
                                                  clear H1
                                                  by_cases c100 : (t542.length : Int) = (t538.length : Int)
                                                  · rw [if_pos c100] at H
                                                    have c100b0 : ((t542.length : Int) == (t538.length : Int)) = true := beq_iff_eq.mpr c100
                                                    have c100b1 : ((t542.length : Int) != (t538.length : Int)) = false := bne_eq_false_iff_eq.mpr c100
                                                    have c100b2 : (t542.length == t538.length) = true := by first | simpa using c100 | (simp at c100 ⊢; (try clear hji46); (try clear hji46_); (try clear hji46z); (try clear hji46u); (try clear hji46v); (try clear hji46y); (try clear hji46x); (try clear hji46w); (try clear hji48); (try clear hji48_); (try clear hji48z); (try clear hji48u); (try clear hji48v); (try clear hji48y); (try clear hji48x); (try clear hji48w); (try clear hji50); (try clear hji50_); (try clear hji50z); (try clear hji50u); (try clear hji50v); (try clear hji50y); (try clear hji50x); (try clear hji50w); (try clear hji53); (try clear hji53_); (try clear hji53z); (try clear hji53u); (try clear hji53v); (try clear hji53y); (try clear hji53x); (try clear hji53w); (try clear hji55); (try clear hji55_); (try clear hji55z); (try clear hji55u); (try clear hji55v); (try clear hji55y); (try clear hji55x); (try clear hji55w); omega)
                                                    clear c100
                                                    by_cases c101 : a0 = 0
                                                    · rw [if_pos c101] at H
                                                      exact absurd H (by simp)
                                                    · rw [if_neg c101] at H
                                                      have c101b0 : (a0 == 0) = false := beq_eq_false_iff_ne.mpr c101
                                                      have c101b1 : (a0 != 0) = true := bne_iff_ne.mpr c101
                                                      obtain ⟨ji102, hji102⟩ : ∃ j_ : Int, (Int.tmod (wrap64 (x37_7 + (Int.tmod (wrap64 (a4)) a0))) a0) = j_ := ⟨_, rfl⟩
                                                      replace H : (if 0 ≤ (ji102) then (if (ji102) < (t542.length : Int) then (if 0 ≤ x37_7 then (if x37_7 < (t538.length : Int) then (if (rd t542 (ji102)) = (rd t538 x37_7) then (neonwrightlaw04_FlashNormal.l1 kj94 a0 (Int.tmod (wrap64 (a4)) a0) t526 t538 t542 (wrap64 (x37_7 + 1))) else (some false)) else (none)) else (none)) else (none)) else (none)) = some r := by first | (rw [hji102] at H; exact H) | (simp only [hji102] at H ⊢; exact H)
                                                      by_cases c103 : 0 ≤ (ji102)
                                                      · rw [if_pos c103] at H
                                                        have c103b0 : decide (0 ≤ (ji102)) = true := decide_eq_true c103
                                                        clear c103
                                                        by_cases c104 : (ji102) < (t542.length : Int)
                                                        · rw [if_pos c104] at H
                                                          have c104b0 : decide ((ji102) < (t542.length : Int)) = true := decide_eq_true c104
                                                          clear c104
                                                          by_cases c105 : 0 ≤ x37_7
                                                          · rw [if_pos c105] at H
                                                            have c105b0 : decide (0 ≤ x37_7) = true := decide_eq_true c105
                                                            clear c105
                                                            by_cases c106 : x37_7 < (t538.length : Int)
                                                            · rw [if_pos c106] at H
                                                              have c106b0 : decide (x37_7 < (t538.length : Int)) = true := decide_eq_true c106
                                                              clear c106
                                                              by_cases c107 : (rd t542 (ji102)) = (rd t538 x37_7)
                                                              · rw [if_pos c107] at H
                                                                have c107b0 : ((rd t542 (ji102)) == (rd t538 x37_7)) = true := beq_iff_eq.mpr c107
                                                                have c107b1 : ((rd t542 (ji102)) != (rd t538 x37_7)) = false := bne_eq_false_iff_eq.mpr c107
                                                                clear c107
                                                                have H' := Aside0.mk H
                                                                clear H
                                                                try go_wp2
                                                                have n0_ := Aside0.mk (Kd.R_drew HO_33.out)
                                                                have n1_ := Aside0.mk (Kd.R_drew HO_35.out)
                                                                have n2_ := Aside0.mk (below_drew1 HB.out)
                                                                clear HO_33
                                                                clear HO_35
                                                                clear HB
                                                                have HO_33 := n0_
                                                                have HO_35 := n1_
                                                                have HB := n2_
                                                                clear n0_ n1_ n2_
                                                                obtain ⟨Ao109, co109, eo109⟩ := Kd.R_slice HO_35.out
                                                                (first | subst eo109 | (injection eo109 with f1_ f2_ f3_; have f4_ := f1_.symm; have f5_ := f3_.symm; clear f1_ f2_ f3_; subst f4_; subst f5_))
                                                                obtain ⟨Ao110, co110, eo110⟩ := Kd.R_slice HO_33.out
                                                                (first | subst eo110 | (injection eo110 with f1_ f2_ f3_; have f4_ := f1_.symm; have f5_ := f3_.symm; clear f1_ f2_ f3_; subst f4_; subst f5_))
                                                                have p546 : 0 ≤ ((ji102) : Int) := of_decide_eq_true (by first | (with_reducible assumption) | assumption)
                                                                have q546 : (ji102) < (t542.length : Int) := of_decide_eq_true (by first | (with_reducible assumption) | assumption)
                                                                (try (obtain ⟨Aom_, com_, eom_⟩ := Kd.R_slice HO_35.out; subst eom_))
                                                                obtain ⟨ad546, e546, hx546_0⟩ := Kd.at_int (Kd.R_reads' HO_35.out).2.2 (ji102) p546 q546
                                                                cases e546
                                                                replace p546 := eq_true p546
                                                                replace q546 := eq_true q546
                                                                have p547 : 0 ≤ (x37_7 : Int) := of_decide_eq_true (by first | (with_reducible assumption) | assumption)
                                                                have q547 : x37_7 < (t538.length : Int) := of_decide_eq_true (by first | (with_reducible assumption) | assumption)
                                                                (try (obtain ⟨Aom_, com_, eom_⟩ := Kd.R_slice HO_33.out; subst eom_))
                                                                obtain ⟨ad547, e547, hx547_0⟩ := Kd.at_int (Kd.R_reads' HO_33.out).2.2 x37_7 p547 q547
                                                                cases e547
                                                                replace p547 := eq_true p547
                                                                replace q547 := eq_true q547
                                                                refine start_ (n := 20) (S := fun w' => w'.cell? (ad546.add ((ji102)).toNat) = some (.int .i64 (rd t542 (ji102))) ∧ w'.cell? (ad547.add (x37_7).toNat) = some (.int .i64 (rd t538 x37_7))) (ds := []) #[false, false, false, false, false, false, false, false, false, false, false, false, false, false, false, false, false, false, false, false] (by kernel_rfl) rfl rfl ⟨hx546_0, hx547_0⟩ (fun hHeld => ?_); refine with_tabW neonwrightlaw04_FlashNormal.tab33 neonwrightlaw04_FlashNormal.bits33 (fun HT_ HW_ => ?_)
                                                                generalize wc.drew = w108 at HO_33 HO_35 HB hx546_0 hx547_0 hHeld ⊢
                                                                refine pure_ (i := 0) (N := some 265) (v := ?_) (a' := ?_) #[true, false, false, false, false, false, false, false, false, false, false, false, false, false, false, false, false, false, false, false] rfl rfl (any_of HT_.out (by kernel_rfl)) (fun _ _ _ h => h) (Or.inl ⟨by rfl, ?_⟩) ?_ ?_
                                                                rotate_left
                                                                · intro w'
                                                                  go_simp
                                                                  with_reducible rfl
                                                                rotate_left
                                                                · simp only [Act.put, List.setIfInBounds_toArray, List.set_cons_zero, List.set_cons_succ, i64_w, i32_w]
                                                                  rfl
                                                                refine pure_ (i := 1) (N := some 266) (v := ?_) (a' := ?_) #[true, true, false, false, false, false, false, false, false, false, false, false, false, false, false, false, false, false, false, false] rfl rfl (any_of HT_.out (by kernel_rfl)) (fun _ _ _ h => h) (Or.inl ⟨by rfl, ?_⟩) ?_ ?_
                                                                rotate_left
                                                                · intro w'
                                                                  go_simp
                                                                  with_reducible rfl
                                                                rotate_left
                                                                · simp only [Act.put, List.setIfInBounds_toArray, List.set_cons_zero, List.set_cons_succ, i64_w, i32_w]
                                                                  rfl
                                                                refine pure_ (i := 2) (N := some 267) (v := ?_) (a' := ?_) #[true, true, true, false, false, false, false, false, false, false, false, false, false, false, false, false, false, false, false, false] rfl rfl (any_of HT_.out (by kernel_rfl)) (fun _ _ _ h => h) (Or.inl ⟨by rfl, ?_⟩) ?_ ?_
                                                                rotate_left
                                                                · intro w'
                                                                  go_simp
                                                                  with_reducible rfl
                                                                rotate_left
                                                                · simp only [Act.put, List.setIfInBounds_toArray, List.set_cons_zero, List.set_cons_succ, i64_w, i32_w]
                                                                  rfl
                                                                refine pure_ (i := 3) (N := some 268) (v := ?_) (a' := ?_) #[true, true, true, true, false, false, false, false, false, false, false, false, false, false, false, false, false, false, false, false] rfl rfl (any_of HT_.out (by kernel_rfl)) (fun _ _ _ h => h) (Or.inl ⟨by rfl, ?_⟩) ?_ ?_
                                                                rotate_left
                                                                · intro w'
                                                                  go_simp
                                                                  with_reducible rfl
                                                                rotate_left
                                                                · simp only [Act.put, List.setIfInBounds_toArray, List.set_cons_zero, List.set_cons_succ, i64_w, i32_w]
                                                                  rfl
                                                                refine pure_ (i := 4) (N := some 269) (v := ?_) (a' := ?_) #[true, true, true, true, true, false, false, false, false, false, false, false, false, false, false, false, false, false, false, false] rfl rfl (any_of HT_.out (by kernel_rfl)) (fun _ _ _ h => h) (Or.inl ⟨by rfl, ?_⟩) ?_ ?_
                                                                rotate_left
                                                                · intro w'
                                                                  go_simp
                                                                  with_reducible rfl
                                                                rotate_left
                                                                · simp only [Act.put, List.setIfInBounds_toArray, List.set_cons_zero, List.set_cons_succ, i64_w, i32_w]
                                                                  rfl
                                                                refine pure_ (i := 5) (N := some 270) (v := ?_) (a' := ?_) #[true, true, true, true, true, true, false, false, false, false, false, false, false, false, false, false, false, false, false, false] rfl rfl (any_of HT_.out (by kernel_rfl)) (fun _ _ _ h => h) (Or.inl ⟨by rfl, ?_⟩) ?_ ?_
                                                                rotate_left
                                                                · intro w'
                                                                  go_simp
                                                                  with_reducible rfl
                                                                rotate_left
                                                                · simp only [Act.put, List.setIfInBounds_toArray, List.set_cons_zero, List.set_cons_succ, i64_w, i32_w]
                                                                  rfl
                                                                refine pure_ (i := 6) (N := some 271) (v := ?_) (a' := ?_) #[true, true, true, true, true, true, true, false, false, false, false, false, false, false, false, false, false, false, false, false] rfl rfl (any_of HT_.out (by kernel_rfl)) (fun _ _ _ h => h) (Or.inl ⟨by rfl, ?_⟩) ?_ ?_
                                                                rotate_left
                                                                · intro w'
                                                                  go_simp
                                                                  with_reducible rfl
                                                                rotate_left
                                                                · simp only [Act.put, List.setIfInBounds_toArray, List.set_cons_zero, List.set_cons_succ, i64_w, i32_w]
                                                                  rfl
                                                                refine pure_ (i := 7) (N := some 272) (v := ?_) (a' := ?_) #[true, true, true, true, true, true, true, true, false, false, false, false, false, false, false, false, false, false, false, false] rfl rfl (any_of HT_.out (by kernel_rfl)) (fun _ _ _ h => h) (Or.inl ⟨by rfl, ?_⟩) ?_ ?_
                                                                rotate_left
                                                                · intro w'
                                                                  go_simp
                                                                  with_reducible rfl
                                                                rotate_left
                                                                · simp only [Act.put, List.setIfInBounds_toArray, List.set_cons_zero, List.set_cons_succ, i64_w, i32_w]
                                                                  rfl
                                                                refine pure_ (i := 8) (N := some 273) (v := ?_) (a' := ?_) #[true, true, true, true, true, true, true, true, true, false, false, false, false, false, false, false, false, false, false, false] rfl rfl (any_of HT_.out (by kernel_rfl)) (fun _ _ _ h => h) (Or.inl ⟨by rfl, ?_⟩) ?_ ?_
                                                                rotate_left
                                                                · intro w'
                                                                  go_simp
                                                                  with_reducible rfl
                                                                rotate_left
                                                                · simp only [Act.put, List.setIfInBounds_toArray, List.set_cons_zero, List.set_cons_succ, i64_w, i32_w]
                                                                  rfl
                                                                refine pure_ (i := 9) (N := some 274) (v := ?_) (a' := ?_) #[true, true, true, true, true, true, true, true, true, true, false, false, false, false, false, false, false, false, false, false] rfl rfl (any_of HT_.out (by kernel_rfl)) (fun _ _ _ h => h) (Or.inl ⟨by rfl, ?_⟩) ?_ ?_
                                                                rotate_left
                                                                · intro w'
                                                                  go_simp
                                                                  with_reducible rfl
                                                                rotate_left
                                                                · simp only [Act.put, List.setIfInBounds_toArray, List.set_cons_zero, List.set_cons_succ, i64_w, i32_w]
                                                                  rfl
                                                                refine pure_ (i := 10) (N := some 275) (v := ?_) (a' := ?_) #[true, true, true, true, true, true, true, true, true, true, true, false, false, false, false, false, false, false, false, false] rfl rfl (any_of HT_.out (by kernel_rfl)) (fun _ _ _ h => h) (Or.inl ⟨by rfl, ?_⟩) ?_ ?_
                                                                rotate_left
                                                                · intro w'
                                                                  go_simp
                                                                  with_reducible rfl
                                                                rotate_left
                                                                · simp only [Act.put, List.setIfInBounds_toArray, List.set_cons_zero, List.set_cons_succ, i64_w, i32_w]
                                                                  rfl
                                                                refine pure_ (i := 11) (N := some 276) (v := ?_) (a' := ?_) #[true, true, true, true, true, true, true, true, true, true, true, true, false, false, false, false, false, false, false, false] rfl rfl (any_of HT_.out (by kernel_rfl)) (fun _ _ _ h => h) (Or.inl ⟨by rfl, ?_⟩) ?_ ?_
                                                                rotate_left
                                                                · intro w'
                                                                  go_simp
                                                                  with_reducible rfl
                                                                rotate_left
                                                                · simp only [Act.put, List.setIfInBounds_toArray, List.set_cons_zero, List.set_cons_succ, i64_w, i32_w]
                                                                  rfl
                                                                refine pure_ (i := 12) (N := some 277) (v := ?_) (a' := ?_) #[true, true, true, true, true, true, true, true, true, true, true, true, true, false, false, false, false, false, false, false] rfl rfl (any_of HT_.out (by kernel_rfl)) (fun _ _ _ h => h) (Or.inl ⟨by rfl, ?_⟩) ?_ ?_
                                                                rotate_left
                                                                · intro w'
                                                                  go_simp
                                                                  with_reducible rfl
                                                                rotate_left
                                                                · simp only [Act.put, List.setIfInBounds_toArray, List.set_cons_zero, List.set_cons_succ, i64_w, i32_w]
                                                                  rfl
                                                                refine pure_ (i := 14) (N := some 279) (v := ?_) (a' := ?_) #[true, true, true, true, true, true, true, true, true, true, true, true, true, false, true, false, false, false, false, false] rfl rfl (any_of HT_.out (by kernel_rfl)) (fun _ _ _ h => h) (Or.inl ⟨by rfl, ?_⟩) ?_ ?_
                                                                rotate_left
                                                                · intro w'
                                                                  go_simp
                                                                  with_reducible rfl
                                                                rotate_left
                                                                · simp only [Act.put, List.setIfInBounds_toArray, List.set_cons_zero, List.set_cons_succ, i64_w, i32_w]
                                                                  rfl
                                                                refine pure_ (i := 15) (N := some 280) (v := ?_) (a' := ?_) #[true, true, true, true, true, true, true, true, true, true, true, true, true, false, true, true, false, false, false, false] rfl rfl (any_of HT_.out (by kernel_rfl)) (fun _ _ _ h => h) (Or.inl ⟨by rfl, ?_⟩) ?_ ?_
                                                                rotate_left
                                                                · intro w'
                                                                  go_simp
                                                                  with_reducible rfl
                                                                rotate_left
                                                                · simp only [Act.put, List.setIfInBounds_toArray, List.set_cons_zero, List.set_cons_succ, i64_w, i32_w]
                                                                  rfl
                                                                refine pure_ (i := 16) (N := some 281) (v := ?_) (a' := ?_) #[true, true, true, true, true, true, true, true, true, true, true, true, true, false, true, true, true, false, false, false] rfl rfl (any_of HT_.out (by kernel_rfl)) (fun _ _ _ h => h) (Or.inl ⟨by rfl, ?_⟩) ?_ ?_
                                                                rotate_left
                                                                · intro w'
                                                                  go_simp
                                                                  with_reducible rfl
                                                                rotate_left
                                                                · simp only [Act.put, List.setIfInBounds_toArray, List.set_cons_zero, List.set_cons_succ, i64_w, i32_w]
                                                                  rfl
                                                                refine take_ (i := 13) (N := some 278) (v := ?_) (a' := ?_) #[true, true, true, true, true, true, true, true, true, true, true, true, true, true, true, true, true, false, false, false] rfl rfl (take_ofW HT_.out HW_.out (by kernel_rfl)) (fun _ _ _ h => h) (Or.inl ⟨by rfl, ?_⟩) hHeld ?_ ?_
                                                                rotate_left
                                                                · rintro w' ⟨s0, s1⟩
                                                                  (try simp only [add_plain] at s0)
                                                                  (try simp only [add_plain] at s1)
                                                                  go_simp
                                                                  with_reducible rfl
                                                                rotate_left
                                                                · simp only [Act.put, List.setIfInBounds_toArray, List.set_cons_zero, List.set_cons_succ, i64_w, i32_w]
                                                                  rfl
                                                                refine take_ (i := 17) (N := some 282) (v := ?_) (a' := ?_) #[true, true, true, true, true, true, true, true, true, true, true, true, true, true, true, true, true, true, false, false] rfl rfl (take_ofW HT_.out HW_.out (by kernel_rfl)) (fun _ _ _ h => h) (Or.inl ⟨by rfl, ?_⟩) hHeld ?_ ?_
                                                                rotate_left
                                                                · rintro w' ⟨s0, s1⟩
                                                                  (try simp only [add_plain] at s0)
                                                                  (try simp only [add_plain] at s1)
                                                                  go_simp
                                                                  with_reducible rfl
                                                                rotate_left
                                                                · simp only [Act.put, List.setIfInBounds_toArray, List.set_cons_zero, List.set_cons_succ, i64_w, i32_w]
                                                                  rfl
                                                                refine pure_ (i := 18) (N := some 283) (v := ?_) (a' := ?_) #[true, true, true, true, true, true, true, true, true, true, true, true, true, true, true, true, true, true, true, false] rfl rfl (any_of HT_.out (by kernel_rfl)) (fun _ _ _ h => h) (Or.inl ⟨by rfl, ?_⟩) ?_ ?_
                                                                rotate_left
                                                                · intro w'
                                                                  go_simp
                                                                  with_reducible rfl
                                                                rotate_left
                                                                · simp only [Act.put, List.setIfInBounds_toArray, List.set_cons_zero, List.set_cons_succ, i64_w, i32_w]
                                                                  rfl
                                                                refine pure_ (i := 19) (N := some 284) (v := ?_) (a' := ?_) #[true, true, true, true, true, true, true, true, true, true, true, true, true, true, true, true, true, true, true, true] rfl rfl (any_of HT_.out (by kernel_rfl)) (fun _ _ _ h => h) (Or.inl ⟨by rfl, ?_⟩) ?_ ?_
                                                                rotate_left
                                                                · intro w'
                                                                  go_simp
                                                                  with_reducible rfl
                                                                rotate_left
                                                                · simp only [Act.put, List.setIfInBounds_toArray, List.set_cons_zero, List.set_cons_succ, i64_w, i32_w]
                                                                  rfl
                                                                refine done_ (done_of HT_.out (by kernel_rfl)) ?_
                                                                try go_wp2
                                                                first | go_roundg kj94 | ((try simp only [← hji46]); (try simp only [← hji48]); (try simp only [← hji50]); (try simp only [← hji53]); (try simp only [← hji55]); (try simp only [← hji102]); go_roundg kj94)
                                                                case measure => have := HJ5.out; have := HJ15.out; have := HJ25.out; have := HK4.out; have := HJ61.out; have := HJ77.out; have := HK7.out; have := HJ94.out; (try clear hji46); (try clear hji46_); (try clear hji46z); (try clear hji46u); (try clear hji46v); (try clear hji46y); (try clear hji46x); (try clear hji46w); (try clear hji48); (try clear hji48_); (try clear hji48z); (try clear hji48u); (try clear hji48v); (try clear hji48y); (try clear hji48x); (try clear hji48w); (try clear hji50); (try clear hji50_); (try clear hji50z); (try clear hji50u); (try clear hji50v); (try clear hji50y); (try clear hji50x); (try clear hji50w); (try clear hji53); (try clear hji53_); (try clear hji53z); (try clear hji53u); (try clear hji53v); (try clear hji53y); (try clear hji53x); (try clear hji53w); (try clear hji55); (try clear hji55_); (try clear hji55z); (try clear hji55u); (try clear hji55v); (try clear hji55y); (try clear hji55x); (try clear hji55w); (try clear hji102); (try clear hji102_); (try clear hji102z); (try clear hji102u); (try clear hji102v); (try clear hji102y); (try clear hji102x); (try clear hji102w); omega
                                                                case rel => first | (exact ⟨(wrap64 (x37_7 + 1)), (by first | rfl | (simp; done) | (simp [*]; done)), H', ⟨by have := HJ5.out; have := HJ15.out; have := HJ25.out; have := HK4.out; have := HJ61.out; have := HJ77.out; have := HK7.out; have := HJ94.out; (try clear hji46); (try clear hji46_); (try clear hji46z); (try clear hji46u); (try clear hji46v); (try clear hji46y); (try clear hji46x); (try clear hji46w); (try clear hji48); (try clear hji48_); (try clear hji48z); (try clear hji48u); (try clear hji48v); (try clear hji48y); (try clear hji48x); (try clear hji48w); (try clear hji50); (try clear hji50_); (try clear hji50z); (try clear hji50u); (try clear hji50v); (try clear hji50y); (try clear hji50x); (try clear hji50w); (try clear hji53); (try clear hji53_); (try clear hji53z); (try clear hji53u); (try clear hji53v); (try clear hji53y); (try clear hji53x); (try clear hji53w); (try clear hji55); (try clear hji55_); (try clear hji55z); (try clear hji55u); (try clear hji55v); (try clear hji55y); (try clear hji55x); (try clear hji55w); (try clear hji102); (try clear hji102_); (try clear hji102z); (try clear hji102u); (try clear hji102v); (try clear hji102y); (try clear hji102x); (try clear hji102w); omega⟩, ⟨by (with_reducible repeat (first | apply Kd.R_alloc | apply Kd.R_drewN | apply Kd.R_drew)); first | exact HO_33.out | exact Kd.R_mono HO_33.out (fun k_ h_ => ne_own_len h_)⟩, ⟨by (with_reducible repeat (first | apply Kd.R_alloc | apply Kd.R_drewN | apply Kd.R_drew)); first | exact HO_35.out | exact Kd.R_mono HO_35.out (fun k_ h_ => ne_own_len h_)⟩, ⟨by repeat (first | (with_reducible first | exact HB.out | apply below_alloc | apply pw_below_drewN | apply below_drew1) | exact HB.out)⟩⟩) | ((try simp only [← hji46] at H'); (try simp only [← hji48] at H'); (try simp only [← hji50] at H'); (try simp only [← hji53] at H'); (try simp only [← hji55] at H'); (try simp only [← hji102] at H'); (exact ⟨(wrap64 (x37_7 + 1)), (by first | rfl | (simp; done) | (simp [*]; done)), H', ⟨by have := HJ5.out; have := HJ15.out; have := HJ25.out; have := HK4.out; have := HJ61.out; have := HJ77.out; have := HK7.out; have := HJ94.out; (try clear hji46); (try clear hji46_); (try clear hji46z); (try clear hji46u); (try clear hji46v); (try clear hji46y); (try clear hji46x); (try clear hji46w); (try clear hji48); (try clear hji48_); (try clear hji48z); (try clear hji48u); (try clear hji48v); (try clear hji48y); (try clear hji48x); (try clear hji48w); (try clear hji50); (try clear hji50_); (try clear hji50z); (try clear hji50u); (try clear hji50v); (try clear hji50y); (try clear hji50x); (try clear hji50w); (try clear hji53); (try clear hji53_); (try clear hji53z); (try clear hji53u); (try clear hji53v); (try clear hji53y); (try clear hji53x); (try clear hji53w); (try clear hji55); (try clear hji55_); (try clear hji55z); (try clear hji55u); (try clear hji55v); (try clear hji55y); (try clear hji55x); (try clear hji55w); (try clear hji102); (try clear hji102_); (try clear hji102z); (try clear hji102u); (try clear hji102v); (try clear hji102y); (try clear hji102x); (try clear hji102w); omega⟩, ⟨by (with_reducible repeat (first | apply Kd.R_alloc | apply Kd.R_drewN | apply Kd.R_drew)); first | exact HO_33.out | exact Kd.R_mono HO_33.out (fun k_ h_ => ne_own_len h_)⟩, ⟨by (with_reducible repeat (first | apply Kd.R_alloc | apply Kd.R_drewN | apply Kd.R_drew)); first | exact HO_35.out | exact Kd.R_mono HO_35.out (fun k_ h_ => ne_own_len h_)⟩, ⟨by repeat (first | (with_reducible first | exact HB.out | apply below_alloc | apply pw_below_drewN | apply below_drew1) | exact HB.out)⟩⟩))
                                                              · rw [if_neg c107] at H
                                                                have c107b0 : ((rd t542 (ji102)) == (rd t538 x37_7)) = false := beq_eq_false_iff_ne.mpr c107
                                                                have c107b1 : ((rd t542 (ji102)) != (rd t538 x37_7)) = true := bne_iff_ne.mpr c107
                                                                obtain rfl := Option.some.inj H
                                                                try go_wp2
                                                                have n0_ := Aside0.mk (Kd.R_drew HO_33.out)
                                                                have n1_ := Aside0.mk (Kd.R_drew HO_35.out)
                                                                have n2_ := Aside0.mk (below_drew1 HB.out)
                                                                clear HO_33
                                                                clear HO_35
                                                                clear HB
                                                                have HO_33 := n0_
                                                                have HO_35 := n1_
                                                                have HB := n2_
                                                                clear n0_ n1_ n2_
                                                                obtain ⟨Ao112, co112, eo112⟩ := Kd.R_slice HO_35.out
                                                                (first | subst eo112 | (injection eo112 with f1_ f2_ f3_; have f4_ := f1_.symm; have f5_ := f3_.symm; clear f1_ f2_ f3_; subst f4_; subst f5_))
                                                                obtain ⟨Ao113, co113, eo113⟩ := Kd.R_slice HO_33.out
                                                                (first | subst eo113 | (injection eo113 with f1_ f2_ f3_; have f4_ := f1_.symm; have f5_ := f3_.symm; clear f1_ f2_ f3_; subst f4_; subst f5_))
                                                                have p546 : 0 ≤ ((ji102) : Int) := of_decide_eq_true (by first | (with_reducible assumption) | assumption)
                                                                have q546 : (ji102) < (t542.length : Int) := of_decide_eq_true (by first | (with_reducible assumption) | assumption)
                                                                (try (obtain ⟨Aom_, com_, eom_⟩ := Kd.R_slice HO_35.out; subst eom_))
                                                                obtain ⟨ad546, e546, hx546_0⟩ := Kd.at_int (Kd.R_reads' HO_35.out).2.2 (ji102) p546 q546
                                                                cases e546
                                                                replace p546 := eq_true p546
                                                                replace q546 := eq_true q546
                                                                have p547 : 0 ≤ (x37_7 : Int) := of_decide_eq_true (by first | (with_reducible assumption) | assumption)
                                                                have q547 : x37_7 < (t538.length : Int) := of_decide_eq_true (by first | (with_reducible assumption) | assumption)
                                                                (try (obtain ⟨Aom_, com_, eom_⟩ := Kd.R_slice HO_33.out; subst eom_))
                                                                obtain ⟨ad547, e547, hx547_0⟩ := Kd.at_int (Kd.R_reads' HO_33.out).2.2 x37_7 p547 q547
                                                                cases e547
                                                                replace p547 := eq_true p547
                                                                replace q547 := eq_true q547
                                                                refine start_ (n := 20) (S := fun w' => w'.cell? (ad546.add ((ji102)).toNat) = some (.int .i64 (rd t542 (ji102))) ∧ w'.cell? (ad547.add (x37_7).toNat) = some (.int .i64 (rd t538 x37_7))) (ds := []) #[false, false, false, false, false, false, false, false, false, false, false, false, false, false, false, false, false, false, false, false] (by kernel_rfl) rfl rfl ⟨hx546_0, hx547_0⟩ (fun hHeld => ?_); refine with_tabW neonwrightlaw04_FlashNormal.tab33 neonwrightlaw04_FlashNormal.bits33 (fun HT_ HW_ => ?_)
                                                                generalize wc.drew = w111 at HO_33 HO_35 HB hx546_0 hx547_0 hHeld ⊢
                                                                refine pure_ (i := 0) (N := some 265) (v := ?_) (a' := ?_) #[true, false, false, false, false, false, false, false, false, false, false, false, false, false, false, false, false, false, false, false] rfl rfl (any_of HT_.out (by kernel_rfl)) (fun _ _ _ h => h) (Or.inl ⟨by rfl, ?_⟩) ?_ ?_
                                                                rotate_left
                                                                · intro w'
                                                                  go_simp
                                                                  with_reducible rfl
                                                                rotate_left
                                                                · simp only [Act.put, List.setIfInBounds_toArray, List.set_cons_zero, List.set_cons_succ, i64_w, i32_w]
                                                                  rfl
                                                                refine pure_ (i := 1) (N := some 266) (v := ?_) (a' := ?_) #[true, true, false, false, false, false, false, false, false, false, false, false, false, false, false, false, false, false, false, false] rfl rfl (any_of HT_.out (by kernel_rfl)) (fun _ _ _ h => h) (Or.inl ⟨by rfl, ?_⟩) ?_ ?_
                                                                rotate_left
                                                                · intro w'
                                                                  go_simp
                                                                  with_reducible rfl
                                                                rotate_left
                                                                · simp only [Act.put, List.setIfInBounds_toArray, List.set_cons_zero, List.set_cons_succ, i64_w, i32_w]
                                                                  rfl
                                                                refine pure_ (i := 2) (N := some 267) (v := ?_) (a' := ?_) #[true, true, true, false, false, false, false, false, false, false, false, false, false, false, false, false, false, false, false, false] rfl rfl (any_of HT_.out (by kernel_rfl)) (fun _ _ _ h => h) (Or.inl ⟨by rfl, ?_⟩) ?_ ?_
                                                                rotate_left
                                                                · intro w'
                                                                  go_simp
                                                                  with_reducible rfl
                                                                rotate_left
                                                                · simp only [Act.put, List.setIfInBounds_toArray, List.set_cons_zero, List.set_cons_succ, i64_w, i32_w]
                                                                  rfl
                                                                refine pure_ (i := 3) (N := some 268) (v := ?_) (a' := ?_) #[true, true, true, true, false, false, false, false, false, false, false, false, false, false, false, false, false, false, false, false] rfl rfl (any_of HT_.out (by kernel_rfl)) (fun _ _ _ h => h) (Or.inl ⟨by rfl, ?_⟩) ?_ ?_
                                                                rotate_left
                                                                · intro w'
                                                                  go_simp
                                                                  with_reducible rfl
                                                                rotate_left
                                                                · simp only [Act.put, List.setIfInBounds_toArray, List.set_cons_zero, List.set_cons_succ, i64_w, i32_w]
                                                                  rfl
                                                                refine pure_ (i := 4) (N := some 269) (v := ?_) (a' := ?_) #[true, true, true, true, true, false, false, false, false, false, false, false, false, false, false, false, false, false, false, false] rfl rfl (any_of HT_.out (by kernel_rfl)) (fun _ _ _ h => h) (Or.inl ⟨by rfl, ?_⟩) ?_ ?_
                                                                rotate_left
                                                                · intro w'
                                                                  go_simp
                                                                  with_reducible rfl
                                                                rotate_left
                                                                · simp only [Act.put, List.setIfInBounds_toArray, List.set_cons_zero, List.set_cons_succ, i64_w, i32_w]
                                                                  rfl
                                                                refine pure_ (i := 5) (N := some 270) (v := ?_) (a' := ?_) #[true, true, true, true, true, true, false, false, false, false, false, false, false, false, false, false, false, false, false, false] rfl rfl (any_of HT_.out (by kernel_rfl)) (fun _ _ _ h => h) (Or.inl ⟨by rfl, ?_⟩) ?_ ?_
                                                                rotate_left
                                                                · intro w'
                                                                  go_simp
                                                                  with_reducible rfl
                                                                rotate_left
                                                                · simp only [Act.put, List.setIfInBounds_toArray, List.set_cons_zero, List.set_cons_succ, i64_w, i32_w]
                                                                  rfl
                                                                refine pure_ (i := 6) (N := some 271) (v := ?_) (a' := ?_) #[true, true, true, true, true, true, true, false, false, false, false, false, false, false, false, false, false, false, false, false] rfl rfl (any_of HT_.out (by kernel_rfl)) (fun _ _ _ h => h) (Or.inl ⟨by rfl, ?_⟩) ?_ ?_
                                                                rotate_left
                                                                · intro w'
                                                                  go_simp
                                                                  with_reducible rfl
                                                                rotate_left
                                                                · simp only [Act.put, List.setIfInBounds_toArray, List.set_cons_zero, List.set_cons_succ, i64_w, i32_w]
                                                                  rfl
                                                                refine pure_ (i := 7) (N := some 272) (v := ?_) (a' := ?_) #[true, true, true, true, true, true, true, true, false, false, false, false, false, false, false, false, false, false, false, false] rfl rfl (any_of HT_.out (by kernel_rfl)) (fun _ _ _ h => h) (Or.inl ⟨by rfl, ?_⟩) ?_ ?_
                                                                rotate_left
                                                                · intro w'
                                                                  go_simp
                                                                  with_reducible rfl
                                                                rotate_left
                                                                · simp only [Act.put, List.setIfInBounds_toArray, List.set_cons_zero, List.set_cons_succ, i64_w, i32_w]
                                                                  rfl
                                                                refine pure_ (i := 8) (N := some 273) (v := ?_) (a' := ?_) #[true, true, true, true, true, true, true, true, true, false, false, false, false, false, false, false, false, false, false, false] rfl rfl (any_of HT_.out (by kernel_rfl)) (fun _ _ _ h => h) (Or.inl ⟨by rfl, ?_⟩) ?_ ?_
                                                                rotate_left
                                                                · intro w'
                                                                  go_simp
                                                                  with_reducible rfl
                                                                rotate_left
                                                                · simp only [Act.put, List.setIfInBounds_toArray, List.set_cons_zero, List.set_cons_succ, i64_w, i32_w]
                                                                  rfl
                                                                refine pure_ (i := 9) (N := some 274) (v := ?_) (a' := ?_) #[true, true, true, true, true, true, true, true, true, true, false, false, false, false, false, false, false, false, false, false] rfl rfl (any_of HT_.out (by kernel_rfl)) (fun _ _ _ h => h) (Or.inl ⟨by rfl, ?_⟩) ?_ ?_
                                                                rotate_left
                                                                · intro w'
                                                                  go_simp
                                                                  with_reducible rfl
                                                                rotate_left
                                                                · simp only [Act.put, List.setIfInBounds_toArray, List.set_cons_zero, List.set_cons_succ, i64_w, i32_w]
                                                                  rfl
                                                                refine pure_ (i := 10) (N := some 275) (v := ?_) (a' := ?_) #[true, true, true, true, true, true, true, true, true, true, true, false, false, false, false, false, false, false, false, false] rfl rfl (any_of HT_.out (by kernel_rfl)) (fun _ _ _ h => h) (Or.inl ⟨by rfl, ?_⟩) ?_ ?_
                                                                rotate_left
                                                                · intro w'
                                                                  go_simp
                                                                  with_reducible rfl
                                                                rotate_left
                                                                · simp only [Act.put, List.setIfInBounds_toArray, List.set_cons_zero, List.set_cons_succ, i64_w, i32_w]
                                                                  rfl
                                                                refine pure_ (i := 11) (N := some 276) (v := ?_) (a' := ?_) #[true, true, true, true, true, true, true, true, true, true, true, true, false, false, false, false, false, false, false, false] rfl rfl (any_of HT_.out (by kernel_rfl)) (fun _ _ _ h => h) (Or.inl ⟨by rfl, ?_⟩) ?_ ?_
                                                                rotate_left
                                                                · intro w'
                                                                  go_simp
                                                                  with_reducible rfl
                                                                rotate_left
                                                                · simp only [Act.put, List.setIfInBounds_toArray, List.set_cons_zero, List.set_cons_succ, i64_w, i32_w]
                                                                  rfl
                                                                refine pure_ (i := 12) (N := some 277) (v := ?_) (a' := ?_) #[true, true, true, true, true, true, true, true, true, true, true, true, true, false, false, false, false, false, false, false] rfl rfl (any_of HT_.out (by kernel_rfl)) (fun _ _ _ h => h) (Or.inl ⟨by rfl, ?_⟩) ?_ ?_
                                                                rotate_left
                                                                · intro w'
                                                                  go_simp
                                                                  with_reducible rfl
                                                                rotate_left
                                                                · simp only [Act.put, List.setIfInBounds_toArray, List.set_cons_zero, List.set_cons_succ, i64_w, i32_w]
                                                                  rfl
                                                                refine pure_ (i := 14) (N := some 279) (v := ?_) (a' := ?_) #[true, true, true, true, true, true, true, true, true, true, true, true, true, false, true, false, false, false, false, false] rfl rfl (any_of HT_.out (by kernel_rfl)) (fun _ _ _ h => h) (Or.inl ⟨by rfl, ?_⟩) ?_ ?_
                                                                rotate_left
                                                                · intro w'
                                                                  go_simp
                                                                  with_reducible rfl
                                                                rotate_left
                                                                · simp only [Act.put, List.setIfInBounds_toArray, List.set_cons_zero, List.set_cons_succ, i64_w, i32_w]
                                                                  rfl
                                                                refine pure_ (i := 15) (N := some 280) (v := ?_) (a' := ?_) #[true, true, true, true, true, true, true, true, true, true, true, true, true, false, true, true, false, false, false, false] rfl rfl (any_of HT_.out (by kernel_rfl)) (fun _ _ _ h => h) (Or.inl ⟨by rfl, ?_⟩) ?_ ?_
                                                                rotate_left
                                                                · intro w'
                                                                  go_simp
                                                                  with_reducible rfl
                                                                rotate_left
                                                                · simp only [Act.put, List.setIfInBounds_toArray, List.set_cons_zero, List.set_cons_succ, i64_w, i32_w]
                                                                  rfl
                                                                refine pure_ (i := 16) (N := some 281) (v := ?_) (a' := ?_) #[true, true, true, true, true, true, true, true, true, true, true, true, true, false, true, true, true, false, false, false] rfl rfl (any_of HT_.out (by kernel_rfl)) (fun _ _ _ h => h) (Or.inl ⟨by rfl, ?_⟩) ?_ ?_
                                                                rotate_left
                                                                · intro w'
                                                                  go_simp
                                                                  with_reducible rfl
                                                                rotate_left
                                                                · simp only [Act.put, List.setIfInBounds_toArray, List.set_cons_zero, List.set_cons_succ, i64_w, i32_w]
                                                                  rfl
                                                                refine take_ (i := 13) (N := some 278) (v := ?_) (a' := ?_) #[true, true, true, true, true, true, true, true, true, true, true, true, true, true, true, true, true, false, false, false] rfl rfl (take_ofW HT_.out HW_.out (by kernel_rfl)) (fun _ _ _ h => h) (Or.inl ⟨by rfl, ?_⟩) hHeld ?_ ?_
                                                                rotate_left
                                                                · rintro w' ⟨s0, s1⟩
                                                                  (try simp only [add_plain] at s0)
                                                                  (try simp only [add_plain] at s1)
                                                                  go_simp
                                                                  with_reducible rfl
                                                                rotate_left
                                                                · simp only [Act.put, List.setIfInBounds_toArray, List.set_cons_zero, List.set_cons_succ, i64_w, i32_w]
                                                                  rfl
                                                                refine take_ (i := 17) (N := some 282) (v := ?_) (a' := ?_) #[true, true, true, true, true, true, true, true, true, true, true, true, true, true, true, true, true, true, false, false] rfl rfl (take_ofW HT_.out HW_.out (by kernel_rfl)) (fun _ _ _ h => h) (Or.inl ⟨by rfl, ?_⟩) hHeld ?_ ?_
                                                                rotate_left
                                                                · rintro w' ⟨s0, s1⟩
                                                                  (try simp only [add_plain] at s0)
                                                                  (try simp only [add_plain] at s1)
                                                                  go_simp
                                                                  with_reducible rfl
                                                                rotate_left
                                                                · simp only [Act.put, List.setIfInBounds_toArray, List.set_cons_zero, List.set_cons_succ, i64_w, i32_w]
                                                                  rfl
                                                                refine pure_ (i := 18) (N := some 283) (v := ?_) (a' := ?_) #[true, true, true, true, true, true, true, true, true, true, true, true, true, true, true, true, true, true, true, false] rfl rfl (any_of HT_.out (by kernel_rfl)) (fun _ _ _ h => h) (Or.inl ⟨by rfl, ?_⟩) ?_ ?_
                                                                rotate_left
                                                                · intro w'
                                                                  go_simp
                                                                  with_reducible rfl
                                                                rotate_left
                                                                · simp only [Act.put, List.setIfInBounds_toArray, List.set_cons_zero, List.set_cons_succ, i64_w, i32_w]
                                                                  rfl
                                                                refine pure_ (i := 19) (N := some 284) (v := ?_) (a' := ?_) #[true, true, true, true, true, true, true, true, true, true, true, true, true, true, true, true, true, true, true, true] rfl rfl (any_of HT_.out (by kernel_rfl)) (fun _ _ _ h => h) (Or.inl ⟨by rfl, ?_⟩) ?_ ?_
                                                                rotate_left
                                                                · intro w'
                                                                  go_simp
                                                                  with_reducible rfl
                                                                rotate_left
                                                                · simp only [Act.put, List.setIfInBounds_toArray, List.set_cons_zero, List.set_cons_succ, i64_w, i32_w]
                                                                  rfl
                                                                refine done_ (done_of HT_.out (by kernel_rfl)) ?_
                                                                try go_wp2
                                                                go_ret
                                                                exact ⟨by first | rfl | (simp [errW_none, errW_some] <;> rfl) | (simp only [← hji102]; first | rfl | (simp [errW_none, errW_some] <;> rfl)) | (simp [*, errW_none, errW_some] <;> rfl), by repeat (first | (with_reducible first | exact HB.out | apply below_alloc | apply pw_below_drewN | apply below_drew1) | exact HB.out)⟩
                                                            · rw [if_neg c106] at H
                                                              exact absurd H (by simp)
                                                          · rw [if_neg c105] at H
                                                            exact absurd H (by simp)
                                                        · rw [if_neg c104] at H
                                                          exact absurd H (by simp)
                                                      · rw [if_neg c103] at H
                                                        exact absurd H (by simp)
                                                  · rw [if_neg c100] at H
                                                    have c100b0 : ((t542.length : Int) == (t538.length : Int)) = false := beq_eq_false_iff_ne.mpr c100
                                                    have c100b1 : ((t542.length : Int) != (t538.length : Int)) = true := bne_iff_ne.mpr c100
                                                    have c100b2 : (t542.length == t538.length) = false := by first | simpa using c100 | (simp at c100 ⊢; (try clear hji46); (try clear hji46_); (try clear hji46z); (try clear hji46u); (try clear hji46v); (try clear hji46y); (try clear hji46x); (try clear hji46w); (try clear hji48); (try clear hji48_); (try clear hji48z); (try clear hji48u); (try clear hji48v); (try clear hji48y); (try clear hji48x); (try clear hji48w); (try clear hji50); (try clear hji50_); (try clear hji50z); (try clear hji50u); (try clear hji50v); (try clear hji50y); (try clear hji50x); (try clear hji50w); (try clear hji53); (try clear hji53_); (try clear hji53z); (try clear hji53u); (try clear hji53v); (try clear hji53y); (try clear hji53x); (try clear hji53w); (try clear hji55); (try clear hji55_); (try clear hji55z); (try clear hji55u); (try clear hji55v); (try clear hji55y); (try clear hji55x); (try clear hji55w); (try clear hji102); (try clear hji102_); (try clear hji102z); (try clear hji102u); (try clear hji102v); (try clear hji102y); (try clear hji102x); (try clear hji102w); omega)
                                                    obtain rfl := Option.some.inj H
                                                    try go_wp2
                                                    have n0_ := Aside0.mk (Kd.R_drew HO_33.out)
                                                    have n1_ := Aside0.mk (Kd.R_drew HO_35.out)
                                                    have n2_ := Aside0.mk (below_drew1 HB.out)
                                                    clear HO_33
                                                    clear HO_35
                                                    clear HB
                                                    have HO_33 := n0_
                                                    have HO_35 := n1_
                                                    have HB := n2_
                                                    clear n0_ n1_ n2_
                                                    obtain ⟨Ao115, co115, eo115⟩ := Kd.R_slice HO_35.out
                                                    (first | subst eo115 | (injection eo115 with f1_ f2_ f3_; have f4_ := f1_.symm; have f5_ := f3_.symm; clear f1_ f2_ f3_; subst f4_; subst f5_))
                                                    obtain ⟨Ao116, co116, eo116⟩ := Kd.R_slice HO_33.out
                                                    (first | subst eo116 | (injection eo116 with f1_ f2_ f3_; have f4_ := f1_.symm; have f5_ := f3_.symm; clear f1_ f2_ f3_; subst f4_; subst f5_))
                                                    refine start_ (n := 20) (S := fun w' => True) (ds := []) #[false, false, false, false, false, false, false, false, false, false, false, false, false, false, false, false, false, false, false, false] (by kernel_rfl) rfl rfl trivial (fun hHeld => ?_); refine with_tabW neonwrightlaw04_FlashNormal.tab33 neonwrightlaw04_FlashNormal.bits33 (fun HT_ HW_ => ?_)
                                                    generalize wc.drew = w114 at HO_33 HO_35 HB hHeld ⊢
                                                    refine pure_ (i := 0) (N := some 265) (v := ?_) (a' := ?_) #[true, false, false, false, false, false, false, false, false, false, false, false, false, false, false, false, false, false, false, false] rfl rfl (any_of HT_.out (by kernel_rfl)) (fun _ _ _ h => h) (Or.inl ⟨by rfl, ?_⟩) ?_ ?_
                                                    rotate_left
                                                    · intro w'
                                                      go_simp
                                                      with_reducible rfl
                                                    rotate_left
                                                    · simp only [Act.put, List.setIfInBounds_toArray, List.set_cons_zero, List.set_cons_succ, i64_w, i32_w]
                                                      rfl
                                                    refine pure_ (i := 1) (N := some 266) (v := ?_) (a' := ?_) #[true, true, false, false, false, false, false, false, false, false, false, false, false, false, false, false, false, false, false, false] rfl rfl (any_of HT_.out (by kernel_rfl)) (fun _ _ _ h => h) (Or.inl ⟨by rfl, ?_⟩) ?_ ?_
                                                    rotate_left
                                                    · intro w'
                                                      go_simp
                                                      with_reducible rfl
                                                    rotate_left
                                                    · simp only [Act.put, List.setIfInBounds_toArray, List.set_cons_zero, List.set_cons_succ, i64_w, i32_w]
                                                      rfl
                                                    refine pure_ (i := 2) (N := some 267) (v := ?_) (a' := ?_) #[true, true, true, false, false, false, false, false, false, false, false, false, false, false, false, false, false, false, false, false] rfl rfl (any_of HT_.out (by kernel_rfl)) (fun _ _ _ h => h) (Or.inl ⟨by rfl, ?_⟩) ?_ ?_
                                                    rotate_left
                                                    · intro w'
                                                      go_simp
                                                      with_reducible rfl
                                                    rotate_left
                                                    · simp only [Act.put, List.setIfInBounds_toArray, List.set_cons_zero, List.set_cons_succ, i64_w, i32_w]
                                                      rfl
                                                    refine pure_ (i := 3) (N := some 268) (v := ?_) (a' := ?_) #[true, true, true, true, false, false, false, false, false, false, false, false, false, false, false, false, false, false, false, false] rfl rfl (any_of HT_.out (by kernel_rfl)) (fun _ _ _ h => h) (Or.inl ⟨by rfl, ?_⟩) ?_ ?_
                                                    rotate_left
                                                    · intro w'
                                                      go_simp
                                                      with_reducible rfl
                                                    rotate_left
                                                    · simp only [Act.put, List.setIfInBounds_toArray, List.set_cons_zero, List.set_cons_succ, i64_w, i32_w]
                                                      rfl
                                                    refine pure_ (i := 4) (N := some 269) (v := ?_) (a' := ?_) #[true, true, true, true, true, false, false, false, false, false, false, false, false, false, false, false, false, false, false, false] rfl rfl (any_of HT_.out (by kernel_rfl)) (fun _ _ _ h => h) (Or.inl ⟨by rfl, ?_⟩) ?_ ?_
                                                    rotate_left
                                                    · intro w'
                                                      go_simp
                                                      with_reducible rfl
                                                    rotate_left
                                                    · simp only [Act.put, List.setIfInBounds_toArray, List.set_cons_zero, List.set_cons_succ, i64_w, i32_w]
                                                      rfl
                                                    refine pure_ (i := 5) (N := some 270) (v := ?_) (a' := ?_) #[true, true, true, true, true, true, false, false, false, false, false, false, false, false, false, false, false, false, false, false] rfl rfl (any_of HT_.out (by kernel_rfl)) (fun _ _ _ h => h) (Or.inl ⟨by rfl, ?_⟩) ?_ ?_
                                                    rotate_left
                                                    · intro w'
                                                      go_simp
                                                      with_reducible rfl
                                                    rotate_left
                                                    · simp only [Act.put, List.setIfInBounds_toArray, List.set_cons_zero, List.set_cons_succ, i64_w, i32_w]
                                                      rfl
                                                    refine pure_ (i := 6) (N := some 271) (v := undef) (a' := ?_) #[true, true, true, true, true, true, true, false, false, false, false, false, false, false, false, false, false, false, false, false] rfl rfl (any_of HT_.out (by kernel_rfl)) (fun _ _ _ h => h) (Or.inr ⟨by rfl, rfl⟩) ?_ ?_
                                                    rotate_left
                                                    · simp only [Act.put, List.setIfInBounds_toArray, List.set_cons_zero, List.set_cons_succ, i64_w, i32_w]
                                                      rfl
                                                    refine pure_ (i := 7) (N := some 272) (v := undef) (a' := ?_) #[true, true, true, true, true, true, true, true, false, false, false, false, false, false, false, false, false, false, false, false] rfl rfl (any_of HT_.out (by kernel_rfl)) (fun _ _ _ h => h) (Or.inr ⟨by rfl, rfl⟩) ?_ ?_
                                                    rotate_left
                                                    · simp only [Act.put, List.setIfInBounds_toArray, List.set_cons_zero, List.set_cons_succ, i64_w, i32_w]
                                                      rfl
                                                    refine pure_ (i := 8) (N := some 273) (v := undef) (a' := ?_) #[true, true, true, true, true, true, true, true, true, false, false, false, false, false, false, false, false, false, false, false] rfl rfl (any_of HT_.out (by kernel_rfl)) (fun _ _ _ h => h) (Or.inr ⟨by rfl, rfl⟩) ?_ ?_
                                                    rotate_left
                                                    · simp only [Act.put, List.setIfInBounds_toArray, List.set_cons_zero, List.set_cons_succ, i64_w, i32_w]
                                                      rfl
                                                    refine pure_ (i := 9) (N := some 274) (v := undef) (a' := ?_) #[true, true, true, true, true, true, true, true, true, true, false, false, false, false, false, false, false, false, false, false] rfl rfl (any_of HT_.out (by kernel_rfl)) (fun _ _ _ h => h) (Or.inr ⟨by rfl, rfl⟩) ?_ ?_
                                                    rotate_left
                                                    · simp only [Act.put, List.setIfInBounds_toArray, List.set_cons_zero, List.set_cons_succ, i64_w, i32_w]
                                                      rfl
                                                    refine pure_ (i := 10) (N := some 275) (v := undef) (a' := ?_) #[true, true, true, true, true, true, true, true, true, true, true, false, false, false, false, false, false, false, false, false] rfl rfl (any_of HT_.out (by kernel_rfl)) (fun _ _ _ h => h) (Or.inr ⟨by rfl, rfl⟩) ?_ ?_
                                                    rotate_left
                                                    · simp only [Act.put, List.setIfInBounds_toArray, List.set_cons_zero, List.set_cons_succ, i64_w, i32_w]
                                                      rfl
                                                    refine pure_ (i := 11) (N := some 276) (v := undef) (a' := ?_) #[true, true, true, true, true, true, true, true, true, true, true, true, false, false, false, false, false, false, false, false] rfl rfl (any_of HT_.out (by kernel_rfl)) (fun _ _ _ h => h) (Or.inr ⟨by rfl, rfl⟩) ?_ ?_
                                                    rotate_left
                                                    · simp only [Act.put, List.setIfInBounds_toArray, List.set_cons_zero, List.set_cons_succ, i64_w, i32_w]
                                                      rfl
                                                    refine pure_ (i := 12) (N := some 277) (v := undef) (a' := ?_) #[true, true, true, true, true, true, true, true, true, true, true, true, true, false, false, false, false, false, false, false] rfl rfl (any_of HT_.out (by kernel_rfl)) (fun _ _ _ h => h) (Or.inr ⟨by rfl, rfl⟩) ?_ ?_
                                                    rotate_left
                                                    · simp only [Act.put, List.setIfInBounds_toArray, List.set_cons_zero, List.set_cons_succ, i64_w, i32_w]
                                                      rfl
                                                    refine pure_ (i := 13) (N := some 278) (v := undef) (a' := ?_) #[true, true, true, true, true, true, true, true, true, true, true, true, true, true, false, false, false, false, false, false] rfl rfl (any_of HT_.out (by kernel_rfl)) (fun _ _ _ h => h) (Or.inr ⟨by rfl, rfl⟩) ?_ ?_
                                                    rotate_left
                                                    · simp only [Act.put, List.setIfInBounds_toArray, List.set_cons_zero, List.set_cons_succ, i64_w, i32_w]
                                                      rfl
                                                    refine pure_ (i := 14) (N := some 279) (v := undef) (a' := ?_) #[true, true, true, true, true, true, true, true, true, true, true, true, true, true, true, false, false, false, false, false] rfl rfl (any_of HT_.out (by kernel_rfl)) (fun _ _ _ h => h) (Or.inr ⟨by rfl, rfl⟩) ?_ ?_
                                                    rotate_left
                                                    · simp only [Act.put, List.setIfInBounds_toArray, List.set_cons_zero, List.set_cons_succ, i64_w, i32_w]
                                                      rfl
                                                    refine pure_ (i := 15) (N := some 280) (v := undef) (a' := ?_) #[true, true, true, true, true, true, true, true, true, true, true, true, true, true, true, true, false, false, false, false] rfl rfl (any_of HT_.out (by kernel_rfl)) (fun _ _ _ h => h) (Or.inr ⟨by rfl, rfl⟩) ?_ ?_
                                                    rotate_left
                                                    · simp only [Act.put, List.setIfInBounds_toArray, List.set_cons_zero, List.set_cons_succ, i64_w, i32_w]
                                                      rfl
                                                    refine pure_ (i := 16) (N := some 281) (v := undef) (a' := ?_) #[true, true, true, true, true, true, true, true, true, true, true, true, true, true, true, true, true, false, false, false] rfl rfl (any_of HT_.out (by kernel_rfl)) (fun _ _ _ h => h) (Or.inr ⟨by rfl, rfl⟩) ?_ ?_
                                                    rotate_left
                                                    · simp only [Act.put, List.setIfInBounds_toArray, List.set_cons_zero, List.set_cons_succ, i64_w, i32_w]
                                                      rfl
                                                    refine pure_ (i := 17) (N := some 282) (v := undef) (a' := ?_) #[true, true, true, true, true, true, true, true, true, true, true, true, true, true, true, true, true, true, false, false] rfl rfl (any_of HT_.out (by kernel_rfl)) (fun _ _ _ h => h) (Or.inr ⟨by rfl, rfl⟩) ?_ ?_
                                                    rotate_left
                                                    · simp only [Act.put, List.setIfInBounds_toArray, List.set_cons_zero, List.set_cons_succ, i64_w, i32_w]
                                                      rfl
                                                    refine pure_ (i := 18) (N := some 283) (v := undef) (a' := ?_) #[true, true, true, true, true, true, true, true, true, true, true, true, true, true, true, true, true, true, true, false] rfl rfl (any_of HT_.out (by kernel_rfl)) (fun _ _ _ h => h) (Or.inr ⟨by rfl, rfl⟩) ?_ ?_
                                                    rotate_left
                                                    · simp only [Act.put, List.setIfInBounds_toArray, List.set_cons_zero, List.set_cons_succ, i64_w, i32_w]
                                                      rfl
                                                    refine pure_ (i := 19) (N := some 284) (v := ?_) (a' := ?_) #[true, true, true, true, true, true, true, true, true, true, true, true, true, true, true, true, true, true, true, true] rfl rfl (any_of HT_.out (by kernel_rfl)) (fun _ _ _ h => h) (Or.inl ⟨by rfl, ?_⟩) ?_ ?_
                                                    rotate_left
                                                    · intro w'
                                                      go_simp
                                                      with_reducible rfl
                                                    rotate_left
                                                    · simp only [Act.put, List.setIfInBounds_toArray, List.set_cons_zero, List.set_cons_succ, i64_w, i32_w]
                                                      rfl
                                                    refine done_ (done_of HT_.out (by kernel_rfl)) ?_
                                                    try go_wp2
                                                    go_ret
                                                    exact ⟨by first | rfl | (simp [errW_none, errW_some] <;> rfl) | (simp [*, errW_none, errW_some] <;> rfl), by repeat (first | (with_reducible first | exact HB.out | apply below_alloc | apply pw_below_drewN | apply below_drew1) | exact HB.out)⟩
                                                · replace c99 := Bool.eq_false_iff.mpr c99
                                                  subst c99
                                                  have H1 : ((neonwrightlaw04_alive.f kj94).bind fun t548 => (some t548)) = some r := by rw [if_neg (show ¬ (false = true) by decide)] at H; exact H
                                                  clear H
                                                  have H := H1
                                                  clear H1
                                                  replace H := Option.bind_eq_some_iff.mp H
                                                  obtain ⟨t548, A1170, H⟩ := H
                                                  replace H : (some t548) = some r := H
                                                  have A117 := Aside0.mk A1170
                                                  clear A1170
                                                  obtain rfl := Option.some.inj H
                                                  go_wp2_with (first | ((with_reducible refine gate_callee (f := 20) rfl ?_); refine goesL_ (some 285) rfl rfl Try.func20 (by kernel_rfl) rfl #[] rfl (by (try simp only [List.map_toArray, List.map_cons, List.map_nil]); first | done | rfl | (simp only [List.length_drop, List.length_take]; rfl)) ?_; (with_reducible refine (neonwrightlaw04_alive.calls kj94  t548 _ A117.out).mono ?_); rintro e w118 ⟨rfl, hb⟩; refine ⟨_, rfl, ?_⟩; have n0_ := Aside0.mk (Kd.R_below (by (with_reducible repeat (first | apply Kd.R_alloc | apply Kd.R_drewN | apply Kd.R_drew)); exact HO_33.out) hb); have n1_ := Aside0.mk (Kd.R_below (by (with_reducible repeat (first | apply Kd.R_alloc | apply Kd.R_drewN | apply Kd.R_drew)); exact HO_35.out) hb); have n2_ := Aside0.mk (below_step (by repeat (first | (with_reducible first | exact HB.out | apply below_alloc | apply pw_below_drewN | apply below_drew1) | exact HB.out)) hb); clear HO_33; clear HO_35; clear HB; have HO_33 := n0_; have HO_35 := n1_; have HB := n2_; clear n0_ n1_ n2_; (try clear hb); (try clear hb2); (try clear hk); (try clear hi)))
                                                  go_ret
                                                  exact ⟨by first | rfl | (simp [errW_none, errW_some] <;> rfl) | (simp [*, errW_none, errW_some] <;> rfl), by repeat (first | (with_reducible first | exact HB.out | apply below_alloc | apply pw_below_drewN | apply below_drew1) | exact HB.out)⟩

/-- THE ONE PURE STATEMENT of neonwrightlaw04_FlashNormal: yours. -/
def neonwrightlaw04_FlashNormal.Pure : Prop := ∀ (a0 : Int) (l1 : List Int) (l2 : List Int) (a3 : Int) (a4 : Int), (Lit.int .i64 a0).wf = true → l1.length ≤ maxLen → l1.length * 8 ≤ 140737488351232 → (∀ x ∈ l1, (Lit.int .i64 x).wf = true) → l2.length ≤ maxLen → l2.length * 8 ≤ 140737488351232 → (∀ x ∈ l2, (Lit.int .i64 x).wf = true) → (Lit.int .u16 a3).wf = true → (Lit.int .u8 a4).wf = true → ∃ k, neonwrightlaw04_FlashNormal.f k a0 l1 l2 a3 a4 = some true
theorem neonwrightlaw04_FlashNormal.walk (P : neonwrightlaw04_FlashNormal.Pure) (a0 : Int) (a1 : Option Addr) (len1 cap1 : Nat) (z1 : List Int) (a2 : Option Addr) (len2 cap2 : Nat) (z2 : List Int) (a3 : Int) (a4 : Int) (w : World) (w0 : (Lit.int .i64 a0).wf = true) (w1 : (a1 = none ∧ len1 = 0 ∧ cap1 = 0 ∧ z1 = []) ∨ ∃ x, a1 = some x ∧ len1 ≤ cap1 ∧ cap1 ≤ maxLen ∧ z1.length = cap1 ∧ (∀ i, i < z1.length → w.cell? (x.add i) = some (.int .i64 (z1.getD i 0))) ∧ ∀ n ∈ z1, (Lit.int .i64 n).wf = true) (y1 : len1 * 8 ≤ 140737488351232) (w2 : (a2 = none ∧ len2 = 0 ∧ cap2 = 0 ∧ z2 = []) ∨ ∃ x, a2 = some x ∧ len2 ≤ cap2 ∧ cap2 ≤ maxLen ∧ z2.length = cap2 ∧ (∀ i, i < z2.length → w.cell? (x.add i) = some (.int .i64 (z2.getD i 0))) ∧ ∀ n ∈ z2, (Lit.int .i64 n).wf = true) (y2 : len2 * 8 ≤ 140737488351232) (w3 : (Lit.int .u16 a3).wf = true) (w4 : (Lit.int .u8 a4).wf = true) :
    Calls Try.prog 14 #[.int .i64 a0, .slice a1 len1 cap1, .slice a2 len2 cap2, .int .u16 a3, .int .u8 a4] w fun e w' => e = .returned (.bool true) ∧ Below w.heap.size w w' := by
  obtain ⟨l1, rfl, hr1, hm1, hw1, hc1⟩ := ReadsInt.ofRowC w1
  obtain ⟨l2, rfl, hr2, hm2, hw2, hc2⟩ := ReadsInt.ofRowC w2
  obtain ⟨k, h⟩ := P a0 l1 l2 a3 a4 w0 hm1 y1 hw1 hm2 y2 hw2 w3 w4
  refine (neonwrightlaw04_FlashNormal.calls k a0 _ _ l1 _ _ l2 a3 a4 true w (Kd.C_of_reads (d := (0 : Int)) (h1 := fun _ => rfl) hr1) hc1 (Kd.C_of_reads (d := (0 : Int)) (h1 := fun _ => rfl) hr2) hc2 h).mono ?_
  rintro e w' ⟨rfl, hd⟩
  exact ⟨rfl, hd⟩

end Go.Proofs.Ytnakkdaeehglnaa.P
