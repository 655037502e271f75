-- Written by a program of this session (myprint.py, over the kit's print). Not trusted: Lean checks it.
import Derived.Test.YtgchhheajngbfaaPt
import Derived.Test.YtgchhheajngbfaaPf18
import Derived.Test.YtgchhheajngbfaaPf19
import Derived.Test.YtgchhheajngbfaaPf21
import Derived.Test.YtgchhheajngbfaaPf23
namespace Go.Proofs.Ytgchhheajngbfaa.P
open Go.RowKit Go.Proofs.YtgchhheajngbfaaW.PrintWords Go.Proofs.YtgchhheajngbfaaW.PrintLast Go.Proofs.YtgchhheajngbfaaW.PrintMore
attribute [local go_sem] max2_int min2_int max_two min_two max_three min_three max_four min_four   -- for this text's walks alone
set_option linter.unusedVariables false
set_option linter.unusedSimpArgs false

/-! ### neonwrightlaw03_CodeDark: function 5 -/
mutual
def neonwrightlaw03_CodeDark.j0 : Nat → Int → Int → Int → Int → Bool → Option (Bool)
  | 0, _, _, _, _, _ => none
  | k + 1, x3, x9, x10, x12, x75 => if x75 = true then (some false) else ((code_Decode.f x9 x12).bind fun bt215 => (if bt215.2.2 = 0 then (if bt215.2.1 = true then (neonwrightlaw03_CodeDark.j1 k x3 x9 x12 (bt215.1 != x10)) else (neonwrightlaw03_CodeDark.j1 k x3 x9 x12 true)) else (neonwrightlaw03_CodeDark.j1 k x3 x9 x12 true)))
def neonwrightlaw03_CodeDark.j1 : Nat → Int → Int → Int → Bool → Option (Bool)
  | 0, _, _, _, _ => none
  | k + 1, x3, x9, x12, x93 => if x93 = true then (some false) else ((code_Decode.f x9 (Go.bits .andNot .i64 x12 (wrap64 (x3)))).bind fun bt218 => (if bt218.2.2 = 0 then (if 0 ≤ x9 then (if (shl .i64 1 x9) = 0 then (none) else (if bt218.1 = (Int.tmod (Go.bits .andNot .i64 x12 (wrap64 (x3))) (shl .i64 1 x9)) then (if (bt218.2.1 == ((Go.bits .andNot .i64 x12 (wrap64 (x3))) == x12)) = true then ((neonwrightlaw03_alive.f k).bind fun t221 => (some t221)) else (some false)) else (some false))) else (none)) else (some false)))
end
def neonwrightlaw03_CodeDark.f (k : Nat) (a0 : Int) (a1 : Int) (a2 : Int) (a3 : Int) : Option (Bool) := if 0 ≤ (wrap64 (1 + (wrap64 (Int.tmod a0 12)))) then (if (shl .i64 1 (wrap64 (1 + (wrap64 (Int.tmod a0 12))))) = 0 then (none) else ((code_Berger.f (wrap64 (1 + (wrap64 (Int.tmod a0 12)))) (Int.tmod (wrap64 (a1)) (shl .i64 1 (wrap64 (1 + (wrap64 (Int.tmod a0 12))))))).bind fun bt209 => ((code_Berger.f (wrap64 (1 + (wrap64 (Int.tmod a0 12)))) (Int.tmod (wrap64 (a2)) (shl .i64 1 (wrap64 (1 + (wrap64 (Int.tmod a0 12))))))).bind fun bt211 => (if bt209.2 = 0 then (if bt211.2 = 0 then (if (Int.tmod (wrap64 (a1)) (shl .i64 1 (wrap64 (1 + (wrap64 (Int.tmod a0 12)))))) = (Int.tmod (wrap64 (a2)) (shl .i64 1 (wrap64 (1 + (wrap64 (Int.tmod a0 12)))))) then (neonwrightlaw03_CodeDark.j0 k a3 (wrap64 (1 + (wrap64 (Int.tmod a0 12)))) (Int.tmod (wrap64 (a1)) (shl .i64 1 (wrap64 (1 + (wrap64 (Int.tmod a0 12)))))) bt209.1 (bt209.1 != bt211.1)) else ((neonwrightref03_Covers.f bt209.1 bt211.1).bind fun t213 => (if t213 = true then (neonwrightlaw03_CodeDark.j0 k a3 (wrap64 (1 + (wrap64 (Int.tmod a0 12)))) (Int.tmod (wrap64 (a1)) (shl .i64 1 (wrap64 (1 + (wrap64 (Int.tmod a0 12)))))) bt209.1 true) else ((neonwrightref03_Covers.f bt211.1 bt209.1).bind fun t214 => (if t214 = true then (neonwrightlaw03_CodeDark.j0 k a3 (wrap64 (1 + (wrap64 (Int.tmod a0 12)))) (Int.tmod (wrap64 (a1)) (shl .i64 1 (wrap64 (1 + (wrap64 (Int.tmod a0 12)))))) bt209.1 true) else (neonwrightlaw03_CodeDark.j0 k a3 (wrap64 (1 + (wrap64 (Int.tmod a0 12)))) (Int.tmod (wrap64 (a1)) (shl .i64 1 (wrap64 (1 + (wrap64 (Int.tmod a0 12)))))) bt209.1 false)))))) else (neonwrightlaw03_CodeDark.j0 k a3 (wrap64 (1 + (wrap64 (Int.tmod a0 12)))) (Int.tmod (wrap64 (a1)) (shl .i64 1 (wrap64 (1 + (wrap64 (Int.tmod a0 12)))))) bt209.1 true)) else (neonwrightlaw03_CodeDark.j0 k a3 (wrap64 (1 + (wrap64 (Int.tmod a0 12)))) (Int.tmod (wrap64 (a1)) (shl .i64 1 (wrap64 (1 + (wrap64 (Int.tmod a0 12)))))) bt209.1 true))))) else (none)
theorem neonwrightlaw03_CodeDark.mono_l : ∀ k, (∀ y0 y1 y2 y3 y4, LeO (neonwrightlaw03_CodeDark.j0 k y0 y1 y2 y3 y4) (neonwrightlaw03_CodeDark.j0 (k + 1) y0 y1 y2 y3 y4)) ∧ (∀ y0 y1 y2 y3, LeO (neonwrightlaw03_CodeDark.j1 k y0 y1 y2 y3) (neonwrightlaw03_CodeDark.j1 (k + 1) y0 y1 y2 y3))
  | 0 => ⟨fun _ _ _ _ _ r h => by simp [neonwrightlaw03_CodeDark.j0] at h, fun _ _ _ _ r h => by simp [neonwrightlaw03_CodeDark.j1] at h⟩
  | k + 1 => by
    obtain ⟨ih0, ih1⟩ := neonwrightlaw03_CodeDark.mono_l k
    refine ⟨?_, ?_⟩
    · intro y0 y1 y2 y3 y4
      unfold neonwrightlaw03_CodeDark.j0
      repeat' first
      | (with_reducible exact ih0 _ _ _ _ _)
      | (with_reducible exact ih1 _ _ _ _)
      | (with_reducible exact neonwrightlaw03_alive.mono _)
      | (with_reducible exact LeO.refl _)
      | (with_reducible exact LeO.none _)
      | (with_reducible refine LeO.ite ?_ ?_)
      | (with_reducible refine LeO.bind ?_ (fun _ => ?_))
      | exact ih0 _ _ _ _ _
      | exact ih1 _ _ _ _
      | exact neonwrightlaw03_alive.mono _
      | exact LeO.none _
      | refine LeO.ite ?_ ?_
      | refine LeO.bind ?_ (fun _ => ?_)
    · intro y0 y1 y2 y3
      unfold neonwrightlaw03_CodeDark.j1
      repeat' first
      | (with_reducible exact ih0 _ _ _ _ _)
      | (with_reducible exact ih1 _ _ _ _)
      | (with_reducible exact neonwrightlaw03_alive.mono _)
      | (with_reducible exact LeO.refl _)
      | (with_reducible exact LeO.none _)
      | (with_reducible refine LeO.ite ?_ ?_)
      | (with_reducible refine LeO.bind ?_ (fun _ => ?_))
      | exact ih0 _ _ _ _ _
      | exact ih1 _ _ _ _
      | exact neonwrightlaw03_alive.mono _
      | exact LeO.none _
      | refine LeO.ite ?_ ?_
      | refine LeO.bind ?_ (fun _ => ?_)
theorem neonwrightlaw03_CodeDark.mono : ∀ a0 a1 a2 a3 k, LeO (neonwrightlaw03_CodeDark.f k a0 a1 a2 a3) (neonwrightlaw03_CodeDark.f (k + 1) a0 a1 a2 a3) := by
  intro a0 a1 a2 a3 k
  obtain ⟨ih0, ih1⟩ := neonwrightlaw03_CodeDark.mono_l k
  unfold neonwrightlaw03_CodeDark.f
  repeat' first
      | (with_reducible exact ih0 _ _ _ _ _)
      | (with_reducible exact ih1 _ _ _ _)
      | (with_reducible exact neonwrightlaw03_alive.mono _)
      | (with_reducible exact LeO.refl _)
      | (with_reducible exact LeO.none _)
      | (with_reducible refine LeO.ite ?_ ?_)
      | (with_reducible refine LeO.bind ?_ (fun _ => ?_))
      | exact ih0 _ _ _ _ _
      | exact ih1 _ _ _ _
      | exact neonwrightlaw03_alive.mono _
      | exact LeO.none _
      | refine LeO.ite ?_ ?_
      | refine LeO.bind ?_ (fun _ => ?_)
set_option maxHeartbeats 8000000 in
set_option maxRecDepth 100000 in
theorem neonwrightlaw03_CodeDark.calls (k : Nat) (a0 : Int) (a1 : Int) (a2 : Int) (a3 : Int) (r : Bool) (w : World) (h : neonwrightlaw03_CodeDark.f k a0 a1 a2 a3 = some r) :
    Calls Try.prog 5 #[.int .u8 a0, .int .u16 a1, .int .u16 a2, .int .u16 a3] w fun e w' => e = .returned (.bool r) ∧ Below w.heap.size w w' := by
  have HB := Aside0.mk (Below.refl w.heap.size w)
  have H : (if 0 ≤ (wrap64 (1 + (wrap64 (Int.tmod a0 12)))) then (if (shl .i64 1 (wrap64 (1 + (wrap64 (Int.tmod a0 12))))) = 0 then (none) else ((code_Berger.f (wrap64 (1 + (wrap64 (Int.tmod a0 12)))) (Int.tmod (wrap64 (a1)) (shl .i64 1 (wrap64 (1 + (wrap64 (Int.tmod a0 12))))))).bind fun bt209 => ((code_Berger.f (wrap64 (1 + (wrap64 (Int.tmod a0 12)))) (Int.tmod (wrap64 (a2)) (shl .i64 1 (wrap64 (1 + (wrap64 (Int.tmod a0 12))))))).bind fun bt211 => (if bt209.2 = 0 then (if bt211.2 = 0 then (if (Int.tmod (wrap64 (a1)) (shl .i64 1 (wrap64 (1 + (wrap64 (Int.tmod a0 12)))))) = (Int.tmod (wrap64 (a2)) (shl .i64 1 (wrap64 (1 + (wrap64 (Int.tmod a0 12)))))) then (neonwrightlaw03_CodeDark.j0 k a3 (wrap64 (1 + (wrap64 (Int.tmod a0 12)))) (Int.tmod (wrap64 (a1)) (shl .i64 1 (wrap64 (1 + (wrap64 (Int.tmod a0 12)))))) bt209.1 (bt209.1 != bt211.1)) else ((neonwrightref03_Covers.f bt209.1 bt211.1).bind fun t213 => (if t213 = true then (neonwrightlaw03_CodeDark.j0 k a3 (wrap64 (1 + (wrap64 (Int.tmod a0 12)))) (Int.tmod (wrap64 (a1)) (shl .i64 1 (wrap64 (1 + (wrap64 (Int.tmod a0 12)))))) bt209.1 true) else ((neonwrightref03_Covers.f bt211.1 bt209.1).bind fun t214 => (if t214 = true then (neonwrightlaw03_CodeDark.j0 k a3 (wrap64 (1 + (wrap64 (Int.tmod a0 12)))) (Int.tmod (wrap64 (a1)) (shl .i64 1 (wrap64 (1 + (wrap64 (Int.tmod a0 12)))))) bt209.1 true) else (neonwrightlaw03_CodeDark.j0 k a3 (wrap64 (1 + (wrap64 (Int.tmod a0 12)))) (Int.tmod (wrap64 (a1)) (shl .i64 1 (wrap64 (1 + (wrap64 (Int.tmod a0 12)))))) bt209.1 false)))))) else (neonwrightlaw03_CodeDark.j0 k a3 (wrap64 (1 + (wrap64 (Int.tmod a0 12)))) (Int.tmod (wrap64 (a1)) (shl .i64 1 (wrap64 (1 + (wrap64 (Int.tmod a0 12)))))) bt209.1 true)) else (neonwrightlaw03_CodeDark.j0 k a3 (wrap64 (1 + (wrap64 (Int.tmod a0 12)))) (Int.tmod (wrap64 (a1)) (shl .i64 1 (wrap64 (1 + (wrap64 (Int.tmod a0 12)))))) bt209.1 true))))) else (none)) = some r := h
  clear h
  obtain ⟨ji5, hji5⟩ : ∃ j_ : Int, (wrap64 (1 + (wrap64 (Int.tmod a0 12)))) = j_ := ⟨_, rfl⟩
  replace H : (if 0 ≤ (ji5) then (if (shl .i64 1 (ji5)) = 0 then (none) else ((code_Berger.f (ji5) (Int.tmod (wrap64 (a1)) (shl .i64 1 (ji5)))).bind fun bt209 => ((code_Berger.f (ji5) (Int.tmod (wrap64 (a2)) (shl .i64 1 (ji5)))).bind fun bt211 => (if bt209.2 = 0 then (if bt211.2 = 0 then (if (Int.tmod (wrap64 (a1)) (shl .i64 1 (ji5))) = (Int.tmod (wrap64 (a2)) (shl .i64 1 (ji5))) then (neonwrightlaw03_CodeDark.j0 k a3 ji5 (Int.tmod (wrap64 (a1)) (shl .i64 1 (ji5))) bt209.1 (bt209.1 != bt211.1)) else ((neonwrightref03_Covers.f bt209.1 bt211.1).bind fun t213 => (if t213 = true then (neonwrightlaw03_CodeDark.j0 k a3 ji5 (Int.tmod (wrap64 (a1)) (shl .i64 1 (ji5))) bt209.1 true) else ((neonwrightref03_Covers.f bt211.1 bt209.1).bind fun t214 => (if t214 = true then (neonwrightlaw03_CodeDark.j0 k a3 ji5 (Int.tmod (wrap64 (a1)) (shl .i64 1 (ji5))) bt209.1 true) else (neonwrightlaw03_CodeDark.j0 k a3 ji5 (Int.tmod (wrap64 (a1)) (shl .i64 1 (ji5))) bt209.1 false)))))) else (neonwrightlaw03_CodeDark.j0 k a3 ji5 (Int.tmod (wrap64 (a1)) (shl .i64 1 (ji5))) bt209.1 true)) else (neonwrightlaw03_CodeDark.j0 k a3 ji5 (Int.tmod (wrap64 (a1)) (shl .i64 1 (ji5))) bt209.1 true))))) else (none)) = some r := by first | (rw [hji5] at H; exact H) | (simp only [hji5] at H ⊢; exact H)
  have hji5w : (IntKind.i64.wrap (1 + (wrap64 (Int.tmod a0 12)))) = ji5 := (i64_w _).trans hji5
  by_cases c6 : 0 ≤ (ji5)
  · rw [if_pos c6] at H
    have c6b0 := eq_true c6
    have c6b1 : decide (0 ≤ (ji5)) = true := decide_eq_true c6
    clear c6
    obtain ⟨ji7, hji7⟩ : ∃ j_ : Int, (shl .i64 1 (ji5)) = j_ := ⟨_, rfl⟩
    replace H : (if (ji7) = 0 then (none) else ((code_Berger.f (ji5) (Int.tmod (wrap64 (a1)) (ji7))).bind fun bt209 => ((code_Berger.f (ji5) (Int.tmod (wrap64 (a2)) (ji7))).bind fun bt211 => (if bt209.2 = 0 then (if bt211.2 = 0 then (if (Int.tmod (wrap64 (a1)) (ji7)) = (Int.tmod (wrap64 (a2)) (ji7)) then (neonwrightlaw03_CodeDark.j0 k a3 ji5 (Int.tmod (wrap64 (a1)) (ji7)) bt209.1 (bt209.1 != bt211.1)) else ((neonwrightref03_Covers.f bt209.1 bt211.1).bind fun t213 => (if t213 = true then (neonwrightlaw03_CodeDark.j0 k a3 ji5 (Int.tmod (wrap64 (a1)) (ji7)) bt209.1 true) else ((neonwrightref03_Covers.f bt211.1 bt209.1).bind fun t214 => (if t214 = true then (neonwrightlaw03_CodeDark.j0 k a3 ji5 (Int.tmod (wrap64 (a1)) (ji7)) bt209.1 true) else (neonwrightlaw03_CodeDark.j0 k a3 ji5 (Int.tmod (wrap64 (a1)) (ji7)) bt209.1 false)))))) else (neonwrightlaw03_CodeDark.j0 k a3 ji5 (Int.tmod (wrap64 (a1)) (ji7)) bt209.1 true)) else (neonwrightlaw03_CodeDark.j0 k a3 ji5 (Int.tmod (wrap64 (a1)) (ji7)) bt209.1 true))))) = some r := by first | (rw [hji7] at H; exact H) | (simp only [hji7] at H ⊢; exact H)
    have hji7_ : (IntKind.i64.wrap (1 * 2 ^ min (ji5).toNat 64)) = ji7 := hji7
    have hji7z : (ji5) ≤ 64 → (IntKind.i64.wrap (1 * 2 ^ (ji5).toNat)) = ji7 := shl_small hji7
    have hji7u : (IntKind.i64.wrap (2 ^ min (ji5).toNat 64)) = ji7 := by have h_ := hji7_; rw [Int.one_mul] at h_; exact h_
    have hji7v : (ji5) ≤ 64 → (IntKind.i64.wrap (2 ^ (ji5).toNat)) = ji7 := fun hle_ => by have h_ := hji7z hle_; rw [Int.one_mul] at h_; exact h_
    have hji7y : (wrap64 (1 * 2 ^ min (ji5).toNat 64)) = ji7 := (i64_w _).symm.trans hji7_
    have hji7x : (ji5) ≤ 64 → (wrap64 (1 * 2 ^ (ji5).toNat)) = ji7 := fun h_ => (i64_w _).symm.trans (hji7z h_)
    by_cases c8 : (ji7) = 0
    · rw [if_pos c8] at H
      exact absurd H (by simp)
    · rw [if_neg c8] at H
      have c8b0 : ((ji7) == 0) = false := beq_eq_false_iff_ne.mpr c8
      have c8b1 : ((ji7) != 0) = true := bne_iff_ne.mpr c8
      have c9b0 := eq_true (of_decide_eq_true (by first | (with_reducible assumption) | assumption) : 0 ≤ (ji5))
      replace H := Option.bind_eq_some_iff.mp H
      obtain ⟨⟨t209, t210⟩, A110, H⟩ := H
      replace H : ((code_Berger.f (ji5) (Int.tmod (wrap64 (a2)) (ji7))).bind fun bt211 => (if t210 = 0 then (if bt211.2 = 0 then (if (Int.tmod (wrap64 (a1)) (ji7)) = (Int.tmod (wrap64 (a2)) (ji7)) then (neonwrightlaw03_CodeDark.j0 k a3 ji5 (Int.tmod (wrap64 (a1)) (ji7)) t209 (t209 != bt211.1)) else ((neonwrightref03_Covers.f t209 bt211.1).bind fun t213 => (if t213 = true then (neonwrightlaw03_CodeDark.j0 k a3 ji5 (Int.tmod (wrap64 (a1)) (ji7)) t209 true) else ((neonwrightref03_Covers.f bt211.1 t209).bind fun t214 => (if t214 = true then (neonwrightlaw03_CodeDark.j0 k a3 ji5 (Int.tmod (wrap64 (a1)) (ji7)) t209 true) else (neonwrightlaw03_CodeDark.j0 k a3 ji5 (Int.tmod (wrap64 (a1)) (ji7)) t209 false)))))) else (neonwrightlaw03_CodeDark.j0 k a3 ji5 (Int.tmod (wrap64 (a1)) (ji7)) t209 true)) else (neonwrightlaw03_CodeDark.j0 k a3 ji5 (Int.tmod (wrap64 (a1)) (ji7)) t209 true))) = some r := H
      have A11 := Aside0.mk A110
      clear A110
      replace H := Option.bind_eq_some_iff.mp H
      obtain ⟨⟨t211, t212⟩, A120, H⟩ := H
      replace H : (if t210 = 0 then (if t212 = 0 then (if (Int.tmod (wrap64 (a1)) (ji7)) = (Int.tmod (wrap64 (a2)) (ji7)) then (neonwrightlaw03_CodeDark.j0 k a3 ji5 (Int.tmod (wrap64 (a1)) (ji7)) t209 (t209 != t211)) else ((neonwrightref03_Covers.f t209 t211).bind fun t213 => (if t213 = true then (neonwrightlaw03_CodeDark.j0 k a3 ji5 (Int.tmod (wrap64 (a1)) (ji7)) t209 true) else ((neonwrightref03_Covers.f t211 t209).bind fun t214 => (if t214 = true then (neonwrightlaw03_CodeDark.j0 k a3 ji5 (Int.tmod (wrap64 (a1)) (ji7)) t209 true) else (neonwrightlaw03_CodeDark.j0 k a3 ji5 (Int.tmod (wrap64 (a1)) (ji7)) t209 false)))))) else (neonwrightlaw03_CodeDark.j0 k a3 ji5 (Int.tmod (wrap64 (a1)) (ji7)) t209 true)) else (neonwrightlaw03_CodeDark.j0 k a3 ji5 (Int.tmod (wrap64 (a1)) (ji7)) t209 true)) = some r := H
      have A12 := Aside0.mk A120
      clear A120
      have HC13 := Aside0.mk H
      clear H
      go_enter Try.func5, Try.ntmps5
      go_upto_region 5 with (first | (go_at_call 19; (with_reducible refine (code_Berger.calls ji5 (Int.tmod (wrap64 (a1)) (ji7)) t209 t210 _ A11.out).mono ?_); rintro e w' ⟨rfl, ⟨nd, rfl⟩⟩; (try first | exact ⟨rfl, _, World.drewN_drewN _ _ _⟩ | exact ⟨rfl, _, Eq.trans (World.drewN_drewN _ _ _) (congrArg (World.drewN _) (Nat.add_assoc _ _ _))⟩)) | (go_at_call 19; (with_reducible refine (code_Berger.calls ji5 (Int.tmod (wrap64 (a2)) (ji7)) t211 t212 _ A12.out).mono ?_); rintro e w' ⟨rfl, ⟨nd, rfl⟩⟩; (try first | exact ⟨rfl, _, World.drewN_drewN _ _ _⟩ | exact ⟨rfl, _, Eq.trans (World.drewN_drewN _ _ _) (congrArg (World.drewN _) (Nat.add_assoc _ _ _))⟩)))
      repeat (go_quiet (first | (go_at_call 19; (with_reducible refine (code_Berger.calls ji5 (Int.tmod (wrap64 (a1)) (ji7)) t209 t210 _ A11.out).mono ?_); rintro e w' ⟨rfl, ⟨nd, rfl⟩⟩; (try first | exact ⟨rfl, _, World.drewN_drewN _ _ _⟩ | exact ⟨rfl, _, Eq.trans (World.drewN_drewN _ _ _) (congrArg (World.drewN _) (Nat.add_assoc _ _ _))⟩)) | (go_at_call 19; (with_reducible refine (code_Berger.calls ji5 (Int.tmod (wrap64 (a2)) (ji7)) t211 t212 _ A12.out).mono ?_); rintro e w' ⟨rfl, ⟨nd, rfl⟩⟩; (try first | exact ⟨rfl, _, World.drewN_drewN _ _ _⟩ | exact ⟨rfl, _, Eq.trans (World.drewN_drewN _ _ _) (congrArg (World.drewN _) (Nat.add_assoc _ _ _))⟩))); go_upto_region 5 with (first | (go_at_call 19; (with_reducible refine (code_Berger.calls ji5 (Int.tmod (wrap64 (a1)) (ji7)) t209 t210 _ A11.out).mono ?_); rintro e w' ⟨rfl, ⟨nd, rfl⟩⟩; (try first | exact ⟨rfl, _, World.drewN_drewN _ _ _⟩ | exact ⟨rfl, _, Eq.trans (World.drewN_drewN _ _ _) (congrArg (World.drewN _) (Nat.add_assoc _ _ _))⟩)) | (go_at_call 19; (with_reducible refine (code_Berger.calls ji5 (Int.tmod (wrap64 (a2)) (ji7)) t211 t212 _ A12.out).mono ?_); rintro e w' ⟨rfl, ⟨nd, rfl⟩⟩; (try first | exact ⟨rfl, _, World.drewN_drewN _ _ _⟩ | exact ⟨rfl, _, Eq.trans (World.drewN_drewN _ _ _) (congrArg (World.drewN _) (Nat.add_assoc _ _ _))⟩))))
      (try simp only [Act.put, List.setIfInBounds_toArray, List.set_cons_zero, List.set_cons_succ])
      go_cut [75] (fun v75 wc => ∃ (kq : Nat) (x75_12 : Bool), v75 = .bool x75_12 ∧ Aside0 (neonwrightlaw03_CodeDark.j0 kq a3 ji5 (Int.tmod (wrap64 (a1)) (ji7)) t209 x75_12 = some r) ∧ Aside0 (kq ≤ k) ∧ Aside0 (Below w.heap.size w wc))
      case first =>
        have H := HC13.out
        clear HC13
        by_cases c14 : t210 = 0
        · rw [if_pos c14] at H
          have c14b0 : (t210 == 0) = true := beq_iff_eq.mpr c14
          have c14b1 : (t210 != 0) = false := bne_eq_false_iff_eq.mpr c14
          clear c14
          (first | rw [c14b0] | (simp only [i64_w, i32_w]; rw [c14b0]) | skip)
          by_cases c15 : t212 = 0
          · rw [if_pos c15] at H
            have c15b0 : (t212 == 0) = true := beq_iff_eq.mpr c15
            have c15b1 : (t212 != 0) = false := bne_eq_false_iff_eq.mpr c15
            clear c15
            by_cases c16 : (Int.tmod (wrap64 (a1)) (ji7)) = (Int.tmod (wrap64 (a2)) (ji7))
            · rw [if_pos c16] at H
              have c16b0 : ((Int.tmod (wrap64 (a1)) (ji7)) == (Int.tmod (wrap64 (a2)) (ji7))) = true := beq_iff_eq.mpr c16
              have c16b1 : ((Int.tmod (wrap64 (a1)) (ji7)) != (Int.tmod (wrap64 (a2)) (ji7))) = false := bne_eq_false_iff_eq.mpr c16
              clear c16
              have H' := Aside0.mk H
              clear H
              go_wp2
              repeat (go_quiet (fail); try go_wp2)
              go_meet
              case rel => exact ⟨_, ((t209 != t211)), (by first | rfl | (simp; done) | (simp [*]; done)), H', ⟨by first | omega | exact Nat.le_refl _⟩, ⟨by repeat (first | (with_reducible first | exact HB.out | apply below_alloc | apply pw_below_drewN | apply below_drew1) | exact HB.out)⟩⟩
            · rw [if_neg c16] at H
              have c16b0 : ((Int.tmod (wrap64 (a1)) (ji7)) == (Int.tmod (wrap64 (a2)) (ji7))) = false := beq_eq_false_iff_ne.mpr c16
              have c16b1 : ((Int.tmod (wrap64 (a1)) (ji7)) != (Int.tmod (wrap64 (a2)) (ji7))) = true := bne_iff_ne.mpr c16
              replace H := Option.bind_eq_some_iff.mp H
              obtain ⟨t213, A170, H⟩ := H
              replace H : (if t213 = true then (neonwrightlaw03_CodeDark.j0 k a3 ji5 (Int.tmod (wrap64 (a1)) (ji7)) t209 true) else ((neonwrightref03_Covers.f t211 t209).bind fun t214 => (if t214 = true then (neonwrightlaw03_CodeDark.j0 k a3 ji5 (Int.tmod (wrap64 (a1)) (ji7)) t209 true) else (neonwrightlaw03_CodeDark.j0 k a3 ji5 (Int.tmod (wrap64 (a1)) (ji7)) t209 false)))) = some r := H
              have A17 := Aside0.mk A170
              clear A170
              by_cases c18 : t213 = true
              · subst c18
                have H1 : (neonwrightlaw03_CodeDark.j0 k a3 ji5 (Int.tmod (wrap64 (a1)) (ji7)) t209 true) = some r := by rw [if_pos rfl] at H; exact H
                clear H
                have H := H1
                clear H1
                have H' := Aside0.mk H
                clear H
                go_wp2_with (first | (go_at_call 23; (with_reducible refine (neonwrightref03_Covers.calls t209 t211 true _ A17.out).mono ?_); rintro e w' ⟨rfl, ⟨nd, rfl⟩⟩; (try first | exact ⟨rfl, _, World.drewN_drewN _ _ _⟩ | exact ⟨rfl, _, Eq.trans (World.drewN_drewN _ _ _) (congrArg (World.drewN _) (Nat.add_assoc _ _ _))⟩)))
                repeat (go_quiet (first | (go_at_call 23; (with_reducible refine (neonwrightref03_Covers.calls t209 t211 true _ A17.out).mono ?_); rintro e w' ⟨rfl, ⟨nd, rfl⟩⟩; (try first | exact ⟨rfl, _, World.drewN_drewN _ _ _⟩ | exact ⟨rfl, _, Eq.trans (World.drewN_drewN _ _ _) (congrArg (World.drewN _) (Nat.add_assoc _ _ _))⟩))); try go_wp2_with (first | (go_at_call 23; (with_reducible refine (neonwrightref03_Covers.calls t209 t211 true _ A17.out).mono ?_); rintro e w' ⟨rfl, ⟨nd, rfl⟩⟩; (try first | exact ⟨rfl, _, World.drewN_drewN _ _ _⟩ | exact ⟨rfl, _, Eq.trans (World.drewN_drewN _ _ _) (congrArg (World.drewN _) (Nat.add_assoc _ _ _))⟩))))
                go_meet
                case rel => exact ⟨_, (true), (by first | rfl | (simp; done) | (simp [*]; done)), H', ⟨by first | omega | exact Nat.le_refl _⟩, ⟨by repeat (first | (with_reducible first | exact HB.out | apply below_alloc | apply pw_below_drewN | apply below_drew1) | exact HB.out)⟩⟩
              · replace c18 := Bool.eq_false_iff.mpr c18
                subst c18
                have H1 : ((neonwrightref03_Covers.f t211 t209).bind fun t214 => (if t214 = true then (neonwrightlaw03_CodeDark.j0 k a3 ji5 (Int.tmod (wrap64 (a1)) (ji7)) t209 true) else (neonwrightlaw03_CodeDark.j0 k a3 ji5 (Int.tmod (wrap64 (a1)) (ji7)) t209 false))) = some r := by rw [if_neg (show ¬ (false = true) by decide)] at H; exact H
                clear H
                have H := H1
                clear H1
                replace H := Option.bind_eq_some_iff.mp H
                obtain ⟨t214, A190, H⟩ := H
                replace H : (if t214 = true then (neonwrightlaw03_CodeDark.j0 k a3 ji5 (Int.tmod (wrap64 (a1)) (ji7)) t209 true) else (neonwrightlaw03_CodeDark.j0 k a3 ji5 (Int.tmod (wrap64 (a1)) (ji7)) t209 false)) = some r := H
                have A19 := Aside0.mk A190
                clear A190
                by_cases c20 : t214 = true
                · subst c20
                  have H1 : (neonwrightlaw03_CodeDark.j0 k a3 ji5 (Int.tmod (wrap64 (a1)) (ji7)) t209 true) = some r := by rw [if_pos rfl] at H; exact H
                  clear H
                  have H := H1
                  clear H1
                  have H' := Aside0.mk H
                  clear H
                  go_wp2_with (first | (go_at_call 23; (with_reducible refine (neonwrightref03_Covers.calls t209 t211 false _ A17.out).mono ?_); rintro e w' ⟨rfl, ⟨nd, rfl⟩⟩; (try first | exact ⟨rfl, _, World.drewN_drewN _ _ _⟩ | exact ⟨rfl, _, Eq.trans (World.drewN_drewN _ _ _) (congrArg (World.drewN _) (Nat.add_assoc _ _ _))⟩)) | (go_at_call 23; (with_reducible refine (neonwrightref03_Covers.calls t211 t209 true _ A19.out).mono ?_); rintro e w' ⟨rfl, ⟨nd, rfl⟩⟩; (try first | exact ⟨rfl, _, World.drewN_drewN _ _ _⟩ | exact ⟨rfl, _, Eq.trans (World.drewN_drewN _ _ _) (congrArg (World.drewN _) (Nat.add_assoc _ _ _))⟩)))
                  repeat (go_quiet (first | (go_at_call 23; (with_reducible refine (neonwrightref03_Covers.calls t209 t211 false _ A17.out).mono ?_); rintro e w' ⟨rfl, ⟨nd, rfl⟩⟩; (try first | exact ⟨rfl, _, World.drewN_drewN _ _ _⟩ | exact ⟨rfl, _, Eq.trans (World.drewN_drewN _ _ _) (congrArg (World.drewN _) (Nat.add_assoc _ _ _))⟩)) | (go_at_call 23; (with_reducible refine (neonwrightref03_Covers.calls t211 t209 true _ A19.out).mono ?_); rintro e w' ⟨rfl, ⟨nd, rfl⟩⟩; (try first | exact ⟨rfl, _, World.drewN_drewN _ _ _⟩ | exact ⟨rfl, _, Eq.trans (World.drewN_drewN _ _ _) (congrArg (World.drewN _) (Nat.add_assoc _ _ _))⟩))); try go_wp2_with (first | (go_at_call 23; (with_reducible refine (neonwrightref03_Covers.calls t209 t211 false _ A17.out).mono ?_); rintro e w' ⟨rfl, ⟨nd, rfl⟩⟩; (try first | exact ⟨rfl, _, World.drewN_drewN _ _ _⟩ | exact ⟨rfl, _, Eq.trans (World.drewN_drewN _ _ _) (congrArg (World.drewN _) (Nat.add_assoc _ _ _))⟩)) | (go_at_call 23; (with_reducible refine (neonwrightref03_Covers.calls t211 t209 true _ A19.out).mono ?_); rintro e w' ⟨rfl, ⟨nd, rfl⟩⟩; (try first | exact ⟨rfl, _, World.drewN_drewN _ _ _⟩ | exact ⟨rfl, _, Eq.trans (World.drewN_drewN _ _ _) (congrArg (World.drewN _) (Nat.add_assoc _ _ _))⟩))))
                  go_meet
                  case rel => exact ⟨_, (true), (by first | rfl | (simp; done) | (simp [*]; done)), H', ⟨by first | omega | exact Nat.le_refl _⟩, ⟨by repeat (first | (with_reducible first | exact HB.out | apply below_alloc | apply pw_below_drewN | apply below_drew1) | exact HB.out)⟩⟩
                · replace c20 := Bool.eq_false_iff.mpr c20
                  subst c20
                  have H1 : (neonwrightlaw03_CodeDark.j0 k a3 ji5 (Int.tmod (wrap64 (a1)) (ji7)) t209 false) = some r := by rw [if_neg (show ¬ (false = true) by decide)] at H; exact H
                  clear H
                  have H := H1
                  clear H1
                  have H' := Aside0.mk H
                  clear H
                  go_wp2_with (first | (go_at_call 23; (with_reducible refine (neonwrightref03_Covers.calls t209 t211 false _ A17.out).mono ?_); rintro e w' ⟨rfl, ⟨nd, rfl⟩⟩; (try first | exact ⟨rfl, _, World.drewN_drewN _ _ _⟩ | exact ⟨rfl, _, Eq.trans (World.drewN_drewN _ _ _) (congrArg (World.drewN _) (Nat.add_assoc _ _ _))⟩)) | (go_at_call 23; (with_reducible refine (neonwrightref03_Covers.calls t211 t209 false _ A19.out).mono ?_); rintro e w' ⟨rfl, ⟨nd, rfl⟩⟩; (try first | exact ⟨rfl, _, World.drewN_drewN _ _ _⟩ | exact ⟨rfl, _, Eq.trans (World.drewN_drewN _ _ _) (congrArg (World.drewN _) (Nat.add_assoc _ _ _))⟩)))
                  repeat (go_quiet (first | (go_at_call 23; (with_reducible refine (neonwrightref03_Covers.calls t209 t211 false _ A17.out).mono ?_); rintro e w' ⟨rfl, ⟨nd, rfl⟩⟩; (try first | exact ⟨rfl, _, World.drewN_drewN _ _ _⟩ | exact ⟨rfl, _, Eq.trans (World.drewN_drewN _ _ _) (congrArg (World.drewN _) (Nat.add_assoc _ _ _))⟩)) | (go_at_call 23; (with_reducible refine (neonwrightref03_Covers.calls t211 t209 false _ A19.out).mono ?_); rintro e w' ⟨rfl, ⟨nd, rfl⟩⟩; (try first | exact ⟨rfl, _, World.drewN_drewN _ _ _⟩ | exact ⟨rfl, _, Eq.trans (World.drewN_drewN _ _ _) (congrArg (World.drewN _) (Nat.add_assoc _ _ _))⟩))); try go_wp2_with (first | (go_at_call 23; (with_reducible refine (neonwrightref03_Covers.calls t209 t211 false _ A17.out).mono ?_); rintro e w' ⟨rfl, ⟨nd, rfl⟩⟩; (try first | exact ⟨rfl, _, World.drewN_drewN _ _ _⟩ | exact ⟨rfl, _, Eq.trans (World.drewN_drewN _ _ _) (congrArg (World.drewN _) (Nat.add_assoc _ _ _))⟩)) | (go_at_call 23; (with_reducible refine (neonwrightref03_Covers.calls t211 t209 false _ A19.out).mono ?_); rintro e w' ⟨rfl, ⟨nd, rfl⟩⟩; (try first | exact ⟨rfl, _, World.drewN_drewN _ _ _⟩ | exact ⟨rfl, _, Eq.trans (World.drewN_drewN _ _ _) (congrArg (World.drewN _) (Nat.add_assoc _ _ _))⟩))))
                  go_meet
                  case rel => exact ⟨_, (false), (by first | rfl | (simp; done) | (simp [*]; done)), H', ⟨by first | omega | exact Nat.le_refl _⟩, ⟨by repeat (first | (with_reducible first | exact HB.out | apply below_alloc | apply pw_below_drewN | apply below_drew1) | exact HB.out)⟩⟩
          · rw [if_neg c15] at H
            have c15b0 : (t212 == 0) = false := beq_eq_false_iff_ne.mpr c15
            have c15b1 : (t212 != 0) = true := bne_iff_ne.mpr c15
            have H' := Aside0.mk H
            clear H
            go_wp2
            repeat (go_quiet (fail); try go_wp2)
            go_meet
            case rel => exact ⟨_, (true), (by first | rfl | (simp; done) | (simp [*]; done)), H', ⟨by first | omega | exact Nat.le_refl _⟩, ⟨by repeat (first | (with_reducible first | exact HB.out | apply below_alloc | apply pw_below_drewN | apply below_drew1) | exact HB.out)⟩⟩
        · rw [if_neg c14] at H
          have c14b0 : (t210 == 0) = false := beq_eq_false_iff_ne.mpr c14
          have c14b1 : (t210 != 0) = true := bne_iff_ne.mpr c14
          (first | rw [c14b0] | (simp only [i64_w, i32_w]; rw [c14b0]) | skip)
          have H' := Aside0.mk H
          clear H
          go_wp2
          repeat (go_quiet (fail); try go_wp2)
          go_meet
          case rel => exact ⟨_, (true), (by first | rfl | (simp; done) | (simp [*]; done)), H', ⟨by first | omega | exact Nat.le_refl _⟩, ⟨by repeat (first | (with_reducible first | exact HB.out | apply below_alloc | apply pw_below_drewN | apply below_drew1) | exact HB.out)⟩⟩
      case rest =>
        clear HC13
        try clear c1
        try clear c2
        try clear p2
        try clear c5
        try clear c6
        try clear c6b0
        try clear c6b1
        try clear p6
        try clear c8
        try clear c8b0
        try clear c8b1
        try clear c9
        try clear c9b0
        try clear c10
        try clear c10b0
        try clear c14
        try clear c14b0
        try clear c14b1
        try clear c15
        try clear c15b0
        try clear c15b1
        try clear c16
        try clear c16b0
        try clear c16b1
        try clear c18
        try clear c20
        obtain ⟨kq, x75_12, rfl, HA, HJ12, HB⟩ := hcut
        cases kq with
        | zero => exact absurd HA.out (by simp [neonwrightlaw03_CodeDark.j0])
        | succ kj12 =>
          have H := HA.out
          clear HA
          simp only [neonwrightlaw03_CodeDark.j0] at H
          by_cases c21 : x75_12 = true
          · subst c21
            have H1 : (some false) = some r := by rw [if_pos rfl] at H; exact H
            clear H
            have H := H1
            clear H1
            obtain rfl := Option.some.inj H
            go_wp2
            repeat (go_quiet (fail); try go_wp2)
            go_ret
            exact ⟨by first | rfl | (simp [errW_none, errW_some] <;> rfl) | (simp only [← hji5, ← hji7]; first | rfl | (simp [errW_none, errW_some] <;> rfl)) | (simp [*, errW_none, errW_some] <;> rfl), by repeat (first | (with_reducible first | exact HB.out | apply below_alloc | apply pw_below_drewN | apply below_drew1) | exact HB.out)⟩
          · replace c21 := Bool.eq_false_iff.mpr c21
            subst c21
            have H1 : ((code_Decode.f ji5 t209).bind fun bt215 => (if bt215.2.2 = 0 then (if bt215.2.1 = true then (neonwrightlaw03_CodeDark.j1 kj12 a3 ji5 t209 (bt215.1 != (Int.tmod (wrap64 (a1)) (ji7)))) else (neonwrightlaw03_CodeDark.j1 kj12 a3 ji5 t209 true)) else (neonwrightlaw03_CodeDark.j1 kj12 a3 ji5 t209 true))) = some r := by rw [if_neg (show ¬ (false = true) by decide)] at H; exact H
            clear H
            have H := H1
            clear H1
            replace H := Option.bind_eq_some_iff.mp H
            obtain ⟨⟨t215, t216, t217⟩, A220, H⟩ := H
            replace H : (if t217 = 0 then (if t216 = true then (neonwrightlaw03_CodeDark.j1 kj12 a3 ji5 t209 (t215 != (Int.tmod (wrap64 (a1)) (ji7)))) else (neonwrightlaw03_CodeDark.j1 kj12 a3 ji5 t209 true)) else (neonwrightlaw03_CodeDark.j1 kj12 a3 ji5 t209 true)) = some r := H
            have A22 := Aside0.mk A220
            clear A220
            have HC23 := Aside0.mk H
            clear H
            go_upto_region 8 with (first | (go_at_call 21; (with_reducible refine (code_Decode.calls ji5 t209 t215 t216 t217 _ A22.out).mono ?_); rintro e w' ⟨rfl, ⟨nd, rfl⟩⟩; (try first | exact ⟨rfl, _, World.drewN_drewN _ _ _⟩ | exact ⟨rfl, _, Eq.trans (World.drewN_drewN _ _ _) (congrArg (World.drewN _) (Nat.add_assoc _ _ _))⟩)))
            repeat (go_quiet (first | (go_at_call 21; (with_reducible refine (code_Decode.calls ji5 t209 t215 t216 t217 _ A22.out).mono ?_); rintro e w' ⟨rfl, ⟨nd, rfl⟩⟩; (try first | exact ⟨rfl, _, World.drewN_drewN _ _ _⟩ | exact ⟨rfl, _, Eq.trans (World.drewN_drewN _ _ _) (congrArg (World.drewN _) (Nat.add_assoc _ _ _))⟩))); go_upto_region 8 with (first | (go_at_call 21; (with_reducible refine (code_Decode.calls ji5 t209 t215 t216 t217 _ A22.out).mono ?_); rintro e w' ⟨rfl, ⟨nd, rfl⟩⟩; (try first | exact ⟨rfl, _, World.drewN_drewN _ _ _⟩ | exact ⟨rfl, _, Eq.trans (World.drewN_drewN _ _ _) (congrArg (World.drewN _) (Nat.add_assoc _ _ _))⟩))))
            (try simp only [Act.put, List.setIfInBounds_toArray, List.set_cons_zero, List.set_cons_succ])
            go_cut [93] (fun v93 wc => ∃ (kq : Nat) (x93_22 : Bool), v93 = .bool x93_22 ∧ Aside0 (neonwrightlaw03_CodeDark.j1 kq a3 ji5 t209 x93_22 = some r) ∧ Aside0 (kq ≤ kj12) ∧ Aside0 (Below w.heap.size w wc))
            case first =>
              have H := HC23.out
              clear HC23
              by_cases c24 : t217 = 0
              · rw [if_pos c24] at H
                have c24b0 : (t217 == 0) = true := beq_iff_eq.mpr c24
                have c24b1 : (t217 != 0) = false := bne_eq_false_iff_eq.mpr c24
                clear c24
                (first | rw [c24b0] | (simp only [i64_w, i32_w]; rw [c24b0]) | skip)
                by_cases c25 : t216 = true
                · subst c25
                  have H1 : (neonwrightlaw03_CodeDark.j1 kj12 a3 ji5 t209 (t215 != (Int.tmod (wrap64 (a1)) (ji7)))) = some r := by rw [if_pos rfl] at H; exact H
                  clear H
                  have H := H1
                  clear H1
                  have H' := Aside0.mk H
                  clear H
                  go_wp2
                  repeat (go_quiet (fail); try go_wp2)
                  go_meet
                  case rel => exact ⟨_, ((t215 != (Int.tmod (wrap64 (a1)) (ji7)))), (by first | rfl | (simp; done) | (simp only [← hji7] <;> (first | rfl | simp)) | (simp [*]; done)), H', ⟨by have := HJ12.out; first | omega | exact Nat.le_refl _⟩, ⟨by repeat (first | (with_reducible first | exact HB.out | apply below_alloc | apply pw_below_drewN | apply below_drew1) | exact HB.out)⟩⟩
                · replace c25 := Bool.eq_false_iff.mpr c25
                  subst c25
                  have H1 : (neonwrightlaw03_CodeDark.j1 kj12 a3 ji5 t209 true) = some r := by rw [if_neg (show ¬ (false = true) by decide)] at H; exact H
                  clear H
                  have H := H1
                  clear H1
                  have H' := Aside0.mk H
                  clear H
                  go_wp2
                  repeat (go_quiet (fail); try go_wp2)
                  go_meet
                  case rel => exact ⟨_, (true), (by first | rfl | (simp; done) | (simp [*]; done)), H', ⟨by have := HJ12.out; first | omega | exact Nat.le_refl _⟩, ⟨by repeat (first | (with_reducible first | exact HB.out | apply below_alloc | apply pw_below_drewN | apply below_drew1) | exact HB.out)⟩⟩
              · rw [if_neg c24] at H
                have c24b0 : (t217 == 0) = false := beq_eq_false_iff_ne.mpr c24
                have c24b1 : (t217 != 0) = true := bne_iff_ne.mpr c24
                (first | rw [c24b0] | (simp only [i64_w, i32_w]; rw [c24b0]) | skip)
                have H' := Aside0.mk H
                clear H
                go_wp2
                repeat (go_quiet (fail); try go_wp2)
                go_meet
                case rel => exact ⟨_, (true), (by first | rfl | (simp; done) | (simp [*]; done)), H', ⟨by have := HJ12.out; first | omega | exact Nat.le_refl _⟩, ⟨by repeat (first | (with_reducible first | exact HB.out | apply below_alloc | apply pw_below_drewN | apply below_drew1) | exact HB.out)⟩⟩
            case rest =>
              clear HC23
              try clear c1
              try clear c2
              try clear p2
              try clear c5
              try clear c6
              try clear c6b0
              try clear c6b1
              try clear p6
              try clear c8
              try clear c8b0
              try clear c8b1
              try clear c9
              try clear c9b0
              try clear c10
              try clear c10b0
              try clear c14
              try clear c14b0
              try clear c14b1
              try clear c15
              try clear c15b0
              try clear c15b1
              try clear c16
              try clear c16b0
              try clear c16b1
              try clear c18
              try clear c20
              try clear c21
              try clear c24
              try clear c24b0
              try clear c24b1
              try clear c25
              try clear p2
              try clear p6
              obtain ⟨kq, x93_22, rfl, HA, HJ22, HB⟩ := hcut
              cases kq with
              | zero => exact absurd HA.out (by simp [neonwrightlaw03_CodeDark.j1])
              | succ kj22 =>
                have H := HA.out
                clear HA
                simp only [neonwrightlaw03_CodeDark.j1] at H
                by_cases c26 : x93_22 = true
                · subst c26
                  have H1 : (some false) = some r := by rw [if_pos rfl] at H; exact H
                  clear H
                  have H := H1
                  clear H1
                  obtain rfl := Option.some.inj H
                  go_wp2
                  repeat (go_quiet (fail); try go_wp2)
                  go_ret
                  exact ⟨by first | rfl | (simp [errW_none, errW_some] <;> rfl) | (simp only [← hji5, ← hji7]; first | rfl | (simp [errW_none, errW_some] <;> rfl)) | (simp [*, errW_none, errW_some] <;> rfl), by repeat (first | (with_reducible first | exact HB.out | apply below_alloc | apply pw_below_drewN | apply below_drew1) | exact HB.out)⟩
                · replace c26 := Bool.eq_false_iff.mpr c26
                  subst c26
                  have H1 : ((code_Decode.f ji5 (Go.bits .andNot .i64 t209 (wrap64 (a3)))).bind fun bt218 => (if bt218.2.2 = 0 then (if 0 ≤ ji5 then (if (shl .i64 1 ji5) = 0 then (none) else (if bt218.1 = (Int.tmod (Go.bits .andNot .i64 t209 (wrap64 (a3))) (shl .i64 1 ji5)) then (if (bt218.2.1 == ((Go.bits .andNot .i64 t209 (wrap64 (a3))) == t209)) = true then ((neonwrightlaw03_alive.f kj22).bind fun t221 => (some t221)) else (some false)) else (some false))) else (none)) else (some false))) = some r := by rw [if_neg (show ¬ (false = true) by decide)] at H; exact H
                  clear H
                  have H := H1
                  clear H1
                  replace H := Option.bind_eq_some_iff.mp H
                  obtain ⟨⟨t218, t219, t220⟩, A270, H⟩ := H
                  replace H : (if t220 = 0 then (if 0 ≤ ji5 then (if (shl .i64 1 ji5) = 0 then (none) else (if t218 = (Int.tmod (Go.bits .andNot .i64 t209 (wrap64 (a3))) (shl .i64 1 ji5)) then (if (t219 == ((Go.bits .andNot .i64 t209 (wrap64 (a3))) == t209)) = true then ((neonwrightlaw03_alive.f kj22).bind fun t221 => (some t221)) else (some false)) else (some false))) else (none)) else (some false)) = some r := H
                  have A27 := Aside0.mk A270
                  clear A270
                  by_cases c28 : t220 = 0
                  · rw [if_pos c28] at H
                    have c28b0 : (t220 == 0) = true := beq_iff_eq.mpr c28
                    have c28b1 : (t220 != 0) = false := bne_eq_false_iff_eq.mpr c28
                    clear c28
                    by_cases c29 : 0 ≤ ji5
                    · rw [if_pos c29] at H
                      have c29b0 := eq_true c29
                      have c29b1 : decide (0 ≤ ji5) = true := decide_eq_true c29
                      clear c29
                      obtain ⟨ji30, hji30⟩ : ∃ j_ : Int, (shl .i64 1 ji5) = j_ := ⟨_, rfl⟩
                      replace H : (if (ji30) = 0 then (none) else (if t218 = (Int.tmod (Go.bits .andNot .i64 t209 (wrap64 (a3))) (ji30)) then (if (t219 == ((Go.bits .andNot .i64 t209 (wrap64 (a3))) == t209)) = true then ((neonwrightlaw03_alive.f kj22).bind fun t221 => (some t221)) else (some false)) else (some false))) = some r := by first | (rw [hji30] at H; exact H) | (simp only [hji30] at H ⊢; exact H)
                      (try rw [hji30] at A27)
                      have hji30_ : (IntKind.i64.wrap (1 * 2 ^ min ji5.toNat 64)) = ji30 := hji30
                      have hji30z : ji5 ≤ 64 → (IntKind.i64.wrap (1 * 2 ^ ji5.toNat)) = ji30 := shl_small hji30
                      have hji30u : (IntKind.i64.wrap (2 ^ min ji5.toNat 64)) = ji30 := by have h_ := hji30_; rw [Int.one_mul] at h_; exact h_
                      have hji30v : ji5 ≤ 64 → (IntKind.i64.wrap (2 ^ ji5.toNat)) = ji30 := fun hle_ => by have h_ := hji30z hle_; rw [Int.one_mul] at h_; exact h_
                      have hji30y : (wrap64 (1 * 2 ^ min ji5.toNat 64)) = ji30 := (i64_w _).symm.trans hji30_
                      have hji30x : ji5 ≤ 64 → (wrap64 (1 * 2 ^ ji5.toNat)) = ji30 := fun h_ => (i64_w _).symm.trans (hji30z h_)
                      by_cases c31 : (ji30) = 0
                      · rw [if_pos c31] at H
                        exact absurd H (by simp)
                      · rw [if_neg c31] at H
                        have c31b0 : ((ji30) == 0) = false := beq_eq_false_iff_ne.mpr c31
                        (try (have c31b0n : ¬ (ji7 = 0) := fun h_ => c31 (by rw [← hji7.symm.trans hji30]; exact h_)))
                        (try (have c31b0j : ((ji7) == 0) = false := by rw [hji7.symm.trans hji30]; exact c31b0))
                        have c31b1 : ((ji30) != 0) = true := bne_iff_ne.mpr c31
                        (try (have c31b1j : ((ji7) != 0) = true := by rw [hji7.symm.trans hji30]; exact c31b1))
                        by_cases c32 : t218 = (Int.tmod (Go.bits .andNot .i64 t209 (wrap64 (a3))) (ji30))
                        · rw [if_pos c32] at H
                          have c32b0 : (t218 == (Int.tmod (Go.bits .andNot .i64 t209 (wrap64 (a3))) (ji30))) = true := beq_iff_eq.mpr c32
                          (try (have c32b0n : ¬ (ji7 = 0) := fun h_ => c32 (by rw [← hji7.symm.trans hji30]; exact h_)))
                          (try (have c32b0j : (t218 == (Int.tmod (Go.bits .andNot .i64 t209 (wrap64 (a3))) (ji7))) = true := by rw [hji7.symm.trans hji30]; exact c32b0))
                          have c32b1 : (t218 != (Int.tmod (Go.bits .andNot .i64 t209 (wrap64 (a3))) (ji30))) = false := bne_eq_false_iff_eq.mpr c32
                          (try (have c32b1j : (t218 != (Int.tmod (Go.bits .andNot .i64 t209 (wrap64 (a3))) (ji7))) = false := by rw [hji7.symm.trans hji30]; exact c32b1))
                          clear c32
                          by_cases c33 : (t219 == ((Go.bits .andNot .i64 t209 (wrap64 (a3))) == t209)) = true
                          · rw [if_pos c33] at H
                            have c33b0 : (t219 == ((Go.bits .andNot .i64 t209 (wrap64 (a3))) == t209)) = true := c33
                            (try (have c33b1 : decide (t219 = ((Go.bits .andNot .i64 t209 (wrap64 (a3))) == t209)) = true := by simpa using c33))
                            (try (have c33b2 : (t219 == ((Go.bits .andNot .i64 t209 (wrap64 (a3))) == t209)) = true := by simpa using c33))
                            clear c33
                            replace H := Option.bind_eq_some_iff.mp H
                            obtain ⟨t221, A340, H⟩ := H
                            replace H : (some t221) = some r := H
                            have A34 := Aside0.mk A340
                            clear A340
                            obtain rfl := Option.some.inj H
                            go_wp2_with (first | (go_at_call 21; (with_reducible refine (code_Decode.calls ji5 (Go.bits .andNot .i64 t209 (wrap64 (a3))) t218 t219 t220 _ A27.out).mono ?_); rintro e w' ⟨rfl, ⟨nd, rfl⟩⟩; (try first | exact ⟨rfl, _, World.drewN_drewN _ _ _⟩ | exact ⟨rfl, _, Eq.trans (World.drewN_drewN _ _ _) (congrArg (World.drewN _) (Nat.add_assoc _ _ _))⟩)) | (go_at_call 18; (with_reducible refine (neonwrightlaw03_alive.calls kj22  t221 _ A34.out).mono ?_); rintro e w35 ⟨rfl, hb⟩; have n0_ := Aside0.mk (below_step (by repeat (first | (with_reducible first | exact HB.out | apply below_alloc | apply pw_below_drewN | apply below_drew1) | exact HB.out)) hb); clear HB; have HB := n0_; clear n0_; (try clear hb); (try clear hb2); (try clear hk); (try clear hi)))
                            repeat (go_quiet (first | (go_at_call 21; (with_reducible refine (code_Decode.calls ji5 (Go.bits .andNot .i64 t209 (wrap64 (a3))) t218 t219 t220 _ A27.out).mono ?_); rintro e w' ⟨rfl, ⟨nd, rfl⟩⟩; (try first | exact ⟨rfl, _, World.drewN_drewN _ _ _⟩ | exact ⟨rfl, _, Eq.trans (World.drewN_drewN _ _ _) (congrArg (World.drewN _) (Nat.add_assoc _ _ _))⟩)) | (go_at_call 18; (with_reducible refine (neonwrightlaw03_alive.calls kj22  t221 _ A34.out).mono ?_); rintro e w35 ⟨rfl, hb⟩; have n0_ := Aside0.mk (below_step (by repeat (first | (with_reducible first | exact HB.out | apply below_alloc | apply pw_below_drewN | apply below_drew1) | exact HB.out)) hb); clear HB; have HB := n0_; clear n0_; (try clear hb); (try clear hb2); (try clear hk); (try clear hi))); try go_wp2_with (first | (go_at_call 21; (with_reducible refine (code_Decode.calls ji5 (Go.bits .andNot .i64 t209 (wrap64 (a3))) t218 t219 t220 _ A27.out).mono ?_); rintro e w' ⟨rfl, ⟨nd, rfl⟩⟩; (try first | exact ⟨rfl, _, World.drewN_drewN _ _ _⟩ | exact ⟨rfl, _, Eq.trans (World.drewN_drewN _ _ _) (congrArg (World.drewN _) (Nat.add_assoc _ _ _))⟩)) | (go_at_call 18; (with_reducible refine (neonwrightlaw03_alive.calls kj22  t221 _ A34.out).mono ?_); rintro e w35 ⟨rfl, hb⟩; have n0_ := Aside0.mk (below_step (by repeat (first | (with_reducible first | exact HB.out | apply below_alloc | apply pw_below_drewN | apply below_drew1) | exact HB.out)) hb); clear HB; have HB := n0_; clear n0_; (try clear hb); (try clear hb2); (try clear hk); (try clear hi))))
                            go_ret
                            exact ⟨by first | rfl | (simp [errW_none, errW_some] <;> rfl) | (simp only [← hji5, ← hji7, ← hji30]; first | rfl | (simp [errW_none, errW_some] <;> rfl)) | (simp [*, errW_none, errW_some] <;> rfl), by repeat (first | (with_reducible first | exact HB.out | apply below_alloc | apply pw_below_drewN | apply below_drew1) | exact HB.out)⟩
                          · rw [if_neg c33] at H
                            have c33b0 : (t219 == ((Go.bits .andNot .i64 t209 (wrap64 (a3))) == t209)) = false := by simpa using c33
                            (try (have c33b1 : decide (t219 = ((Go.bits .andNot .i64 t209 (wrap64 (a3))) == t209)) = false := by simpa using c33))
                            (try (have c33b2 : (t219 == ((Go.bits .andNot .i64 t209 (wrap64 (a3))) == t209)) = false := by simpa using c33))
                            (try (have c33b3 : ¬ (t219 = ((Go.bits .andNot .i64 t209 (wrap64 (a3))) == t209)) := by simpa using c33))
                            clear c33
                            obtain rfl := Option.some.inj H
                            go_wp2_with (first | (go_at_call 21; (with_reducible refine (code_Decode.calls ji5 (Go.bits .andNot .i64 t209 (wrap64 (a3))) t218 t219 t220 _ A27.out).mono ?_); rintro e w' ⟨rfl, ⟨nd, rfl⟩⟩; (try first | exact ⟨rfl, _, World.drewN_drewN _ _ _⟩ | exact ⟨rfl, _, Eq.trans (World.drewN_drewN _ _ _) (congrArg (World.drewN _) (Nat.add_assoc _ _ _))⟩)))
                            repeat (go_quiet (first | (go_at_call 21; (with_reducible refine (code_Decode.calls ji5 (Go.bits .andNot .i64 t209 (wrap64 (a3))) t218 t219 t220 _ A27.out).mono ?_); rintro e w' ⟨rfl, ⟨nd, rfl⟩⟩; (try first | exact ⟨rfl, _, World.drewN_drewN _ _ _⟩ | exact ⟨rfl, _, Eq.trans (World.drewN_drewN _ _ _) (congrArg (World.drewN _) (Nat.add_assoc _ _ _))⟩))); try go_wp2_with (first | (go_at_call 21; (with_reducible refine (code_Decode.calls ji5 (Go.bits .andNot .i64 t209 (wrap64 (a3))) t218 t219 t220 _ A27.out).mono ?_); rintro e w' ⟨rfl, ⟨nd, rfl⟩⟩; (try first | exact ⟨rfl, _, World.drewN_drewN _ _ _⟩ | exact ⟨rfl, _, Eq.trans (World.drewN_drewN _ _ _) (congrArg (World.drewN _) (Nat.add_assoc _ _ _))⟩))))
                            go_ret
                            exact ⟨by first | rfl | (simp [errW_none, errW_some] <;> rfl) | (simp only [← hji5, ← hji7, ← hji30]; first | rfl | (simp [errW_none, errW_some] <;> rfl)) | (simp [*, errW_none, errW_some] <;> rfl), by repeat (first | (with_reducible first | exact HB.out | apply below_alloc | apply pw_below_drewN | apply below_drew1) | exact HB.out)⟩
                        · rw [if_neg c32] at H
                          have c32b0 : (t218 == (Int.tmod (Go.bits .andNot .i64 t209 (wrap64 (a3))) (ji30))) = false := beq_eq_false_iff_ne.mpr c32
                          (try (have c32b0n : ¬ (ji7 = 0) := fun h_ => c32 (by rw [← hji7.symm.trans hji30]; exact h_)))
                          (try (have c32b0j : (t218 == (Int.tmod (Go.bits .andNot .i64 t209 (wrap64 (a3))) (ji7))) = false := by rw [hji7.symm.trans hji30]; exact c32b0))
                          have c32b1 : (t218 != (Int.tmod (Go.bits .andNot .i64 t209 (wrap64 (a3))) (ji30))) = true := bne_iff_ne.mpr c32
                          (try (have c32b1j : (t218 != (Int.tmod (Go.bits .andNot .i64 t209 (wrap64 (a3))) (ji7))) = true := by rw [hji7.symm.trans hji30]; exact c32b1))
                          obtain rfl := Option.some.inj H
                          go_wp2_with (first | (go_at_call 21; (with_reducible refine (code_Decode.calls ji5 (Go.bits .andNot .i64 t209 (wrap64 (a3))) t218 t219 t220 _ A27.out).mono ?_); rintro e w' ⟨rfl, ⟨nd, rfl⟩⟩; (try first | exact ⟨rfl, _, World.drewN_drewN _ _ _⟩ | exact ⟨rfl, _, Eq.trans (World.drewN_drewN _ _ _) (congrArg (World.drewN _) (Nat.add_assoc _ _ _))⟩)))
                          repeat (go_quiet (first | (go_at_call 21; (with_reducible refine (code_Decode.calls ji5 (Go.bits .andNot .i64 t209 (wrap64 (a3))) t218 t219 t220 _ A27.out).mono ?_); rintro e w' ⟨rfl, ⟨nd, rfl⟩⟩; (try first | exact ⟨rfl, _, World.drewN_drewN _ _ _⟩ | exact ⟨rfl, _, Eq.trans (World.drewN_drewN _ _ _) (congrArg (World.drewN _) (Nat.add_assoc _ _ _))⟩))); try go_wp2_with (first | (go_at_call 21; (with_reducible refine (code_Decode.calls ji5 (Go.bits .andNot .i64 t209 (wrap64 (a3))) t218 t219 t220 _ A27.out).mono ?_); rintro e w' ⟨rfl, ⟨nd, rfl⟩⟩; (try first | exact ⟨rfl, _, World.drewN_drewN _ _ _⟩ | exact ⟨rfl, _, Eq.trans (World.drewN_drewN _ _ _) (congrArg (World.drewN _) (Nat.add_assoc _ _ _))⟩))))
                          go_ret
                          exact ⟨by first | rfl | (simp [errW_none, errW_some] <;> rfl) | (simp only [← hji5, ← hji7, ← hji30]; first | rfl | (simp [errW_none, errW_some] <;> rfl)) | (simp [*, errW_none, errW_some] <;> rfl), by repeat (first | (with_reducible first | exact HB.out | apply below_alloc | apply pw_below_drewN | apply below_drew1) | exact HB.out)⟩
                    · rw [if_neg c29] at H
                      exact absurd H (by simp)
                  · rw [if_neg c28] at H
                    have c28b0 : (t220 == 0) = false := beq_eq_false_iff_ne.mpr c28
                    have c28b1 : (t220 != 0) = true := bne_iff_ne.mpr c28
                    obtain rfl := Option.some.inj H
                    go_wp2_with (first | (go_at_call 21; (with_reducible refine (code_Decode.calls ji5 (Go.bits .andNot .i64 t209 (wrap64 (a3))) t218 t219 t220 _ A27.out).mono ?_); rintro e w' ⟨rfl, ⟨nd, rfl⟩⟩; (try first | exact ⟨rfl, _, World.drewN_drewN _ _ _⟩ | exact ⟨rfl, _, Eq.trans (World.drewN_drewN _ _ _) (congrArg (World.drewN _) (Nat.add_assoc _ _ _))⟩)))
                    repeat (go_quiet (first | (go_at_call 21; (with_reducible refine (code_Decode.calls ji5 (Go.bits .andNot .i64 t209 (wrap64 (a3))) t218 t219 t220 _ A27.out).mono ?_); rintro e w' ⟨rfl, ⟨nd, rfl⟩⟩; (try first | exact ⟨rfl, _, World.drewN_drewN _ _ _⟩ | exact ⟨rfl, _, Eq.trans (World.drewN_drewN _ _ _) (congrArg (World.drewN _) (Nat.add_assoc _ _ _))⟩))); try go_wp2_with (first | (go_at_call 21; (with_reducible refine (code_Decode.calls ji5 (Go.bits .andNot .i64 t209 (wrap64 (a3))) t218 t219 t220 _ A27.out).mono ?_); rintro e w' ⟨rfl, ⟨nd, rfl⟩⟩; (try first | exact ⟨rfl, _, World.drewN_drewN _ _ _⟩ | exact ⟨rfl, _, Eq.trans (World.drewN_drewN _ _ _) (congrArg (World.drewN _) (Nat.add_assoc _ _ _))⟩))))
                    go_ret
                    exact ⟨by first | rfl | (simp [errW_none, errW_some] <;> rfl) | (simp only [← hji5, ← hji7]; first | rfl | (simp [errW_none, errW_some] <;> rfl)) | (simp [*, errW_none, errW_some] <;> rfl), by repeat (first | (with_reducible first | exact HB.out | apply below_alloc | apply pw_below_drewN | apply below_drew1) | exact HB.out)⟩
  · rw [if_neg c6] at H
    exact absurd H (by simp)

/-- THE ONE PURE STATEMENT of neonwrightlaw03_CodeDark: yours. -/
def neonwrightlaw03_CodeDark.Pure : Prop := ∀ (a0 : Int) (a1 : Int) (a2 : Int) (a3 : Int), (Lit.int .u8 a0).wf = true → (Lit.int .u16 a1).wf = true → (Lit.int .u16 a2).wf = true → (Lit.int .u16 a3).wf = true → ∃ k, neonwrightlaw03_CodeDark.f k a0 a1 a2 a3 = some true
theorem neonwrightlaw03_CodeDark.walk (P : neonwrightlaw03_CodeDark.Pure) (a0 : Int) (a1 : Int) (a2 : Int) (a3 : Int) (w : World) (w0 : (Lit.int .u8 a0).wf = true) (w1 : (Lit.int .u16 a1).wf = true) (w2 : (Lit.int .u16 a2).wf = true) (w3 : (Lit.int .u16 a3).wf = true) :
    Calls Try.prog 5 #[.int .u8 a0, .int .u16 a1, .int .u16 a2, .int .u16 a3] w fun e w' => e = .returned (.bool true) ∧ Below w.heap.size w w' := by
  obtain ⟨k, h⟩ := P a0 a1 a2 a3 w0 w1 w2 w3
  refine (neonwrightlaw03_CodeDark.calls k a0 a1 a2 a3 true w h).mono ?_
  rintro e w' ⟨rfl, hd⟩
  exact ⟨rfl, hd⟩

end Go.Proofs.Ytgchhheajngbfaa.P
