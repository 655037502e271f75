/- Several texts of this session in one file, in build order: Pf10, Pf35, Pf22, Pf69, Pf54, Pf58, Pf36, Pf52, Pf28, GrayN, FPath, NormP, FRef, FSame. -/
import Derived.Test.YtnakkdaeehglnaaJB1
import Derived.Test.YtnakkdaeehglnaaJB2
import Derived.Test.YtnakkdaeehglnaaJFlashSame1
import Derived.Laws.BitsLemmas
import Derived.Lib.BitFns
namespace Go.Proofs.Ytnakkdaeehglnaa.P
open Go.RowKit Go.Proofs.YtnakkdaeehglnaaW.PrintWords Go.Proofs.YtnakkdaeehglnaaW.PrintLast Go.Proofs.YtnakkdaeehglnaaW.PrintMore
attribute [local go_sem] max2_int min2_int max_two min_two max_three min_three max_four min_four   -- for this text's walks alone
set_option linter.unusedVariables false
set_option linter.unusedSimpArgs false

/-! ### neonwrightlaw04_FlashSame: function 10 -/
mutual
def neonwrightlaw04_FlashSame.j0 : Nat → Int → List Int → List Int → Bool → Option (Bool)
  | 0, _, _, _, _ => none
  | k + 1, x0, x1, x2, x20 => if x20 = true then ((neonwrightlaw04_alive.f k).bind fun t383 => (some t383)) else ((flash_Same.f k x0 x1 x2).bind fun bt384 => ((neonwrightref04_Same.f k x0 x1 x2).bind fun bt386 => (if (bt384.1 != bt386.1) = true then (neonwrightlaw04_FlashSame.j1 k x0 x1 true) else (neonwrightlaw04_FlashSame.j1 k x0 x1 (bt384.2 != bt386.2)))))
def neonwrightlaw04_FlashSame.j1 : Nat → Int → List Int → Bool → Option (Bool)
  | 0, _, _, _ => none
  | k + 1, x0, x1, x43 => if x43 = true then (some false) else ((flash_Normal.f x0 x1).bind fun bt388 => ((neonwrightref04_Normal.f k x0 x1).bind fun bt392 => ((neonwrightlaw04_same.f k bt388.1 bt392.1).bind fun t396 => (if t396 = true then (if bt388.2 = bt392.2 then ((neonwrightlaw04_alive.f k).bind fun t397 => (some t397)) else (some false)) else (some false)))))
end
def neonwrightlaw04_FlashSame.f (k : Nat) (a0 : Int) (l1 : List Int) (l2 : List Int) : Option (Bool) := (neonwrightlaw04_few.f l1).bind fun t381 => (if t381 = true then ((neonwrightlaw04_few.f l2).bind fun t382 => (neonwrightlaw04_FlashSame.j0 k a0 l1 l2 (!t382))) else (neonwrightlaw04_FlashSame.j0 k a0 l1 l2 true))
theorem neonwrightlaw04_FlashSame.mono_l : ∀ k, (∀ y0 y1 y2 y3, LeO (neonwrightlaw04_FlashSame.j0 k y0 y1 y2 y3) (neonwrightlaw04_FlashSame.j0 (k + 1) y0 y1 y2 y3)) ∧ (∀ y0 y1 y2, LeO (neonwrightlaw04_FlashSame.j1 k y0 y1 y2) (neonwrightlaw04_FlashSame.j1 (k + 1) y0 y1 y2))
  | 0 => ⟨fun _ _ _ _ r h => by simp [neonwrightlaw04_FlashSame.j0] at h, fun _ _ _ r h => by simp [neonwrightlaw04_FlashSame.j1] at h⟩
  | k + 1 => by
    obtain ⟨ih0, ih1⟩ := neonwrightlaw04_FlashSame.mono_l k
    refine ⟨?_, ?_⟩
    · intro y0 y1 y2 y3
      unfold neonwrightlaw04_FlashSame.j0
      repeat' first
      | (with_reducible exact ih0 _ _ _ _)
      | (with_reducible exact ih1 _ _ _)
      | (with_reducible exact flash_Same.mono _ _ _ _)
      | (with_reducible exact neonwrightlaw04_alive.mono _)
      | (with_reducible exact neonwrightlaw04_same.mono _ _ _)
      | (with_reducible exact neonwrightref04_Normal.mono _ _ _)
      | (with_reducible exact neonwrightref04_Same.mono _ _ _ _)
      | (with_reducible exact LeO.refl _)
      | (with_reducible exact LeO.none _)
      | (with_reducible refine LeO.ite ?_ ?_)
      | (with_reducible refine LeO.bind ?_ (fun _ => ?_))
      | exact ih0 _ _ _ _
      | exact ih1 _ _ _
      | exact flash_Same.mono _ _ _ _
      | exact neonwrightlaw04_alive.mono _
      | exact neonwrightlaw04_same.mono _ _ _
      | exact neonwrightref04_Normal.mono _ _ _
      | exact neonwrightref04_Same.mono _ _ _ _
      | exact LeO.none _
      | refine LeO.ite ?_ ?_
      | refine LeO.bind ?_ (fun _ => ?_)
    · intro y0 y1 y2
      unfold neonwrightlaw04_FlashSame.j1
      repeat' first
      | (with_reducible exact ih0 _ _ _ _)
      | (with_reducible exact ih1 _ _ _)
      | (with_reducible exact flash_Same.mono _ _ _ _)
      | (with_reducible exact neonwrightlaw04_alive.mono _)
      | (with_reducible exact neonwrightlaw04_same.mono _ _ _)
      | (with_reducible exact neonwrightref04_Normal.mono _ _ _)
      | (with_reducible exact neonwrightref04_Same.mono _ _ _ _)
      | (with_reducible exact LeO.refl _)
      | (with_reducible exact LeO.none _)
      | (with_reducible refine LeO.ite ?_ ?_)
      | (with_reducible refine LeO.bind ?_ (fun _ => ?_))
      | exact ih0 _ _ _ _
      | exact ih1 _ _ _
      | exact flash_Same.mono _ _ _ _
      | exact neonwrightlaw04_alive.mono _
      | exact neonwrightlaw04_same.mono _ _ _
      | exact neonwrightref04_Normal.mono _ _ _
      | exact neonwrightref04_Same.mono _ _ _ _
      | exact LeO.none _
      | refine LeO.ite ?_ ?_
      | refine LeO.bind ?_ (fun _ => ?_)
theorem neonwrightlaw04_FlashSame.mono : ∀ a0 a1 a2 k, LeO (neonwrightlaw04_FlashSame.f k a0 a1 a2) (neonwrightlaw04_FlashSame.f (k + 1) a0 a1 a2) := by
  intro a0 a1 a2 k
  obtain ⟨ih0, ih1⟩ := neonwrightlaw04_FlashSame.mono_l k
  unfold neonwrightlaw04_FlashSame.f
  repeat' first
      | (with_reducible exact ih0 _ _ _ _)
      | (with_reducible exact ih1 _ _ _)
      | (with_reducible exact flash_Same.mono _ _ _ _)
      | (with_reducible exact neonwrightlaw04_alive.mono _)
      | (with_reducible exact neonwrightlaw04_same.mono _ _ _)
      | (with_reducible exact neonwrightref04_Normal.mono _ _ _)
      | (with_reducible exact neonwrightref04_Same.mono _ _ _ _)
      | (with_reducible exact LeO.refl _)
      | (with_reducible exact LeO.none _)
      | (with_reducible refine LeO.ite ?_ ?_)
      | (with_reducible refine LeO.bind ?_ (fun _ => ?_))
      | exact ih0 _ _ _ _
      | exact ih1 _ _ _
      | exact flash_Same.mono _ _ _ _
      | exact neonwrightlaw04_alive.mono _
      | exact neonwrightlaw04_same.mono _ _ _
      | exact neonwrightref04_Normal.mono _ _ _
      | exact neonwrightref04_Same.mono _ _ _ _
      | exact LeO.none _
      | refine LeO.ite ?_ ?_
      | refine LeO.bind ?_ (fun _ => ?_)
set_option maxHeartbeats 8000000 in
set_option maxRecDepth 100000 in
theorem neonwrightlaw04_FlashSame.calls (k : Nat) (a0 : Int) (A1 : Option Addr) (c1 : Nat) (l1 : List Int) (A2 : Option Addr) (c2 : Nat) (l2 : List Int) (r : Bool) (w : World) (hr1 : Kd.C (Kd.int .i64) w A1 l1.length l1) (hc1 : l1.length ≤ c1) (hr2 : Kd.C (Kd.int .i64) w A2 l2.length l2) (hc2 : l2.length ≤ c2) (h : neonwrightlaw04_FlashSame.f k a0 l1 l2 = some r) :
    Calls Try.prog 10 #[.int .i64 a0, .slice A1 l1.length c1, .slice A2 l2.length c2] w fun e w' => e = .returned (.bool r) ∧ Below w.heap.size w w' := by
  have HR1 := Aside0.mk hr1
  have HC1 := Aside0.mk hc1
  clear hr1 hc1
  have HR2 := Aside0.mk hr2
  have HC2 := Aside0.mk hc2
  clear hr2 hc2
  have HB := Aside0.mk (Below.refl w.heap.size w)
  have H : ((neonwrightlaw04_few.f l1).bind fun t381 => (if t381 = true then ((neonwrightlaw04_few.f l2).bind fun t382 => (neonwrightlaw04_FlashSame.j0 k a0 l1 l2 (!t382))) else (neonwrightlaw04_FlashSame.j0 k a0 l1 l2 true))) = some r := h
  clear h
  have HC4 := Aside0.mk H
  clear H
  go_enter Try.func10, Try.ntmps10
  go_upto_region 1 with (fail)
  go_cut [20] (fun v20 wc => ∃ (kq : Nat) (x20_3 : Bool), v20 = .bool x20_3 ∧ Aside0 (neonwrightlaw04_FlashSame.j0 kq a0 l1 l2 x20_3 = some r) ∧ Aside0 (kq ≤ k) ∧ Aside0 (Below w.heap.size w wc))
  case first =>
    have H := HC4.out
    clear HC4
    replace H := Option.bind_eq_some_iff.mp H
    obtain ⟨t381, A50, H⟩ := H
    replace H : (if t381 = true then ((neonwrightlaw04_few.f l2).bind fun t382 => (neonwrightlaw04_FlashSame.j0 k a0 l1 l2 (!t382))) else (neonwrightlaw04_FlashSame.j0 k a0 l1 l2 true)) = some r := H
    have A5 := Aside0.mk A50
    clear A50
    by_cases c6 : t381 = true
    · subst c6
      have H1 : ((neonwrightlaw04_few.f l2).bind fun t382 => (neonwrightlaw04_FlashSame.j0 k a0 l1 l2 (!t382))) = some r := by rw [if_pos rfl] at H; exact H
      clear H
      have H := H1
      clear H1
      replace H := Option.bind_eq_some_iff.mp H
      obtain ⟨t382, A70, H⟩ := H
      replace H : (neonwrightlaw04_FlashSame.j0 k a0 l1 l2 (!t382)) = some r := H
      have A7 := Aside0.mk A70
      clear A70
      have H' := Aside0.mk H
      clear H
      go_wp2_with (first | ((with_reducible refine gate_callee (f := 21) rfl ?_); refine goesL_ (some 14) rfl rfl Try.func21 (by kernel_rfl) rfl #[.slice A1 l1.length c1] rfl (by (try simp only [List.map_toArray, List.map_cons, List.map_nil]); first | done | rfl | (simp only [List.length_drop, List.length_take]; rfl)) ?_; (with_reducible refine (neonwrightlaw04_few.calls _ _ l1 true _ ?side1 ?side2 A5.out).mono ?_); (case side1 => repeat (first | exact (Kd.C_below HR1.out HB.out) | (with_reducible refine Kd.C_alloc ?_ _) | (with_reducible refine Kd.C_drewN ?_ _) | (with_reducible refine Kd.C_drew ?_))); (case side2 => exact HC1.out); rintro e w' ⟨rfl, ⟨nd, rfl⟩⟩; refine ⟨_, rfl, ?_⟩) | (go_at_call 21; (with_reducible refine (neonwrightlaw04_few.calls _ _ l2 t382 _ ?side1 ?side2 A7.out).mono ?_); (case side1 => repeat (first | exact (Kd.C_below HR2.out (by repeat (first | (with_reducible first | exact HB.out | apply below_alloc | apply pw_below_drewN | apply below_drew1) | exact HB.out))) | (with_reducible refine Kd.C_alloc ?_ _) | (with_reducible refine Kd.C_drewN ?_ _) | (with_reducible refine Kd.C_drew ?_))); (case side2 => exact HC2.out); rintro e w' ⟨rfl, ⟨nd, rfl⟩⟩))
      go_meet
      case rel => exact ⟨_, (!t382), (by first | rfl | (simp; done) | (simp [*]; done)), H', ⟨by first | omega | exact Nat.le_refl _⟩, ⟨by repeat (first | (with_reducible first | exact HB.out | apply below_alloc | apply pw_below_drewN | apply below_drew1) | exact HB.out)⟩⟩
    · replace c6 := Bool.eq_false_iff.mpr c6
      subst c6
      have H1 : (neonwrightlaw04_FlashSame.j0 k a0 l1 l2 true) = some r := by rw [if_neg (show ¬ (false = true) by decide)] at H; exact H
      clear H
      have H := H1
      clear H1
      have H' := Aside0.mk H
      clear H
      go_wp2_with (first | ((with_reducible refine gate_callee (f := 21) rfl ?_); refine goesL_ (some 14) rfl rfl Try.func21 (by kernel_rfl) rfl #[.slice A1 l1.length c1] rfl (by (try simp only [List.map_toArray, List.map_cons, List.map_nil]); first | done | rfl | (simp only [List.length_drop, List.length_take]; rfl)) ?_; (with_reducible refine (neonwrightlaw04_few.calls _ _ l1 false _ ?side1 ?side2 A5.out).mono ?_); (case side1 => repeat (first | exact (Kd.C_below HR1.out HB.out) | (with_reducible refine Kd.C_alloc ?_ _) | (with_reducible refine Kd.C_drewN ?_ _) | (with_reducible refine Kd.C_drew ?_))); (case side2 => exact HC1.out); rintro e w' ⟨rfl, ⟨nd, rfl⟩⟩; refine ⟨_, rfl, ?_⟩))
      go_meet
      case rel => exact ⟨_, (true), (by first | rfl | (simp; done) | (simp [*]; done)), H', ⟨by first | omega | exact Nat.le_refl _⟩, ⟨by repeat (first | (with_reducible first | exact HB.out | apply below_alloc | apply pw_below_drewN | apply below_drew1) | exact HB.out)⟩⟩
  case rest =>
    clear HC4
    try clear c1
    try clear c2
    try clear p2
    try clear c6
    obtain ⟨kq, x20_3, rfl, HA, HJ3, HB⟩ := hcut
    cases kq with
    | zero => exact absurd HA.out (by simp [neonwrightlaw04_FlashSame.j0])
    | succ kj3 =>
      have H := HA.out
      clear HA
      simp only [neonwrightlaw04_FlashSame.j0] at H
      by_cases c8 : x20_3 = true
      · subst c8
        have H1 : ((neonwrightlaw04_alive.f kj3).bind fun t383 => (some t383)) = some r := by rw [if_pos rfl] at H; exact H
        clear H
        have H := H1
        clear H1
        replace H := Option.bind_eq_some_iff.mp H
        obtain ⟨t383, A90, H⟩ := H
        replace H : (some t383) = some r := H
        have A9 := Aside0.mk A90
        clear A90
        obtain rfl := Option.some.inj H
        go_wp2_with (first | ((with_reducible refine gate_callee (f := 20) rfl ?_); refine goesL_ (some 21) rfl rfl Try.func20 (by kernel_rfl) rfl #[] rfl (by (try simp only [List.map_toArray, List.map_cons, List.map_nil]); first | done | rfl | (simp only [List.length_drop, List.length_take]; rfl)) ?_; (with_reducible refine (neonwrightlaw04_alive.calls kj3  t383 _ A9.out).mono ?_); rintro e w10 ⟨rfl, hb⟩; refine ⟨_, rfl, ?_⟩; have n0_ := Aside0.mk (below_step (by repeat (first | (with_reducible first | exact HB.out | apply below_alloc | apply pw_below_drewN | apply below_drew1) | exact HB.out)) hb); clear HB; have HB := n0_; clear n0_; (try clear hb); (try clear hb2); (try clear hk); (try clear hi)))
        go_ret
        exact ⟨by first | rfl | (simp [errW_none, errW_some] <;> rfl) | (simp [*, errW_none, errW_some] <;> rfl), by repeat (first | (with_reducible first | exact HB.out | apply below_alloc | apply pw_below_drewN | apply below_drew1) | exact HB.out)⟩
      · replace c8 := Bool.eq_false_iff.mpr c8
        subst c8
        have H1 : ((flash_Same.f kj3 a0 l1 l2).bind fun bt384 => ((neonwrightref04_Same.f kj3 a0 l1 l2).bind fun bt386 => (if (bt384.1 != bt386.1) = true then (neonwrightlaw04_FlashSame.j1 kj3 a0 l1 true) else (neonwrightlaw04_FlashSame.j1 kj3 a0 l1 (bt384.2 != bt386.2))))) = some r := by rw [if_neg (show ¬ (false = true) by decide)] at H; exact H
        clear H
        have H := H1
        clear H1
        replace H := Option.bind_eq_some_iff.mp H
        obtain ⟨⟨t384, t385⟩, A110, H⟩ := H
        replace H : ((neonwrightref04_Same.f kj3 a0 l1 l2).bind fun bt386 => (if (t384 != bt386.1) = true then (neonwrightlaw04_FlashSame.j1 kj3 a0 l1 true) else (neonwrightlaw04_FlashSame.j1 kj3 a0 l1 (t385 != bt386.2)))) = some r := H
        have A11 := Aside0.mk A110
        clear A110
        replace H := Option.bind_eq_some_iff.mp H
        obtain ⟨⟨t386, t387⟩, A120, H⟩ := H
        replace H : (if (t384 != t386) = true then (neonwrightlaw04_FlashSame.j1 kj3 a0 l1 true) else (neonwrightlaw04_FlashSame.j1 kj3 a0 l1 (t385 != t387))) = some r := H
        have A12 := Aside0.mk A120
        clear A120
        have HC13 := Aside0.mk H
        clear H
        go_upto_region 5 with (first | ((with_reducible refine gate_callee (f := 31) rfl ?_); refine goesL_ (some 26) rfl rfl Try.func31 (by kernel_rfl) rfl #[.int .i64 a0, .slice A1 l1.length c1, .slice A2 l2.length c2] rfl (by (try simp only [List.map_toArray, List.map_cons, List.map_nil]); first | done | rfl | (simp only [List.length_drop, List.length_take]; rfl)) ?_; (with_reducible refine (flash_Same.calls kj3 a0 _ _ l1 _ _ l2 t384 t385 _ ?side1 ?side2 ?side3 ?side4 A11.out).mono ?_); (case side1 => repeat (first | exact (Kd.C_below HR1.out HB.out) | (with_reducible refine Kd.C_alloc ?_ _) | (with_reducible refine Kd.C_drewN ?_ _) | (with_reducible refine Kd.C_drew ?_))); (case side2 => exact HC1.out); (case side3 => repeat (first | exact (Kd.C_below HR2.out HB.out) | (with_reducible refine Kd.C_alloc ?_ _) | (with_reducible refine Kd.C_drewN ?_ _) | (with_reducible refine Kd.C_drew ?_))); (case side4 => exact HC2.out); rintro e w14 ⟨rfl, hb⟩; refine ⟨_, rfl, ?_⟩; have n0_ := Aside0.mk (below_step (by repeat (first | (with_reducible first | exact HB.out | apply below_alloc | apply pw_below_drewN | apply below_drew1) | exact HB.out)) hb); clear HB; have HB := n0_; clear n0_; (try clear hb); (try clear hb2); (try clear hk); (try clear hi)) | ((with_reducible refine gate_callee (f := 32) rfl ?_); refine goesL_ (some 33) rfl rfl Try.func32 (by kernel_rfl) rfl #[.int .i64 a0, .slice A1 l1.length c1, .slice A2 l2.length c2] rfl (by (try simp only [List.map_toArray, List.map_cons, List.map_nil]); first | done | rfl | (simp only [List.length_drop, List.length_take]; rfl)) ?_; (with_reducible refine (neonwrightref04_Same.calls kj3 a0 _ _ l1 _ _ l2 t386 t387 _ ?side1 ?side2 ?side3 ?side4 A12.out).mono ?_); (case side1 => repeat (first | exact (Kd.C_below HR1.out HB.out) | (with_reducible refine Kd.C_alloc ?_ _) | (with_reducible refine Kd.C_drewN ?_ _) | (with_reducible refine Kd.C_drew ?_))); (case side2 => exact HC1.out); (case side3 => repeat (first | exact (Kd.C_below HR2.out HB.out) | (with_reducible refine Kd.C_alloc ?_ _) | (with_reducible refine Kd.C_drewN ?_ _) | (with_reducible refine Kd.C_drew ?_))); (case side4 => exact HC2.out); rintro e w15 ⟨rfl, hb⟩; refine ⟨_, rfl, ?_⟩; have n0_ := Aside0.mk (below_step (by repeat (first | (with_reducible first | exact HB.out | apply below_alloc | apply pw_below_drewN | apply below_drew1) | exact HB.out)) hb); clear HB; have HB := n0_; clear n0_; (try clear hb); (try clear hb2); (try clear hk); (try clear hi)))
        (try simp only [Act.put, List.setIfInBounds_toArray, List.set_cons_zero, List.set_cons_succ])
        go_cut [43] (fun v43 wc => ∃ (kq : Nat) (x43_12 : Bool), v43 = .bool x43_12 ∧ Aside0 (neonwrightlaw04_FlashSame.j1 kq a0 l1 x43_12 = some r) ∧ Aside0 (kq ≤ kj3) ∧ Aside0 (Below w.heap.size w wc))
        case first =>
          have H := HC13.out
          clear HC13
          by_cases c16 : (t384 != t386) = true
          · rw [if_pos c16] at H
            have c16b0 : (t384 != t386) = true := c16
            (try (have c16b1 : decide (t384 = t386) = false := by simpa using c16))
            (try (have c16b2 : (t384 == t386) = false := by simpa using c16))
            (try (have c16b3 : ¬ (t384 = t386) := by simpa using c16))
            clear c16
            (first | rw [c16b0] | (simp only [i64_w, i32_w]; rw [c16b0]) | skip)
            have H' := Aside0.mk H
            clear H
            go_wp2
            go_meet
            case rel => exact ⟨_, (true), (by first | rfl | (simp; done) | (simp [*]; done)), H', ⟨by have := HJ3.out; first | omega | exact Nat.le_refl _⟩, ⟨by repeat (first | (with_reducible first | exact HB.out | apply below_alloc | apply pw_below_drewN | apply below_drew1) | exact HB.out)⟩⟩
          · rw [if_neg c16] at H
            have c16b0 : (t384 != t386) = false := by simpa using c16
            (try (have c16b1 : decide (t384 = t386) = true := by simpa using c16))
            (try (have c16b2 : (t384 == t386) = true := by simpa using c16))
            clear c16
            (first | rw [c16b0] | (simp only [i64_w, i32_w]; rw [c16b0]) | skip)
            have H' := Aside0.mk H
            clear H
            go_wp2
            go_meet
            case rel => exact ⟨_, ((t385 != t387)), (by first | rfl | (simp; done) | (simp [*]; done)), H', ⟨by have := HJ3.out; first | omega | exact Nat.le_refl _⟩, ⟨by repeat (first | (with_reducible first | exact HB.out | apply below_alloc | apply pw_below_drewN | apply below_drew1) | exact HB.out)⟩⟩
        case rest =>
          clear HC13
          try clear c1
          try clear c2
          try clear p2
          try clear c3
          try clear c6
          try clear c8
          try clear c10
          try clear c16
          try clear c16b0
          try clear c16b1
          try clear c16b2
          try clear p2
          obtain ⟨kq, x43_12, rfl, HA, HJ12, HB⟩ := hcut
          cases kq with
          | zero => exact absurd HA.out (by simp [neonwrightlaw04_FlashSame.j1])
          | succ kj12 =>
            have H := HA.out
            clear HA
            simp only [neonwrightlaw04_FlashSame.j1] at H
            by_cases c17 : x43_12 = true
            · subst c17
              have H1 : (some false) = some r := by rw [if_pos rfl] at H; exact H
              clear H
              have H := H1
              clear H1
              obtain rfl := Option.some.inj H
              go_wp2
              go_ret
              exact ⟨by first | rfl | (simp [errW_none, errW_some] <;> rfl) | (simp [*, errW_none, errW_some] <;> rfl), by repeat (first | (with_reducible first | exact HB.out | apply below_alloc | apply pw_below_drewN | apply below_drew1) | exact HB.out)⟩
            · replace c17 := Bool.eq_false_iff.mpr c17
              subst c17
              have H1 : ((flash_Normal.f a0 l1).bind fun bt388 => ((neonwrightref04_Normal.f kj12 a0 l1).bind fun bt392 => ((neonwrightlaw04_same.f kj12 bt388.1 bt392.1).bind fun t396 => (if t396 = true then (if bt388.2 = bt392.2 then ((neonwrightlaw04_alive.f kj12).bind fun t397 => (some t397)) else (some false)) else (some false))))) = some r := by rw [if_neg (show ¬ (false = true) by decide)] at H; exact H
              clear H
              have H := H1
              clear H1
              replace H := Option.bind_eq_some_iff.mp H
              obtain ⟨⟨t388, t389⟩, A180, H⟩ := H
              replace H : ((neonwrightref04_Normal.f kj12 a0 l1).bind fun bt392 => ((neonwrightlaw04_same.f kj12 t388 bt392.1).bind fun t396 => (if t396 = true then (if t389 = bt392.2 then ((neonwrightlaw04_alive.f kj12).bind fun t397 => (some t397)) else (some false)) else (some false)))) = some r := H
              have A18 := Aside0.mk A180
              clear A180
              replace H := Option.bind_eq_some_iff.mp H
              obtain ⟨⟨t392, t393⟩, A190, H⟩ := H
              replace H : ((neonwrightlaw04_same.f kj12 t388 t392).bind fun t396 => (if t396 = true then (if t389 = t393 then ((neonwrightlaw04_alive.f kj12).bind fun t397 => (some t397)) else (some false)) else (some false))) = some r := H
              have A19 := Aside0.mk A190
              clear A190
              replace H := Option.bind_eq_some_iff.mp H
              obtain ⟨t396, A200, H⟩ := H
              replace H : (if t396 = true then (if t389 = t393 then ((neonwrightlaw04_alive.f kj12).bind fun t397 => (some t397)) else (some false)) else (some false)) = some r := H
              have A20 := Aside0.mk A200
              clear A200
              by_cases c21 : t396 = true
              · subst c21
                have H1 : (if t389 = t393 then ((neonwrightlaw04_alive.f kj12).bind fun t397 => (some t397)) else (some false)) = some r := by rw [if_pos rfl] at H; exact H
                clear H
                have H := H1
                clear H1
                by_cases c22 : t389 = t393
                · rw [if_pos c22] at H
                  have c22b0 : (t389 == t393) = true := beq_iff_eq.mpr c22
                  have c22b1 : (t389 != t393) = false := bne_eq_false_iff_eq.mpr c22
                  clear c22
                  replace H := Option.bind_eq_some_iff.mp H
                  obtain ⟨t397, A230, H⟩ := H
                  replace H : (some t397) = some r := H
                  have A23 := Aside0.mk A230
                  clear A230
                  obtain rfl := Option.some.inj H
                  go_wp2_with (first | ((with_reducible refine gate_callee (f := 33) rfl ?_); refine goesL_ (some 47) rfl rfl Try.func33 (by kernel_rfl) rfl #[.int .i64 a0, .slice A1 l1.length c1] rfl (by (try simp only [List.map_toArray, List.map_cons, List.map_nil]); first | done | rfl | (simp only [List.length_drop, List.length_take]; rfl)) ?_; (with_reducible refine (flash_Normal.calls a0 _ _ l1 t388 t389 _ ?side1 ?side2 A18.out).mono ?_); (case side1 => repeat (first | exact (Kd.C_below HR1.out HB.out) | (with_reducible refine Kd.C_alloc ?_ _) | (with_reducible refine Kd.C_drewN ?_ _) | (with_reducible refine Kd.C_drew ?_))); (case side2 => exact HC1.out); rintro e w24 ⟨v390, rfl, ho0, hb⟩; refine ⟨_, rfl, ?_⟩; have n0_ := Aside0.mk (Kd.R_lower ho0 (below_size (by repeat (first | (with_reducible first | exact HB.out | apply below_alloc | apply pw_below_drewN | apply below_drew1) | exact HB.out)))); have n1_ := Aside0.mk (below_step (by repeat (first | (with_reducible first | exact HB.out | apply below_alloc | apply pw_below_drewN | apply below_drew1) | exact HB.out)) hb); clear HB; have HO391 := n0_; have HB := n1_; clear n0_ n1_; (try clear hb); (try clear hb2); (try clear hk); (try clear hi); (try clear ho0)) | ((with_reducible refine gate_callee (f := 34) rfl ?_); refine goesL_ (some 53) rfl rfl Try.func34 (by kernel_rfl) rfl #[.int .i64 a0, .slice A1 l1.length c1] rfl (by (try simp only [List.map_toArray, List.map_cons, List.map_nil]); first | done | rfl | (simp only [List.length_drop, List.length_take]; rfl)) ?_; (with_reducible refine (neonwrightref04_Normal.calls kj12 a0 _ _ l1 t392 t393 _ ?side1 ?side2 A19.out).mono ?_); (case side1 => repeat (first | exact (Kd.C_below HR1.out HB.out) | (with_reducible refine Kd.C_alloc ?_ _) | (with_reducible refine Kd.C_drewN ?_ _) | (with_reducible refine Kd.C_drew ?_))); (case side2 => exact HC1.out); rintro e w25 ⟨v394, rfl, ho0, hb⟩; refine ⟨_, rfl, ?_⟩; have n0_ := Aside0.mk (Kd.R_elder' (by (with_reducible repeat (first | apply Kd.R_alloc | apply Kd.R_drewN | apply Kd.R_drew)); exact HO391.out) (Kd.R_base ho0) hb); have n1_ := Aside0.mk (Kd.R_lower (Kd.R_new' ho0 (Kd.R_lt (by (with_reducible repeat (first | apply Kd.R_alloc | apply Kd.R_drewN | apply Kd.R_drew)); exact HO391.out))) (below_size (by repeat (first | (with_reducible first | exact HB.out | apply below_alloc | apply pw_below_drewN | apply below_drew1) | exact HB.out)))); have n2_ := Aside0.mk (below_step (by repeat (first | (with_reducible first | exact HB.out | apply below_alloc | apply pw_below_drewN | apply below_drew1) | exact HB.out)) hb); clear HO391; clear HB; have HO391 := n0_; have HO395 := n1_; have HB := n2_; clear n0_ n1_ n2_; (try clear hb); (try clear hb2); (try clear hk); (try clear hi); (try clear ho0); obtain ⟨Ao26, co26, eo26⟩ := Kd.R_slice HO391.out; subst eo26; obtain ⟨Ao27, co27, eo27⟩ := Kd.R_slice HO395.out; subst eo27) | ((with_reducible refine gate_callee (f := 19) rfl ?_); refine goesL_ (some 58) rfl rfl Try.func19 (by kernel_rfl) rfl #[.slice Ao26 t388.length co26, .slice Ao27 t392.length co27] rfl (by (try simp only [List.map_toArray, List.map_cons, List.map_nil]); first | done | rfl | (simp only [List.length_drop, List.length_take]; rfl)) ?_; (with_reducible refine (neonwrightlaw04_same.calls kj12 _ _ t388 _ _ t392 true _ ?side1 ?side2 ?side3 ?side4 A20.out).mono ?_); (case side1 => repeat (first | exact (Kd.R_reads' HO391.out).2.2 | (with_reducible refine Kd.C_alloc ?_ _) | (with_reducible refine Kd.C_drewN ?_ _) | (with_reducible refine Kd.C_drew ?_))); (case side2 => exact (Kd.R_reads' HO391.out).2.1); (case side3 => repeat (first | exact (Kd.R_reads' HO395.out).2.2 | (with_reducible refine Kd.C_alloc ?_ _) | (with_reducible refine Kd.C_drewN ?_ _) | (with_reducible refine Kd.C_drew ?_))); (case side4 => exact (Kd.R_reads' HO395.out).2.1); rintro e w' ⟨rfl, ⟨nd, rfl⟩⟩; refine ⟨_, rfl, ?_⟩) | (go_at_call 20; (with_reducible refine (neonwrightlaw04_alive.calls kj12  t397 _ A23.out).mono ?_); rintro e w28 ⟨rfl, hb⟩; have n0_ := Aside0.mk (Kd.R_below (by (with_reducible repeat (first | apply Kd.R_alloc | apply Kd.R_drewN | apply Kd.R_drew)); exact HO391.out) hb); have n1_ := Aside0.mk (Kd.R_below (by (with_reducible repeat (first | apply Kd.R_alloc | apply Kd.R_drewN | apply Kd.R_drew)); exact HO395.out) hb); have n2_ := Aside0.mk (below_step (by repeat (first | (with_reducible first | exact HB.out | apply below_alloc | apply pw_below_drewN | apply below_drew1) | exact HB.out)) hb); clear HO391; clear HO395; clear HB; have HO391 := n0_; have HO395 := n1_; have HB := n2_; clear n0_ n1_ n2_; (try clear hb); (try clear hb2); (try clear hk); (try clear hi)))
                  go_ret
                  exact ⟨by first | rfl | (simp [errW_none, errW_some] <;> rfl) | (simp [*, errW_none, errW_some] <;> rfl), by repeat (first | (with_reducible first | exact HB.out | apply below_alloc | apply pw_below_drewN | apply below_drew1) | exact HB.out)⟩
                · rw [if_neg c22] at H
                  have c22b0 : (t389 == t393) = false := beq_eq_false_iff_ne.mpr c22
                  have c22b1 : (t389 != t393) = true := bne_iff_ne.mpr c22
                  obtain rfl := Option.some.inj H
                  go_wp2_with (first | ((with_reducible refine gate_callee (f := 33) rfl ?_); refine goesL_ (some 47) rfl rfl Try.func33 (by kernel_rfl) rfl #[.int .i64 a0, .slice A1 l1.length c1] rfl (by (try simp only [List.map_toArray, List.map_cons, List.map_nil]); first | done | rfl | (simp only [List.length_drop, List.length_take]; rfl)) ?_; (with_reducible refine (flash_Normal.calls a0 _ _ l1 t388 t389 _ ?side1 ?side2 A18.out).mono ?_); (case side1 => repeat (first | exact (Kd.C_below HR1.out HB.out) | (with_reducible refine Kd.C_alloc ?_ _) | (with_reducible refine Kd.C_drewN ?_ _) | (with_reducible refine Kd.C_drew ?_))); (case side2 => exact HC1.out); rintro e w29 ⟨v390, rfl, ho0, hb⟩; refine ⟨_, rfl, ?_⟩; have n0_ := Aside0.mk (Kd.R_lower ho0 (below_size (by repeat (first | (with_reducible first | exact HB.out | apply below_alloc | apply pw_below_drewN | apply below_drew1) | exact HB.out)))); have n1_ := Aside0.mk (below_step (by repeat (first | (with_reducible first | exact HB.out | apply below_alloc | apply pw_below_drewN | apply below_drew1) | exact HB.out)) hb); clear HB; have HO391 := n0_; have HB := n1_; clear n0_ n1_; (try clear hb); (try clear hb2); (try clear hk); (try clear hi); (try clear ho0)) | ((with_reducible refine gate_callee (f := 34) rfl ?_); refine goesL_ (some 53) rfl rfl Try.func34 (by kernel_rfl) rfl #[.int .i64 a0, .slice A1 l1.length c1] rfl (by (try simp only [List.map_toArray, List.map_cons, List.map_nil]); first | done | rfl | (simp only [List.length_drop, List.length_take]; rfl)) ?_; (with_reducible refine (neonwrightref04_Normal.calls kj12 a0 _ _ l1 t392 t393 _ ?side1 ?side2 A19.out).mono ?_); (case side1 => repeat (first | exact (Kd.C_below HR1.out HB.out) | (with_reducible refine Kd.C_alloc ?_ _) | (with_reducible refine Kd.C_drewN ?_ _) | (with_reducible refine Kd.C_drew ?_))); (case side2 => exact HC1.out); rintro e w30 ⟨v394, rfl, ho0, hb⟩; refine ⟨_, rfl, ?_⟩; have n0_ := Aside0.mk (Kd.R_elder' (by (with_reducible repeat (first | apply Kd.R_alloc | apply Kd.R_drewN | apply Kd.R_drew)); exact HO391.out) (Kd.R_base ho0) hb); have n1_ := Aside0.mk (Kd.R_lower (Kd.R_new' ho0 (Kd.R_lt (by (with_reducible repeat (first | apply Kd.R_alloc | apply Kd.R_drewN | apply Kd.R_drew)); exact HO391.out))) (below_size (by repeat (first | (with_reducible first | exact HB.out | apply below_alloc | apply pw_below_drewN | apply below_drew1) | exact HB.out)))); have n2_ := Aside0.mk (below_step (by repeat (first | (with_reducible first | exact HB.out | apply below_alloc | apply pw_below_drewN | apply below_drew1) | exact HB.out)) hb); clear HO391; clear HB; have HO391 := n0_; have HO395 := n1_; have HB := n2_; clear n0_ n1_ n2_; (try clear hb); (try clear hb2); (try clear hk); (try clear hi); (try clear ho0); obtain ⟨Ao31, co31, eo31⟩ := Kd.R_slice HO391.out; subst eo31; obtain ⟨Ao32, co32, eo32⟩ := Kd.R_slice HO395.out; subst eo32) | ((with_reducible refine gate_callee (f := 19) rfl ?_); refine goesL_ (some 58) rfl rfl Try.func19 (by kernel_rfl) rfl #[.slice Ao31 t388.length co31, .slice Ao32 t392.length co32] rfl (by (try simp only [List.map_toArray, List.map_cons, List.map_nil]); first | done | rfl | (simp only [List.length_drop, List.length_take]; rfl)) ?_; (with_reducible refine (neonwrightlaw04_same.calls kj12 _ _ t388 _ _ t392 true _ ?side1 ?side2 ?side3 ?side4 A20.out).mono ?_); (case side1 => repeat (first | exact (Kd.R_reads' HO391.out).2.2 | (with_reducible refine Kd.C_alloc ?_ _) | (with_reducible refine Kd.C_drewN ?_ _) | (with_reducible refine Kd.C_drew ?_))); (case side2 => exact (Kd.R_reads' HO391.out).2.1); (case side3 => repeat (first | exact (Kd.R_reads' HO395.out).2.2 | (with_reducible refine Kd.C_alloc ?_ _) | (with_reducible refine Kd.C_drewN ?_ _) | (with_reducible refine Kd.C_drew ?_))); (case side4 => exact (Kd.R_reads' HO395.out).2.1); rintro e w' ⟨rfl, ⟨nd, rfl⟩⟩; refine ⟨_, rfl, ?_⟩))
                  go_ret
                  exact ⟨by first | rfl | (simp [errW_none, errW_some] <;> rfl) | (simp [*, errW_none, errW_some] <;> rfl), by repeat (first | (with_reducible first | exact HB.out | apply below_alloc | apply pw_below_drewN | apply below_drew1) | exact HB.out)⟩
              · replace c21 := Bool.eq_false_iff.mpr c21
                subst c21
                have H1 : (some false) = some r := by rw [if_neg (show ¬ (false = true) by decide)] at H; exact H
                clear H
                have H := H1
                clear H1
                obtain rfl := Option.some.inj H
                go_wp2_with (first | ((with_reducible refine gate_callee (f := 33) rfl ?_); refine goesL_ (some 47) rfl rfl Try.func33 (by kernel_rfl) rfl #[.int .i64 a0, .slice A1 l1.length c1] rfl (by (try simp only [List.map_toArray, List.map_cons, List.map_nil]); first | done | rfl | (simp only [List.length_drop, List.length_take]; rfl)) ?_; (with_reducible refine (flash_Normal.calls a0 _ _ l1 t388 t389 _ ?side1 ?side2 A18.out).mono ?_); (case side1 => repeat (first | exact (Kd.C_below HR1.out HB.out) | (with_reducible refine Kd.C_alloc ?_ _) | (with_reducible refine Kd.C_drewN ?_ _) | (with_reducible refine Kd.C_drew ?_))); (case side2 => exact HC1.out); rintro e w33 ⟨v390, rfl, ho0, hb⟩; refine ⟨_, rfl, ?_⟩; have n0_ := Aside0.mk (Kd.R_lower ho0 (below_size (by repeat (first | (with_reducible first | exact HB.out | apply below_alloc | apply pw_below_drewN | apply below_drew1) | exact HB.out)))); have n1_ := Aside0.mk (below_step (by repeat (first | (with_reducible first | exact HB.out | apply below_alloc | apply pw_below_drewN | apply below_drew1) | exact HB.out)) hb); clear HB; have HO391 := n0_; have HB := n1_; clear n0_ n1_; (try clear hb); (try clear hb2); (try clear hk); (try clear hi); (try clear ho0)) | ((with_reducible refine gate_callee (f := 34) rfl ?_); refine goesL_ (some 53) rfl rfl Try.func34 (by kernel_rfl) rfl #[.int .i64 a0, .slice A1 l1.length c1] rfl (by (try simp only [List.map_toArray, List.map_cons, List.map_nil]); first | done | rfl | (simp only [List.length_drop, List.length_take]; rfl)) ?_; (with_reducible refine (neonwrightref04_Normal.calls kj12 a0 _ _ l1 t392 t393 _ ?side1 ?side2 A19.out).mono ?_); (case side1 => repeat (first | exact (Kd.C_below HR1.out HB.out) | (with_reducible refine Kd.C_alloc ?_ _) | (with_reducible refine Kd.C_drewN ?_ _) | (with_reducible refine Kd.C_drew ?_))); (case side2 => exact HC1.out); rintro e w34 ⟨v394, rfl, ho0, hb⟩; refine ⟨_, rfl, ?_⟩; have n0_ := Aside0.mk (Kd.R_elder' (by (with_reducible repeat (first | apply Kd.R_alloc | apply Kd.R_drewN | apply Kd.R_drew)); exact HO391.out) (Kd.R_base ho0) hb); have n1_ := Aside0.mk (Kd.R_lower (Kd.R_new' ho0 (Kd.R_lt (by (with_reducible repeat (first | apply Kd.R_alloc | apply Kd.R_drewN | apply Kd.R_drew)); exact HO391.out))) (below_size (by repeat (first | (with_reducible first | exact HB.out | apply below_alloc | apply pw_below_drewN | apply below_drew1) | exact HB.out)))); have n2_ := Aside0.mk (below_step (by repeat (first | (with_reducible first | exact HB.out | apply below_alloc | apply pw_below_drewN | apply below_drew1) | exact HB.out)) hb); clear HO391; clear HB; have HO391 := n0_; have HO395 := n1_; have HB := n2_; clear n0_ n1_ n2_; (try clear hb); (try clear hb2); (try clear hk); (try clear hi); (try clear ho0); obtain ⟨Ao35, co35, eo35⟩ := Kd.R_slice HO391.out; subst eo35; obtain ⟨Ao36, co36, eo36⟩ := Kd.R_slice HO395.out; subst eo36) | ((with_reducible refine gate_callee (f := 19) rfl ?_); refine goesL_ (some 58) rfl rfl Try.func19 (by kernel_rfl) rfl #[.slice Ao35 t388.length co35, .slice Ao36 t392.length co36] rfl (by (try simp only [List.map_toArray, List.map_cons, List.map_nil]); first | done | rfl | (simp only [List.length_drop, List.length_take]; rfl)) ?_; (with_reducible refine (neonwrightlaw04_same.calls kj12 _ _ t388 _ _ t392 false _ ?side1 ?side2 ?side3 ?side4 A20.out).mono ?_); (case side1 => repeat (first | exact (Kd.R_reads' HO391.out).2.2 | (with_reducible refine Kd.C_alloc ?_ _) | (with_reducible refine Kd.C_drewN ?_ _) | (with_reducible refine Kd.C_drew ?_))); (case side2 => exact (Kd.R_reads' HO391.out).2.1); (case side3 => repeat (first | exact (Kd.R_reads' HO395.out).2.2 | (with_reducible refine Kd.C_alloc ?_ _) | (with_reducible refine Kd.C_drewN ?_ _) | (with_reducible refine Kd.C_drew ?_))); (case side4 => exact (Kd.R_reads' HO395.out).2.1); rintro e w' ⟨rfl, ⟨nd, rfl⟩⟩; refine ⟨_, rfl, ?_⟩))
                go_ret
                exact ⟨by first | rfl | (simp [errW_none, errW_some] <;> rfl) | (simp [*, errW_none, errW_some] <;> rfl), by repeat (first | (with_reducible first | exact HB.out | apply below_alloc | apply pw_below_drewN | apply below_drew1) | exact HB.out)⟩

/-- THE ONE PURE STATEMENT of neonwrightlaw04_FlashSame: yours. -/
def neonwrightlaw04_FlashSame.Pure : Prop := ∀ (a0 : Int) (l1 : List Int) (l2 : List Int), (Lit.int .i64 a0).wf = true → l1.length ≤ maxLen → l1.length * 8 ≤ 140737488351232 → (∀ x ∈ l1, (Lit.int .i64 x).wf = true) → l2.length ≤ maxLen → l2.length * 8 ≤ 140737488351232 → (∀ x ∈ l2, (Lit.int .i64 x).wf = true) → ∃ k, neonwrightlaw04_FlashSame.f k a0 l1 l2 = some true
theorem neonwrightlaw04_FlashSame.walk (P : neonwrightlaw04_FlashSame.Pure) (a0 : Int) (a1 : Option Addr) (len1 cap1 : Nat) (z1 : List Int) (a2 : Option Addr) (len2 cap2 : Nat) (z2 : List Int) (w : World) (w0 : (Lit.int .i64 a0).wf = true) (w1 : (a1 = none ∧ len1 = 0 ∧ cap1 = 0 ∧ z1 = []) ∨ ∃ x, a1 = some x ∧ len1 ≤ cap1 ∧ cap1 ≤ maxLen ∧ z1.length = cap1 ∧ (∀ i, i < z1.length → w.cell? (x.add i) = some (.int .i64 (z1.getD i 0))) ∧ ∀ n ∈ z1, (Lit.int .i64 n).wf = true) (y1 : len1 * 8 ≤ 140737488351232) (w2 : (a2 = none ∧ len2 = 0 ∧ cap2 = 0 ∧ z2 = []) ∨ ∃ x, a2 = some x ∧ len2 ≤ cap2 ∧ cap2 ≤ maxLen ∧ z2.length = cap2 ∧ (∀ i, i < z2.length → w.cell? (x.add i) = some (.int .i64 (z2.getD i 0))) ∧ ∀ n ∈ z2, (Lit.int .i64 n).wf = true) (y2 : len2 * 8 ≤ 140737488351232) :
    Calls Try.prog 10 #[.int .i64 a0, .slice a1 len1 cap1, .slice a2 len2 cap2] w fun e w' => e = .returned (.bool true) ∧ Below w.heap.size w w' := by
  obtain ⟨l1, rfl, hr1, hm1, hw1, hc1⟩ := ReadsInt.ofRowC w1
  obtain ⟨l2, rfl, hr2, hm2, hw2, hc2⟩ := ReadsInt.ofRowC w2
  obtain ⟨k, h⟩ := P a0 l1 l2 w0 hm1 y1 hw1 hm2 y2 hw2
  refine (neonwrightlaw04_FlashSame.calls k a0 _ _ l1 _ _ l2 true w (Kd.C_of_reads (d := (0 : Int)) (h1 := fun _ => rfl) hr1) hc1 (Kd.C_of_reads (d := (0 : Int)) (h1 := fun _ => rfl) hr2) hc2 h).mono ?_
  rintro e w' ⟨rfl, hd⟩
  exact ⟨rfl, hd⟩

end Go.Proofs.Ytnakkdaeehglnaa.P

namespace Go.Proofs.Ytnakkdaeehglnaa.P
open Go.RowKit Go.Proofs.YtnakkdaeehglnaaW.PrintWords Go.Proofs.YtnakkdaeehglnaaW.PrintLast Go.Proofs.YtnakkdaeehglnaaW.PrintMore
attribute [local go_sem] max2_int min2_int max_two min_two max_three min_three max_four min_four   -- for this text's walks alone
set_option linter.unusedVariables false
set_option linter.unusedSimpArgs false

/-! ### flash_Path: function 35 -/
def flash_Path.f (a0 : Int) (l1 : List Int) : Option (Bool × Bool × Int) := (flash_listed.f a0 l1).bind fun t398 => (if t398 = 0 then ((flash_path.f l1).bind fun t399 => (if t399 = true then ((flash_closed.f l1).bind fun t400 => (some (t399, t400, 0))) else (some (t399, false, 0)))) else (some (false, false, t398)))
set_option maxHeartbeats 8000000 in
set_option maxRecDepth 100000 in
theorem flash_Path.calls (a0 : Int) (A1 : Option Addr) (c1 : Nat) (l1 : List Int) (r1 : Bool) (r2 : Bool) (r3 : Int) (w : World) (hr1 : Kd.C (Kd.int .i64) w A1 l1.length l1) (hc1 : l1.length ≤ c1) (h : flash_Path.f a0 l1 = some (r1, r2, r3)) :
    Calls Try.prog 35 #[.int .i64 a0, .slice A1 l1.length c1] w fun e w' => e = .returned (.tuple #[.bool r1, .bool r2, .int .i64 r3]) ∧ Below w.heap.size w w' := by
  have HR1 := Aside0.mk hr1
  have HC1 := Aside0.mk hc1
  clear hr1 hc1
  have HB := Aside0.mk (Below.refl w.heap.size w)
  have H : ((flash_listed.f a0 l1).bind fun t398 => (if t398 = 0 then ((flash_path.f l1).bind fun t399 => (if t399 = true then ((flash_closed.f l1).bind fun t400 => (some (t399, t400, 0))) else (some (t399, false, 0)))) else (some (false, false, t398)))) = some (r1, r2, r3) := h
  clear h
  replace H := Option.bind_eq_some_iff.mp H
  obtain ⟨t398, A30, H⟩ := H
  replace H : (if t398 = 0 then ((flash_path.f l1).bind fun t399 => (if t399 = true then ((flash_closed.f l1).bind fun t400 => (some (t399, t400, 0))) else (some (t399, false, 0)))) else (some (false, false, t398))) = some (r1, r2, r3) := H
  have A3 := Aside0.mk A30
  clear A30
  by_cases c4 : t398 = 0
  · rw [if_pos c4] at H
    have c4b0 : (t398 == 0) = true := beq_iff_eq.mpr c4
    have c4b1 : (t398 != 0) = false := bne_eq_false_iff_eq.mpr c4
    clear c4
    replace H := Option.bind_eq_some_iff.mp H
    obtain ⟨t399, A50, H⟩ := H
    replace H : (if t399 = true then ((flash_closed.f l1).bind fun t400 => (some (t399, t400, 0))) else (some (t399, false, 0))) = some (r1, r2, r3) := H
    have A5 := Aside0.mk A50
    clear A50
    by_cases c6 : t399 = true
    · subst c6
      have H1 : ((flash_closed.f l1).bind fun t400 => (some (true, t400, 0))) = some (r1, r2, r3) := by rw [if_pos rfl] at H; exact H
      clear H
      have H := H1
      clear H1
      replace H := Option.bind_eq_some_iff.mp H
      obtain ⟨t400, A70, H⟩ := H
      replace H : (some (true, t400, 0)) = some (r1, r2, r3) := H
      have A7 := Aside0.mk A70
      clear A70
      simp only [Option.some.injEq, Prod.mk.injEq] at H
      obtain ⟨rfl, rfl, rfl⟩ := H
      go_enter Try.func35, Try.ntmps35
      go_wp2_with (first | ((with_reducible refine gate_callee (f := 50) rfl ?_); refine goesL_ (some 11) rfl rfl Try.func50 (by kernel_rfl) rfl #[.int .i64 a0, .slice A1 l1.length c1] rfl (by (try simp only [List.map_toArray, List.map_cons, List.map_nil]); first | done | rfl | (simp only [List.length_drop, List.length_take]; rfl)) ?_; (with_reducible refine (flash_listed.calls a0 _ _ l1 t398 _ ?side1 ?side2 A3.out).mono ?_); (case side1 => repeat (first | exact HR1.out | (with_reducible refine Kd.C_alloc ?_ _) | (with_reducible refine Kd.C_drewN ?_ _) | (with_reducible refine Kd.C_drew ?_))); (case side2 => exact HC1.out); rintro e w8 ⟨rfl, hb⟩; refine ⟨_, rfl, ?_⟩; have n0_ := Aside0.mk (below_step (by repeat (first | (with_reducible first | exact HB.out | apply below_alloc | apply pw_below_drewN | apply below_drew1) | exact HB.out)) hb); clear HB; have HB := n0_; clear n0_; (try clear hb); (try clear hb2); (try clear hk); (try clear hi)) | ((with_reducible refine gate_callee (f := 46) rfl ?_); refine goesL_ (some 16) rfl rfl Try.func46 (by kernel_rfl) rfl #[.slice A1 l1.length c1] rfl (by (try simp only [List.map_toArray, List.map_cons, List.map_nil]); first | done | rfl | (simp only [List.length_drop, List.length_take]; rfl)) ?_; (with_reducible refine (flash_path.calls _ _ l1 true _ ?side1 ?side2 A5.out).mono ?_); (case side1 => repeat (first | exact (Kd.C_below HR1.out HB.out) | (with_reducible refine Kd.C_alloc ?_ _) | (with_reducible refine Kd.C_drewN ?_ _) | (with_reducible refine Kd.C_drew ?_))); (case side2 => exact HC1.out); rintro e w9 ⟨rfl, hb⟩; refine ⟨_, rfl, ?_⟩; have n0_ := Aside0.mk (below_step (by repeat (first | (with_reducible first | exact HB.out | apply below_alloc | apply pw_below_drewN | apply below_drew1) | exact HB.out)) hb); clear HB; have HB := n0_; clear n0_; (try clear hb); (try clear hb2); (try clear hk); (try clear hi)) | (go_at_call 47; (with_reducible refine (flash_closed.calls _ _ l1 t400 _ ?side1 ?side2 A7.out).mono ?_); (case side1 => repeat (first | exact (Kd.C_below HR1.out HB.out) | (with_reducible refine Kd.C_alloc ?_ _) | (with_reducible refine Kd.C_drewN ?_ _) | (with_reducible refine Kd.C_drew ?_))); (case side2 => exact HC1.out); rintro e w' ⟨rfl, ⟨nd, rfl⟩⟩))
      go_ret3
      exact ⟨by first | rfl | (simp [errW_none, errW_some] <;> rfl) | (simp [*, errW_none, errW_some] <;> rfl), by repeat (first | (with_reducible first | exact HB.out | apply below_alloc | apply pw_below_drewN | apply below_drew1) | exact HB.out)⟩
    · replace c6 := Bool.eq_false_iff.mpr c6
      subst c6
      have H1 : (some (false, false, 0)) = some (r1, r2, r3) := by rw [if_neg (show ¬ (false = true) by decide)] at H; exact H
      clear H
      have H := H1
      clear H1
      simp only [Option.some.injEq, Prod.mk.injEq] at H
      obtain ⟨rfl, rfl, rfl⟩ := H
      go_enter Try.func35, Try.ntmps35
      go_wp2_with (first | ((with_reducible refine gate_callee (f := 50) rfl ?_); refine goesL_ (some 11) rfl rfl Try.func50 (by kernel_rfl) rfl #[.int .i64 a0, .slice A1 l1.length c1] rfl (by (try simp only [List.map_toArray, List.map_cons, List.map_nil]); first | done | rfl | (simp only [List.length_drop, List.length_take]; rfl)) ?_; (with_reducible refine (flash_listed.calls a0 _ _ l1 t398 _ ?side1 ?side2 A3.out).mono ?_); (case side1 => repeat (first | exact HR1.out | (with_reducible refine Kd.C_alloc ?_ _) | (with_reducible refine Kd.C_drewN ?_ _) | (with_reducible refine Kd.C_drew ?_))); (case side2 => exact HC1.out); rintro e w10 ⟨rfl, hb⟩; refine ⟨_, rfl, ?_⟩; have n0_ := Aside0.mk (below_step (by repeat (first | (with_reducible first | exact HB.out | apply below_alloc | apply pw_below_drewN | apply below_drew1) | exact HB.out)) hb); clear HB; have HB := n0_; clear n0_; (try clear hb); (try clear hb2); (try clear hk); (try clear hi)) | ((with_reducible refine gate_callee (f := 46) rfl ?_); refine goesL_ (some 16) rfl rfl Try.func46 (by kernel_rfl) rfl #[.slice A1 l1.length c1] rfl (by (try simp only [List.map_toArray, List.map_cons, List.map_nil]); first | done | rfl | (simp only [List.length_drop, List.length_take]; rfl)) ?_; (with_reducible refine (flash_path.calls _ _ l1 false _ ?side1 ?side2 A5.out).mono ?_); (case side1 => repeat (first | exact (Kd.C_below HR1.out HB.out) | (with_reducible refine Kd.C_alloc ?_ _) | (with_reducible refine Kd.C_drewN ?_ _) | (with_reducible refine Kd.C_drew ?_))); (case side2 => exact HC1.out); rintro e w11 ⟨rfl, hb⟩; refine ⟨_, rfl, ?_⟩; have n0_ := Aside0.mk (below_step (by repeat (first | (with_reducible first | exact HB.out | apply below_alloc | apply pw_below_drewN | apply below_drew1) | exact HB.out)) hb); clear HB; have HB := n0_; clear n0_; (try clear hb); (try clear hb2); (try clear hk); (try clear hi)))
      go_ret3
      exact ⟨by first | rfl | (simp [errW_none, errW_some] <;> rfl) | (simp [*, errW_none, errW_some] <;> rfl), by repeat (first | (with_reducible first | exact HB.out | apply below_alloc | apply pw_below_drewN | apply below_drew1) | exact HB.out)⟩
  · rw [if_neg c4] at H
    have c4b0 : (t398 == 0) = false := beq_eq_false_iff_ne.mpr c4
    have c4b1 : (t398 != 0) = true := bne_iff_ne.mpr c4
    simp only [Option.some.injEq, Prod.mk.injEq] at H
    obtain ⟨rfl, rfl, rfl⟩ := H
    go_enter Try.func35, Try.ntmps35
    go_wp2_with (first | ((with_reducible refine gate_callee (f := 50) rfl ?_); refine goesL_ (some 11) rfl rfl Try.func50 (by kernel_rfl) rfl #[.int .i64 a0, .slice A1 l1.length c1] rfl (by (try simp only [List.map_toArray, List.map_cons, List.map_nil]); first | done | rfl | (simp only [List.length_drop, List.length_take]; rfl)) ?_; (with_reducible refine (flash_listed.calls a0 _ _ l1 t398 _ ?side1 ?side2 A3.out).mono ?_); (case side1 => repeat (first | exact HR1.out | (with_reducible refine Kd.C_alloc ?_ _) | (with_reducible refine Kd.C_drewN ?_ _) | (with_reducible refine Kd.C_drew ?_))); (case side2 => exact HC1.out); rintro e w12 ⟨rfl, hb⟩; refine ⟨_, rfl, ?_⟩; have n0_ := Aside0.mk (below_step (by repeat (first | (with_reducible first | exact HB.out | apply below_alloc | apply pw_below_drewN | apply below_drew1) | exact HB.out)) hb); clear HB; have HB := n0_; clear n0_; (try clear hb); (try clear hb2); (try clear hk); (try clear hi)))
    go_ret3
    exact ⟨by first | rfl | (simp [errW_none, errW_some] <;> rfl) | (simp [*, errW_none, errW_some] <;> rfl), by repeat (first | (with_reducible first | exact HB.out | apply below_alloc | apply pw_below_drewN | apply below_drew1) | exact HB.out)⟩

end Go.Proofs.Ytnakkdaeehglnaa.P

namespace Go.Proofs.Ytnakkdaeehglnaa.P
open Go.RowKit Go.Proofs.YtnakkdaeehglnaaW.PrintWords Go.Proofs.YtnakkdaeehglnaaW.PrintLast Go.Proofs.YtnakkdaeehglnaaW.PrintMore
attribute [local go_sem] max2_int min2_int max_two min_two max_three min_three max_four min_four   -- for this text's walks alone
set_option linter.unusedVariables false
set_option linter.unusedSimpArgs false

/-! ### flash_Snake: function 22 -/
def flash_Snake.f (k : Nat) (a0 : Int) (l1 : List Int) : Option (Bool × Bool × Int) := (flash_listed.f a0 l1).bind fun t170 => (if t170 = 0 then ((flash_path.f l1).bind fun t171 => (if t171 = true then ((flash_snake.f k l1 false).bind fun t172 => ((flash_closed.f l1).bind fun t173 => (if t173 = true then ((flash_snake.f k l1 true).bind fun t174 => (some (t172, t174, 0))) else (some (t172, false, 0))))) else (some (false, false, 0)))) else (some (false, false, t170)))
theorem flash_Snake.mono : ∀ a0 a1 k, LeO (flash_Snake.f k a0 a1) (flash_Snake.f (k + 1) a0 a1) := by
  intro a0 a1 k
  unfold flash_Snake.f
  repeat' first
      | (with_reducible exact flash_snake.mono _ _ _)
      | (with_reducible exact LeO.refl _)
      | (with_reducible exact LeO.none _)
      | (with_reducible refine LeO.ite ?_ ?_)
      | (with_reducible refine LeO.bind ?_ (fun _ => ?_))
      | exact flash_snake.mono _ _ _
      | exact LeO.none _
      | refine LeO.ite ?_ ?_
      | refine LeO.bind ?_ (fun _ => ?_)
set_option maxHeartbeats 8000000 in
set_option maxRecDepth 100000 in
theorem flash_Snake.calls (k : Nat) (a0 : Int) (A1 : Option Addr) (c1 : Nat) (l1 : List Int) (r1 : Bool) (r2 : Bool) (r3 : Int) (w : World) (hr1 : Kd.C (Kd.int .i64) w A1 l1.length l1) (hc1 : l1.length ≤ c1) (h : flash_Snake.f k a0 l1 = some (r1, r2, r3)) :
    Calls Try.prog 22 #[.int .i64 a0, .slice A1 l1.length c1] w fun e w' => e = .returned (.tuple #[.bool r1, .bool r2, .int .i64 r3]) ∧ Below w.heap.size w w' := by
  have HR1 := Aside0.mk hr1
  have HC1 := Aside0.mk hc1
  clear hr1 hc1
  have HB := Aside0.mk (Below.refl w.heap.size w)
  have H : ((flash_listed.f a0 l1).bind fun t170 => (if t170 = 0 then ((flash_path.f l1).bind fun t171 => (if t171 = true then ((flash_snake.f k l1 false).bind fun t172 => ((flash_closed.f l1).bind fun t173 => (if t173 = true then ((flash_snake.f k l1 true).bind fun t174 => (some (t172, t174, 0))) else (some (t172, false, 0))))) else (some (false, false, 0)))) else (some (false, false, t170)))) = some (r1, r2, r3) := h
  clear h
  replace H := Option.bind_eq_some_iff.mp H
  obtain ⟨t170, A30, H⟩ := H
  replace H : (if t170 = 0 then ((flash_path.f l1).bind fun t171 => (if t171 = true then ((flash_snake.f k l1 false).bind fun t172 => ((flash_closed.f l1).bind fun t173 => (if t173 = true then ((flash_snake.f k l1 true).bind fun t174 => (some (t172, t174, 0))) else (some (t172, false, 0))))) else (some (false, false, 0)))) else (some (false, false, t170))) = some (r1, r2, r3) := H
  have A3 := Aside0.mk A30
  clear A30
  by_cases c4 : t170 = 0
  · rw [if_pos c4] at H
    have c4b0 : (t170 == 0) = true := beq_iff_eq.mpr c4
    have c4b1 : (t170 != 0) = false := bne_eq_false_iff_eq.mpr c4
    clear c4
    replace H := Option.bind_eq_some_iff.mp H
    obtain ⟨t171, A50, H⟩ := H
    replace H : (if t171 = true then ((flash_snake.f k l1 false).bind fun t172 => ((flash_closed.f l1).bind fun t173 => (if t173 = true then ((flash_snake.f k l1 true).bind fun t174 => (some (t172, t174, 0))) else (some (t172, false, 0))))) else (some (false, false, 0))) = some (r1, r2, r3) := H
    have A5 := Aside0.mk A50
    clear A50
    by_cases c6 : t171 = true
    · subst c6
      have H1 : ((flash_snake.f k l1 false).bind fun t172 => ((flash_closed.f l1).bind fun t173 => (if t173 = true then ((flash_snake.f k l1 true).bind fun t174 => (some (t172, t174, 0))) else (some (t172, false, 0))))) = some (r1, r2, r3) := by rw [if_pos rfl] at H; exact H
      clear H
      have H := H1
      clear H1
      replace H := Option.bind_eq_some_iff.mp H
      obtain ⟨t172, A70, H⟩ := H
      replace H : ((flash_closed.f l1).bind fun t173 => (if t173 = true then ((flash_snake.f k l1 true).bind fun t174 => (some (t172, t174, 0))) else (some (t172, false, 0)))) = some (r1, r2, r3) := H
      have A7 := Aside0.mk A70
      clear A70
      replace H := Option.bind_eq_some_iff.mp H
      obtain ⟨t173, A80, H⟩ := H
      replace H : (if t173 = true then ((flash_snake.f k l1 true).bind fun t174 => (some (t172, t174, 0))) else (some (t172, false, 0))) = some (r1, r2, r3) := H
      have A8 := Aside0.mk A80
      clear A80
      by_cases c9 : t173 = true
      · subst c9
        have H1 : ((flash_snake.f k l1 true).bind fun t174 => (some (t172, t174, 0))) = some (r1, r2, r3) := by rw [if_pos rfl] at H; exact H
        clear H
        have H := H1
        clear H1
        replace H := Option.bind_eq_some_iff.mp H
        obtain ⟨t174, A100, H⟩ := H
        replace H : (some (t172, t174, 0)) = some (r1, r2, r3) := H
        have A10 := Aside0.mk A100
        clear A100
        simp only [Option.some.injEq, Prod.mk.injEq] at H
        obtain ⟨rfl, rfl, rfl⟩ := H
        go_enter Try.func22, Try.ntmps22
        go_wp2_with (first | ((with_reducible refine gate_callee (f := 50) rfl ?_); refine goesL_ (some 10) rfl rfl Try.func50 (by kernel_rfl) rfl #[.int .i64 a0, .slice A1 l1.length c1] rfl (by (try simp only [List.map_toArray, List.map_cons, List.map_nil]); first | done | rfl | (simp only [List.length_drop, List.length_take]; rfl)) ?_; (with_reducible refine (flash_listed.calls a0 _ _ l1 t170 _ ?side1 ?side2 A3.out).mono ?_); (case side1 => repeat (first | exact HR1.out | (with_reducible refine Kd.C_alloc ?_ _) | (with_reducible refine Kd.C_drewN ?_ _) | (with_reducible refine Kd.C_drew ?_))); (case side2 => exact HC1.out); rintro e w11 ⟨rfl, hb⟩; refine ⟨_, rfl, ?_⟩; have n0_ := Aside0.mk (below_step (by repeat (first | (with_reducible first | exact HB.out | apply below_alloc | apply pw_below_drewN | apply below_drew1) | exact HB.out)) hb); clear HB; have HB := n0_; clear n0_; (try clear hb); (try clear hb2); (try clear hk); (try clear hi)) | ((with_reducible refine gate_callee (f := 46) rfl ?_); refine goesL_ (some 15) rfl rfl Try.func46 (by kernel_rfl) rfl #[.slice A1 l1.length c1] rfl (by (try simp only [List.map_toArray, List.map_cons, List.map_nil]); first | done | rfl | (simp only [List.length_drop, List.length_take]; rfl)) ?_; (with_reducible refine (flash_path.calls _ _ l1 true _ ?side1 ?side2 A5.out).mono ?_); (case side1 => repeat (first | exact (Kd.C_below HR1.out HB.out) | (with_reducible refine Kd.C_alloc ?_ _) | (with_reducible refine Kd.C_drewN ?_ _) | (with_reducible refine Kd.C_drew ?_))); (case side2 => exact HC1.out); rintro e w12 ⟨rfl, hb⟩; refine ⟨_, rfl, ?_⟩; have n0_ := Aside0.mk (below_step (by repeat (first | (with_reducible first | exact HB.out | apply below_alloc | apply pw_below_drewN | apply below_drew1) | exact HB.out)) hb); clear HB; have HB := n0_; clear n0_; (try clear hb); (try clear hb2); (try clear hk); (try clear hi)) | ((with_reducible refine gate_callee (f := 48) rfl ?_); refine goesL_ (some 18) rfl rfl Try.func48 (by kernel_rfl) rfl #[.slice A1 l1.length c1, .bool false] rfl (by (try simp only [List.map_toArray, List.map_cons, List.map_nil]); first | done | rfl | (simp only [List.length_drop, List.length_take]; rfl)) ?_; (with_reducible refine (flash_snake.calls k _ _ l1 false t172 _ ?side1 ?side2 A7.out).mono ?_); (case side1 => repeat (first | exact (Kd.C_below HR1.out HB.out) | (with_reducible refine Kd.C_alloc ?_ _) | (with_reducible refine Kd.C_drewN ?_ _) | (with_reducible refine Kd.C_drew ?_))); (case side2 => exact HC1.out); rintro e w' ⟨rfl, ⟨nd, rfl⟩⟩; refine ⟨_, rfl, ?_⟩) | ((with_reducible refine gate_callee (f := 47) rfl ?_); refine goesL_ (some 20) rfl rfl Try.func47 (by kernel_rfl) rfl #[.slice A1 l1.length c1] rfl (by (try simp only [List.map_toArray, List.map_cons, List.map_nil]); first | done | rfl | (simp only [List.length_drop, List.length_take]; rfl)) ?_; (with_reducible refine (flash_closed.calls _ _ l1 true _ ?side1 ?side2 A8.out).mono ?_); (case side1 => repeat (first | exact (Kd.C_below HR1.out (by repeat (first | (with_reducible first | exact HB.out | apply below_alloc | apply pw_below_drewN | apply below_drew1) | exact HB.out))) | (with_reducible refine Kd.C_alloc ?_ _) | (with_reducible refine Kd.C_drewN ?_ _) | (with_reducible refine Kd.C_drew ?_))); (case side2 => exact HC1.out); rintro e w' ⟨rfl, ⟨nd, rfl⟩⟩; refine ⟨_, rfl, ?_⟩) | (go_at_call 48; (with_reducible refine (flash_snake.calls k _ _ l1 true t174 _ ?side1 ?side2 A10.out).mono ?_); (case side1 => repeat (first | exact (Kd.C_below HR1.out (by repeat (first | (with_reducible first | exact HB.out | apply below_alloc | apply pw_below_drewN | apply below_drew1) | exact HB.out))) | (with_reducible refine Kd.C_alloc ?_ _) | (with_reducible refine Kd.C_drewN ?_ _) | (with_reducible refine Kd.C_drew ?_))); (case side2 => exact HC1.out); rintro e w' ⟨rfl, ⟨nd, rfl⟩⟩))
        go_ret3
        exact ⟨by first | rfl | (simp [errW_none, errW_some] <;> rfl) | (simp [*, errW_none, errW_some] <;> rfl), by repeat (first | (with_reducible first | exact HB.out | apply below_alloc | apply pw_below_drewN | apply below_drew1) | exact HB.out)⟩
      · replace c9 := Bool.eq_false_iff.mpr c9
        subst c9
        have H1 : (some (t172, false, 0)) = some (r1, r2, r3) := by rw [if_neg (show ¬ (false = true) by decide)] at H; exact H
        clear H
        have H := H1
        clear H1
        simp only [Option.some.injEq, Prod.mk.injEq] at H
        obtain ⟨rfl, rfl, rfl⟩ := H
        go_enter Try.func22, Try.ntmps22
        go_wp2_with (first | ((with_reducible refine gate_callee (f := 50) rfl ?_); refine goesL_ (some 10) rfl rfl Try.func50 (by kernel_rfl) rfl #[.int .i64 a0, .slice A1 l1.length c1] rfl (by (try simp only [List.map_toArray, List.map_cons, List.map_nil]); first | done | rfl | (simp only [List.length_drop, List.length_take]; rfl)) ?_; (with_reducible refine (flash_listed.calls a0 _ _ l1 t170 _ ?side1 ?side2 A3.out).mono ?_); (case side1 => repeat (first | exact HR1.out | (with_reducible refine Kd.C_alloc ?_ _) | (with_reducible refine Kd.C_drewN ?_ _) | (with_reducible refine Kd.C_drew ?_))); (case side2 => exact HC1.out); rintro e w13 ⟨rfl, hb⟩; refine ⟨_, rfl, ?_⟩; have n0_ := Aside0.mk (below_step (by repeat (first | (with_reducible first | exact HB.out | apply below_alloc | apply pw_below_drewN | apply below_drew1) | exact HB.out)) hb); clear HB; have HB := n0_; clear n0_; (try clear hb); (try clear hb2); (try clear hk); (try clear hi)) | ((with_reducible refine gate_callee (f := 46) rfl ?_); refine goesL_ (some 15) rfl rfl Try.func46 (by kernel_rfl) rfl #[.slice A1 l1.length c1] rfl (by (try simp only [List.map_toArray, List.map_cons, List.map_nil]); first | done | rfl | (simp only [List.length_drop, List.length_take]; rfl)) ?_; (with_reducible refine (flash_path.calls _ _ l1 true _ ?side1 ?side2 A5.out).mono ?_); (case side1 => repeat (first | exact (Kd.C_below HR1.out HB.out) | (with_reducible refine Kd.C_alloc ?_ _) | (with_reducible refine Kd.C_drewN ?_ _) | (with_reducible refine Kd.C_drew ?_))); (case side2 => exact HC1.out); rintro e w14 ⟨rfl, hb⟩; refine ⟨_, rfl, ?_⟩; have n0_ := Aside0.mk (below_step (by repeat (first | (with_reducible first | exact HB.out | apply below_alloc | apply pw_below_drewN | apply below_drew1) | exact HB.out)) hb); clear HB; have HB := n0_; clear n0_; (try clear hb); (try clear hb2); (try clear hk); (try clear hi)) | ((with_reducible refine gate_callee (f := 48) rfl ?_); refine goesL_ (some 18) rfl rfl Try.func48 (by kernel_rfl) rfl #[.slice A1 l1.length c1, .bool false] rfl (by (try simp only [List.map_toArray, List.map_cons, List.map_nil]); first | done | rfl | (simp only [List.length_drop, List.length_take]; rfl)) ?_; (with_reducible refine (flash_snake.calls k _ _ l1 false t172 _ ?side1 ?side2 A7.out).mono ?_); (case side1 => repeat (first | exact (Kd.C_below HR1.out HB.out) | (with_reducible refine Kd.C_alloc ?_ _) | (with_reducible refine Kd.C_drewN ?_ _) | (with_reducible refine Kd.C_drew ?_))); (case side2 => exact HC1.out); rintro e w' ⟨rfl, ⟨nd, rfl⟩⟩; refine ⟨_, rfl, ?_⟩) | ((with_reducible refine gate_callee (f := 47) rfl ?_); refine goesL_ (some 20) rfl rfl Try.func47 (by kernel_rfl) rfl #[.slice A1 l1.length c1] rfl (by (try simp only [List.map_toArray, List.map_cons, List.map_nil]); first | done | rfl | (simp only [List.length_drop, List.length_take]; rfl)) ?_; (with_reducible refine (flash_closed.calls _ _ l1 false _ ?side1 ?side2 A8.out).mono ?_); (case side1 => repeat (first | exact (Kd.C_below HR1.out (by repeat (first | (with_reducible first | exact HB.out | apply below_alloc | apply pw_below_drewN | apply below_drew1) | exact HB.out))) | (with_reducible refine Kd.C_alloc ?_ _) | (with_reducible refine Kd.C_drewN ?_ _) | (with_reducible refine Kd.C_drew ?_))); (case side2 => exact HC1.out); rintro e w' ⟨rfl, ⟨nd, rfl⟩⟩; refine ⟨_, rfl, ?_⟩))
        go_ret3
        exact ⟨by first | rfl | (simp [errW_none, errW_some] <;> rfl) | (simp [*, errW_none, errW_some] <;> rfl), by repeat (first | (with_reducible first | exact HB.out | apply below_alloc | apply pw_below_drewN | apply below_drew1) | exact HB.out)⟩
    · replace c6 := Bool.eq_false_iff.mpr c6
      subst c6
      have H1 : (some (false, false, 0)) = some (r1, r2, r3) := by rw [if_neg (show ¬ (false = true) by decide)] at H; exact H
      clear H
      have H := H1
      clear H1
      simp only [Option.some.injEq, Prod.mk.injEq] at H
      obtain ⟨rfl, rfl, rfl⟩ := H
      go_enter Try.func22, Try.ntmps22
      go_wp2_with (first | ((with_reducible refine gate_callee (f := 50) rfl ?_); refine goesL_ (some 10) rfl rfl Try.func50 (by kernel_rfl) rfl #[.int .i64 a0, .slice A1 l1.length c1] rfl (by (try simp only [List.map_toArray, List.map_cons, List.map_nil]); first | done | rfl | (simp only [List.length_drop, List.length_take]; rfl)) ?_; (with_reducible refine (flash_listed.calls a0 _ _ l1 t170 _ ?side1 ?side2 A3.out).mono ?_); (case side1 => repeat (first | exact HR1.out | (with_reducible refine Kd.C_alloc ?_ _) | (with_reducible refine Kd.C_drewN ?_ _) | (with_reducible refine Kd.C_drew ?_))); (case side2 => exact HC1.out); rintro e w15 ⟨rfl, hb⟩; refine ⟨_, rfl, ?_⟩; have n0_ := Aside0.mk (below_step (by repeat (first | (with_reducible first | exact HB.out | apply below_alloc | apply pw_below_drewN | apply below_drew1) | exact HB.out)) hb); clear HB; have HB := n0_; clear n0_; (try clear hb); (try clear hb2); (try clear hk); (try clear hi)) | ((with_reducible refine gate_callee (f := 46) rfl ?_); refine goesL_ (some 15) rfl rfl Try.func46 (by kernel_rfl) rfl #[.slice A1 l1.length c1] rfl (by (try simp only [List.map_toArray, List.map_cons, List.map_nil]); first | done | rfl | (simp only [List.length_drop, List.length_take]; rfl)) ?_; (with_reducible refine (flash_path.calls _ _ l1 false _ ?side1 ?side2 A5.out).mono ?_); (case side1 => repeat (first | exact (Kd.C_below HR1.out HB.out) | (with_reducible refine Kd.C_alloc ?_ _) | (with_reducible refine Kd.C_drewN ?_ _) | (with_reducible refine Kd.C_drew ?_))); (case side2 => exact HC1.out); rintro e w16 ⟨rfl, hb⟩; refine ⟨_, rfl, ?_⟩; have n0_ := Aside0.mk (below_step (by repeat (first | (with_reducible first | exact HB.out | apply below_alloc | apply pw_below_drewN | apply below_drew1) | exact HB.out)) hb); clear HB; have HB := n0_; clear n0_; (try clear hb); (try clear hb2); (try clear hk); (try clear hi)))
      go_ret3
      exact ⟨by first | rfl | (simp [errW_none, errW_some] <;> rfl) | (simp [*, errW_none, errW_some] <;> rfl), by repeat (first | (with_reducible first | exact HB.out | apply below_alloc | apply pw_below_drewN | apply below_drew1) | exact HB.out)⟩
  · rw [if_neg c4] at H
    have c4b0 : (t170 == 0) = false := beq_eq_false_iff_ne.mpr c4
    have c4b1 : (t170 != 0) = true := bne_iff_ne.mpr c4
    simp only [Option.some.injEq, Prod.mk.injEq] at H
    obtain ⟨rfl, rfl, rfl⟩ := H
    go_enter Try.func22, Try.ntmps22
    go_wp2_with (first | ((with_reducible refine gate_callee (f := 50) rfl ?_); refine goesL_ (some 10) rfl rfl Try.func50 (by kernel_rfl) rfl #[.int .i64 a0, .slice A1 l1.length c1] rfl (by (try simp only [List.map_toArray, List.map_cons, List.map_nil]); first | done | rfl | (simp only [List.length_drop, List.length_take]; rfl)) ?_; (with_reducible refine (flash_listed.calls a0 _ _ l1 t170 _ ?side1 ?side2 A3.out).mono ?_); (case side1 => repeat (first | exact HR1.out | (with_reducible refine Kd.C_alloc ?_ _) | (with_reducible refine Kd.C_drewN ?_ _) | (with_reducible refine Kd.C_drew ?_))); (case side2 => exact HC1.out); rintro e w17 ⟨rfl, hb⟩; refine ⟨_, rfl, ?_⟩; have n0_ := Aside0.mk (below_step (by repeat (first | (with_reducible first | exact HB.out | apply below_alloc | apply pw_below_drewN | apply below_drew1) | exact HB.out)) hb); clear HB; have HB := n0_; clear n0_; (try clear hb); (try clear hb2); (try clear hk); (try clear hi)))
    go_ret3
    exact ⟨by first | rfl | (simp [errW_none, errW_some] <;> rfl) | (simp [*, errW_none, errW_some] <;> rfl), by repeat (first | (with_reducible first | exact HB.out | apply below_alloc | apply pw_below_drewN | apply below_drew1) | exact HB.out)⟩

end Go.Proofs.Ytnakkdaeehglnaa.P

namespace Go.Proofs.Ytnakkdaeehglnaa.P
open Go.RowKit Go.Proofs.YtnakkdaeehglnaaW.PrintWords Go.Proofs.YtnakkdaeehglnaaW.PrintLast Go.Proofs.YtnakkdaeehglnaaW.PrintMore
attribute [local go_sem] max2_int min2_int max_two min_two max_three min_three max_four min_four   -- for this text's walks alone
set_option linter.unusedVariables false
set_option linter.unusedSimpArgs false

/-! ### neonwrightref04_one: function 69 -/
def neonwrightref04_one.f (a0 : Int) : Option (Bool) := if a0 > 0 then (some ((Go.bits .and .i64 a0 (wrap64 (a0 - 1))) == 0)) else (some false)
set_option maxHeartbeats 8000000 in
set_option maxRecDepth 100000 in
theorem neonwrightref04_one.calls (a0 : Int) (r : Bool) (w : World) (h : neonwrightref04_one.f a0 = some r) :
    Calls Try.prog 69 #[.int .i64 a0] w fun e w' => e = .returned (.bool r) ∧ Drawn0 w w' := by
  have H : (if a0 > 0 then (some ((Go.bits .and .i64 a0 (wrap64 (a0 - 1))) == 0)) else (some false)) = some r := h
  clear h
  by_cases c2 : a0 > 0
  · rw [if_pos c2] at H
    have c2b0 : decide (0 < a0) = true := decide_eq_true c2
    clear c2
    obtain rfl := Option.some.inj H
    go_enter Try.func69, Try.ntmps69
    go_wp2
    go_ret
    exact ⟨by first | rfl | (simp; done) | (simp [*]; done), by repeat (first | exact Drawn0.refl _ | apply Drawn0.step)⟩
  · rw [if_neg c2] at H
    have c2b0 : decide (0 < a0) = false := decide_eq_false c2
    clear c2
    obtain rfl := Option.some.inj H
    go_enter Try.func69, Try.ntmps69
    go_wp2
    go_ret
    exact ⟨by first | rfl | (simp; done) | (simp [*]; done), by repeat (first | exact Drawn0.refl _ | apply Drawn0.step)⟩

end Go.Proofs.Ytnakkdaeehglnaa.P

namespace Go.Proofs.Ytnakkdaeehglnaa.P
open Go.RowKit Go.Proofs.YtnakkdaeehglnaaW.PrintWords Go.Proofs.YtnakkdaeehglnaaW.PrintLast Go.Proofs.YtnakkdaeehglnaaW.PrintMore
attribute [local go_sem] max2_int min2_int max_two min_two max_three min_three max_four min_four   -- for this text's walks alone
set_option linter.unusedVariables false
set_option linter.unusedSimpArgs false

/-! ### neonwrightref04_near: function 54 -/
def neonwrightref04_near.f (a0 : Int) (a1 : Int) : Option (Bool) := (neonwrightref04_one.f (Go.bits .xor .i64 a0 a1)).bind fun t106 => (some t106)
set_option maxHeartbeats 8000000 in
set_option maxRecDepth 100000 in
theorem neonwrightref04_near.calls (a0 : Int) (a1 : Int) (r : Bool) (w : World) (h : neonwrightref04_near.f a0 a1 = some r) :
    Calls Try.prog 54 #[.int .i64 a0, .int .i64 a1] w fun e w' => e = .returned (.bool r) ∧ Drawn0 w w' := by
  have H : ((neonwrightref04_one.f (Go.bits .xor .i64 a0 a1)).bind fun t106 => (some t106)) = some r := h
  clear h
  replace H := Option.bind_eq_some_iff.mp H
  obtain ⟨t106, A30, H⟩ := H
  replace H : (some t106) = some r := H
  have A3 := Aside0.mk A30
  clear A30
  obtain rfl := Option.some.inj H
  go_enter Try.func54, Try.ntmps54
  go_wp2_with (first | ((with_reducible refine gate_callee (f := 69) rfl ?_); refine goesL_ (some 8) rfl rfl Try.func69 (by kernel_rfl) rfl #[.int .i64 (Go.bits .xor .i64 a0 a1)] rfl (by (try simp only [List.map_toArray, List.map_cons, List.map_nil]); first | done | rfl | (simp only [List.length_drop, List.length_take]; rfl)) ?_; (with_reducible refine (neonwrightref04_one.calls (Go.bits .xor .i64 a0 a1) t106 _ A3.out).mono ?_); rintro e w' ⟨rfl, ⟨nd, rfl⟩⟩; refine ⟨_, rfl, ?_⟩))
  go_ret
  exact ⟨by first | rfl | (simp; done) | (simp [*]; done), by repeat (first | exact Drawn0.refl _ | apply Drawn0.step)⟩

end Go.Proofs.Ytnakkdaeehglnaa.P

namespace Go.Proofs.Ytnakkdaeehglnaa.P
open Go.RowKit Go.Proofs.YtnakkdaeehglnaaW.PrintWords Go.Proofs.YtnakkdaeehglnaaW.PrintLast Go.Proofs.YtnakkdaeehglnaaW.PrintMore
attribute [local go_sem] max2_int min2_int max_two min_two max_three min_three max_four min_four   -- for this text's walks alone
set_option linter.unusedVariables false
set_option linter.unusedSimpArgs false

/-! ### neonwrightref04_path: function 58 -/
mutual
def neonwrightref04_path.l0 : Nat → List Int → Int → Option (Bool × Bool)
  | 0, _, _ => none
  | k + 1, x0, x4 => if x4 < (x0.length : Int) then (if x4 > 0 then (if 0 ≤ (wrap64 (x4 - 1)) then (if (wrap64 (x4 - 1)) < (x0.length : Int) then (if 0 ≤ x4 then ((neonwrightref04_near.f (rd x0 (wrap64 (x4 - 1))) (rd x0 x4)).bind fun t241 => (neonwrightref04_path.j1 k x0 x4 (!t241))) else (none)) else (none)) else (none)) else (neonwrightref04_path.j1 k x0 x4 false)) else (if (x0.length : Int) ≥ 4 then (if 0 < (x0.length : Int) then (if 0 ≤ (wrap64 ((x0.length : Int) - 1)) then (if (wrap64 ((x0.length : Int) - 1)) < (x0.length : Int) then ((neonwrightref04_near.f (rd x0 0) (rd x0 (wrap64 ((x0.length : Int) - 1)))).bind fun t238 => (some (true, t238))) else (none)) else (none)) else (none)) else (some (true, false)))
def neonwrightref04_path.j1 : Nat → List Int → Int → Bool → Option (Bool × Bool)
  | 0, _, _, _ => none
  | k + 1, x0, x4, x26 => if x26 = true then (some (false, false)) else (neonwrightref04_path.l1 k x0 x4 0)
def neonwrightref04_path.l1 : Nat → List Int → Int → Int → Option (Bool × Bool)
  | 0, _, _, _ => none
  | k + 1, x0, x4, x5 => if x5 < x4 then (if 0 ≤ x5 then (if x5 < (x0.length : Int) then (if 0 ≤ x4 then (if x4 < (x0.length : Int) then (if (rd x0 x5) = (rd x0 x4) then (some (false, false)) else (neonwrightref04_path.l1 k x0 x4 (wrap64 (x5 + 1)))) else (none)) else (none)) else (none)) else (none)) else (neonwrightref04_path.l0 k x0 (wrap64 (x4 + 1)))
end
def neonwrightref04_path.f (k : Nat) (l0 : List Int) : Option (Bool × Bool) := neonwrightref04_path.l0 k l0 0
theorem neonwrightref04_path.mono_l : ∀ k, (∀ y0 y1, LeO (neonwrightref04_path.l0 k y0 y1) (neonwrightref04_path.l0 (k + 1) y0 y1)) ∧ (∀ y0 y1 y2, LeO (neonwrightref04_path.j1 k y0 y1 y2) (neonwrightref04_path.j1 (k + 1) y0 y1 y2)) ∧ (∀ y0 y1 y2, LeO (neonwrightref04_path.l1 k y0 y1 y2) (neonwrightref04_path.l1 (k + 1) y0 y1 y2))
  | 0 => ⟨fun _ _ r h => by simp [neonwrightref04_path.l0] at h, fun _ _ _ r h => by simp [neonwrightref04_path.j1] at h, fun _ _ _ r h => by simp [neonwrightref04_path.l1] at h⟩
  | k + 1 => by
    obtain ⟨ih0, ih1, ih2⟩ := neonwrightref04_path.mono_l k
    refine ⟨?_, ?_, ?_⟩
    · intro y0 y1
      unfold neonwrightref04_path.l0
      repeat' first
      | (with_reducible exact ih0 _ _)
      | (with_reducible exact ih1 _ _ _)
      | (with_reducible exact ih2 _ _ _)
      | (with_reducible exact LeO.refl _)
      | (with_reducible exact LeO.none _)
      | (with_reducible refine LeO.ite ?_ ?_)
      | (with_reducible refine LeO.bind ?_ (fun _ => ?_))
      | exact ih0 _ _
      | exact ih1 _ _ _
      | exact ih2 _ _ _
      | exact LeO.none _
      | refine LeO.ite ?_ ?_
      | refine LeO.bind ?_ (fun _ => ?_)
    · intro y0 y1 y2
      unfold neonwrightref04_path.j1
      repeat' first
      | (with_reducible exact ih0 _ _)
      | (with_reducible exact ih1 _ _ _)
      | (with_reducible exact ih2 _ _ _)
      | (with_reducible exact LeO.refl _)
      | (with_reducible exact LeO.none _)
      | (with_reducible refine LeO.ite ?_ ?_)
      | (with_reducible refine LeO.bind ?_ (fun _ => ?_))
      | exact ih0 _ _
      | exact ih1 _ _ _
      | exact ih2 _ _ _
      | exact LeO.none _
      | refine LeO.ite ?_ ?_
      | refine LeO.bind ?_ (fun _ => ?_)
    · intro y0 y1 y2
      unfold neonwrightref04_path.l1
      repeat' first
      | (with_reducible exact ih0 _ _)
      | (with_reducible exact ih1 _ _ _)
      | (with_reducible exact ih2 _ _ _)
      | (with_reducible exact LeO.refl _)
      | (with_reducible exact LeO.none _)
      | (with_reducible refine LeO.ite ?_ ?_)
      | (with_reducible refine LeO.bind ?_ (fun _ => ?_))
      | exact ih0 _ _
      | exact ih1 _ _ _
      | exact ih2 _ _ _
      | exact LeO.none _
      | refine LeO.ite ?_ ?_
      | refine LeO.bind ?_ (fun _ => ?_)
theorem neonwrightref04_path.mono : ∀ a0 k, LeO (neonwrightref04_path.f k a0) (neonwrightref04_path.f (k + 1) a0) := by
  intro a0 k
  obtain ⟨ih0, ih1, ih2⟩ := neonwrightref04_path.mono_l k
  unfold neonwrightref04_path.f
  repeat' first
      | (with_reducible exact ih0 _ _)
      | (with_reducible exact ih1 _ _ _)
      | (with_reducible exact ih2 _ _ _)
      | (with_reducible exact LeO.refl _)
      | (with_reducible exact LeO.none _)
      | (with_reducible refine LeO.ite ?_ ?_)
      | (with_reducible refine LeO.bind ?_ (fun _ => ?_))
      | exact ih0 _ _
      | exact ih1 _ _ _
      | exact ih2 _ _ _
      | exact LeO.none _
      | refine LeO.ite ?_ ?_
      | refine LeO.bind ?_ (fun _ => ?_)
set_option maxHeartbeats 8000000 in
set_option maxRecDepth 100000 in
theorem neonwrightref04_path.calls (k : Nat) (A0 : Option Addr) (c0 : Nat) (l0 : List Int) (r1 : Bool) (r2 : Bool) (w : World) (hr0 : Kd.C (Kd.int .i64) w A0 l0.length l0) (hc0 : l0.length ≤ c0) (h : neonwrightref04_path.f k l0 = some (r1, r2)) :
    Calls Try.prog 58 #[.slice A0 l0.length c0] w fun e w' => e = .returned (.tuple #[.bool r1, .bool r2]) ∧ Drawn0 w w' := by
  have HR0 := Aside0.mk hr0
  have HC0 := Aside0.mk hc0
  clear hr0 hc0
  have H : (neonwrightref04_path.l0 k l0 0) = some (r1, r2) := h
  clear h
  have H' := Aside0.mk H
  clear H
  go_enter Try.func58, Try.ntmps58
  go_wp2
  repeat (go_quiet (fail); try go_wp2)
  go_loopg [4] k (fun kq v4 w' => ∃ (x4_1 : Int), v4 = .int .i64 x4_1 ∧ Aside0 (neonwrightref04_path.l0 kq l0 x4_1 = some (r1, r2)) ∧ Aside0 (kq ≤ k) ∧ Drawn0 w w')
  case atStart => exact ⟨(0), (by first | rfl | (simp; done) | (simp [*]; done)), H', ⟨Nat.le_refl _⟩, by repeat (first | exact Drawn0.refl _ | apply Drawn0.step)⟩
  case round =>
    clear H'
    obtain ⟨x4_1, rfl, HA, HK1, ⟨m1, rfl⟩⟩ := hrel
    cases gk with
    | zero => exact absurd HA.out (by simp [neonwrightref04_path.l0])
    | succ k1 =>
      have H := HA.out
      clear HA
      simp only [neonwrightref04_path.l0] at H
      by_cases c2 : x4_1 < (l0.length : Int)
      · rw [if_pos c2] at H
        have c2b0 : decide (x4_1 < (l0.length : Int)) = true := decide_eq_true c2
        clear c2
        have HC3 := Aside0.mk H
        clear H
        go_upto_region 4 with (fail)
        repeat (go_quiet (fail); go_upto_region 4 with (fail))
        go_cut [26] (fun v26 wc => ∃ (kq : Nat) (x26_2 : Bool), v26 = .bool x26_2 ∧ Aside0 (neonwrightref04_path.j1 kq l0 x4_1 x26_2 = some (r1, r2)) ∧ Aside0 (kq ≤ k1) ∧ Drawn0 w wc)
        case first =>
          have H := HC3.out
          clear HC3
          by_cases c4 : x4_1 > 0
          · rw [if_pos c4] at H
            have c4b0 : decide (0 < x4_1) = true := decide_eq_true c4
            clear c4
            (first | rw [c4b0] | (simp only [i64_w, i32_w]; rw [c4b0]) | skip)
            obtain ⟨ji5, hji5⟩ : ∃ j_ : Int, (wrap64 (x4_1 - 1)) = j_ := ⟨_, rfl⟩
            replace H : (if 0 ≤ (ji5) then (if (ji5) < (l0.length : Int) then (if 0 ≤ x4_1 then ((neonwrightref04_near.f (rd l0 (ji5)) (rd l0 x4_1)).bind fun t241 => (neonwrightref04_path.j1 k1 l0 x4_1 (!t241))) else (none)) else (none)) else (none)) = some (r1, r2) := by first | (rw [hji5] at H; exact H) | (simp only [hji5] at H ⊢; exact H)
            have hji5w : (IntKind.i64.wrap (x4_1 - 1)) = ji5 := (i64_w _).trans hji5
            by_cases c6 : 0 ≤ (ji5)
            · rw [if_pos c6] at H
              have c6b0 : decide (0 ≤ (ji5)) = true := decide_eq_true c6
              clear c6
              by_cases c7 : (ji5) < (l0.length : Int)
              · rw [if_pos c7] at H
                have c7b0 : decide ((ji5) < (l0.length : Int)) = true := decide_eq_true c7
                clear c7
                by_cases c8 : 0 ≤ x4_1
                · rw [if_pos c8] at H
                  have c8b0 : decide (0 ≤ x4_1) = true := decide_eq_true c8
                  clear c8
                  replace H := Option.bind_eq_some_iff.mp H
                  obtain ⟨t241, A90, H⟩ := H
                  replace H : (neonwrightref04_path.j1 k1 l0 x4_1 (!t241)) = some (r1, r2) := H
                  have A9 := Aside0.mk A90
                  clear A90
                  have H' := Aside0.mk H
                  clear H
                  have p239 : 0 ≤ ((ji5) : Int) := of_decide_eq_true (by first | (with_reducible assumption) | assumption)
                  have q239 : (ji5) < (l0.length : Int) := of_decide_eq_true (by first | (with_reducible assumption) | assumption)
                  obtain ⟨ad239, e239, hx239_0⟩ := Kd.at_int HR0.out (ji5) p239 q239
                  cases e239
                  replace p239 := eq_true p239
                  replace q239 := eq_true q239
                  have p240 : 0 ≤ (x4_1 : Int) := of_decide_eq_true (by first | (with_reducible assumption) | assumption)
                  have q240 : x4_1 < (l0.length : Int) := of_decide_eq_true (by first | (with_reducible assumption) | assumption)
                  obtain ⟨ad240, e240, hx240_0⟩ := Kd.at_int HR0.out x4_1 p240 q240
                  obtain rfl : ad239 = ad240 := (by injection e240)
                  replace p240 := eq_true p240
                  replace q240 := eq_true q240
                  go_wp2_with (first | (go_at_call 54; (with_reducible refine (neonwrightref04_near.calls (rd l0 (ji5)) (rd l0 x4_1) t241 _ A9.out).mono ?_); rintro e w' ⟨rfl, ⟨nd, rfl⟩⟩; (try first | exact ⟨rfl, _, World.drewN_drewN _ _ _⟩ | exact ⟨rfl, _, Eq.trans (World.drewN_drewN _ _ _) (congrArg (World.drewN _) (Nat.add_assoc _ _ _))⟩)))
                  repeat (go_quiet (first | (go_at_call 54; (with_reducible refine (neonwrightref04_near.calls (rd l0 (ji5)) (rd l0 x4_1) t241 _ A9.out).mono ?_); rintro e w' ⟨rfl, ⟨nd, rfl⟩⟩; (try first | exact ⟨rfl, _, World.drewN_drewN _ _ _⟩ | exact ⟨rfl, _, Eq.trans (World.drewN_drewN _ _ _) (congrArg (World.drewN _) (Nat.add_assoc _ _ _))⟩))); try go_wp2_with (first | (go_at_call 54; (with_reducible refine (neonwrightref04_near.calls (rd l0 (ji5)) (rd l0 x4_1) t241 _ A9.out).mono ?_); rintro e w' ⟨rfl, ⟨nd, rfl⟩⟩; (try first | exact ⟨rfl, _, World.drewN_drewN _ _ _⟩ | exact ⟨rfl, _, Eq.trans (World.drewN_drewN _ _ _) (congrArg (World.drewN _) (Nat.add_assoc _ _ _))⟩))))
                  go_meet
                  case rel => exact ⟨_, (!t241), (by first | rfl | (simp; done) | (simp [*]; done)), H', ⟨by have := HK1.out; first | omega | exact Nat.le_refl _⟩, by repeat (first | exact Drawn0.refl _ | apply Drawn0.step)⟩
                · rw [if_neg c8] at H
                  exact absurd H (by simp)
              · rw [if_neg c7] at H
                exact absurd H (by simp)
            · rw [if_neg c6] at H
              exact absurd H (by simp)
          · rw [if_neg c4] at H
            have c4b0 : decide (0 < x4_1) = false := decide_eq_false c4
            clear c4
            (first | rw [c4b0] | (simp only [i64_w, i32_w]; rw [c4b0]) | skip)
            have H' := Aside0.mk H
            clear H
            go_wp2
            repeat (go_quiet (fail); try go_wp2)
            go_meet
            case rel => exact ⟨_, (false), (by first | rfl | (simp; done) | (simp [*]; done)), H', ⟨by have := HK1.out; first | omega | exact Nat.le_refl _⟩, by repeat (first | exact Drawn0.refl _ | apply Drawn0.step)⟩
        case rest =>
          clear HC3
          try clear c2
          try clear c2b0
          try clear p2
          try clear q2
          try clear hx2
          try clear c4
          try clear c4b0
          try clear c5
          try clear c6
          try clear c6b0
          try clear p6
          try clear c7
          try clear c7b0
          try clear c8
          try clear c8b0
          try clear hx239_0
          try clear hx240_0
          try clear p239
          try clear p240
          try clear q239
          try clear q240
          obtain ⟨kq, x26_2, rfl, HA, HJ2, ⟨mc2, rfl⟩⟩ := hcut
          cases kq with
          | zero => exact absurd HA.out (by simp [neonwrightref04_path.j1])
          | succ kj2 =>
            have H := HA.out
            clear HA
            simp only [neonwrightref04_path.j1] at H
            by_cases c10 : x26_2 = true
            · subst c10
              have H1 : (some (false, false)) = some (r1, r2) := by rw [if_pos rfl] at H; exact H
              clear H
              have H := H1
              clear H1
              simp only [Option.some.injEq, Prod.mk.injEq] at H
              obtain ⟨rfl, rfl⟩ := H
              go_wp2
              repeat (go_quiet (fail); try go_wp2)
              go_ret2
              exact ⟨by first | rfl | (simp; done) | (simp [*]; done), by repeat (first | exact Drawn0.refl _ | apply Drawn0.step)⟩
            · replace c10 := Bool.eq_false_iff.mpr c10
              subst c10
              have H1 : (neonwrightref04_path.l1 kj2 l0 x4_1 0) = some (r1, r2) := by rw [if_neg (show ¬ (false = true) by decide)] at H; exact H
              clear H
              have H := H1
              clear H1
              have H' := Aside0.mk H
              clear H
              go_wp2
              repeat (go_quiet (fail); try go_wp2)
              go_loopg [5] kj2 (fun kq v5 w' => ∃ (x5_3 : Int), v5 = .int .i64 x5_3 ∧ Aside0 (neonwrightref04_path.l1 kq l0 x4_1 x5_3 = some (r1, r2)) ∧ Aside0 (kq ≤ kj2) ∧ Drawn0 w w')
              case atStart => exact ⟨(0), (by first | rfl | (simp; done) | (simp [*]; done)), H', ⟨Nat.le_refl _⟩, by repeat (first | exact Drawn0.refl _ | apply Drawn0.step)⟩
              case round =>
                clear H'
                try clear c1
                try clear c2
                try clear c2b0
                try clear p2
                try clear q2
                try clear hx2
                try clear c4
                try clear c4b0
                try clear c5
                try clear c6
                try clear c6b0
                try clear p6
                try clear c7
                try clear c7b0
                try clear c8
                try clear c8b0
                try clear c10
                try clear hx239_0
                try clear hx240_0
                try clear p2
                try clear p239
                try clear p240
                try clear p6
                try clear q2
                try clear q239
                try clear q240
                obtain ⟨x5_3, rfl, HA, HK3, ⟨m3, rfl⟩⟩ := hrel
                cases gk with
                | zero => exact absurd HA.out (by simp [neonwrightref04_path.l1])
                | succ k3 =>
                  have H := HA.out
                  clear HA
                  simp only [neonwrightref04_path.l1] at H
                  by_cases c11 : x5_3 < x4_1
                  · rw [if_pos c11] at H
                    have c11b0 : decide (x5_3 < x4_1) = true := decide_eq_true c11
                    clear c11
                    by_cases c12 : 0 ≤ x5_3
                    · rw [if_pos c12] at H
                      have c12b0 : decide (0 ≤ x5_3) = true := decide_eq_true c12
                      clear c12
                      by_cases c13 : x5_3 < (l0.length : Int)
                      · rw [if_pos c13] at H
                        have c13b0 : decide (x5_3 < (l0.length : Int)) = true := decide_eq_true c13
                        clear c13
                        by_cases c14 : 0 ≤ x4_1
                        · rw [if_pos c14] at H
                          have c14b0 : decide (0 ≤ x4_1) = true := decide_eq_true c14
                          clear c14
                          by_cases c15 : x4_1 < (l0.length : Int)
                          · rw [if_pos c15] at H
                            have c15b0 : decide (x4_1 < (l0.length : Int)) = true := decide_eq_true c15
                            clear c15
                            by_cases c16 : (rd l0 x5_3) = (rd l0 x4_1)
                            · rw [if_pos c16] at H
                              have c16b0 : ((rd l0 x5_3) == (rd l0 x4_1)) = true := beq_iff_eq.mpr c16
                              have c16b1 : ((rd l0 x5_3) != (rd l0 x4_1)) = false := bne_eq_false_iff_eq.mpr c16
                              clear c16
                              simp only [Option.some.injEq, Prod.mk.injEq] at H
                              obtain ⟨rfl, rfl⟩ := H
                              have p242 : 0 ≤ (x5_3 : Int) := of_decide_eq_true (by first | (with_reducible assumption) | assumption)
                              have q242 : x5_3 < (l0.length : Int) := of_decide_eq_true (by first | (with_reducible assumption) | assumption)
                              obtain ⟨ad242, e242, hx242_0⟩ := Kd.at_int HR0.out x5_3 p242 q242
                              cases e242
                              replace p242 := eq_true p242
                              replace q242 := eq_true q242
                              have p243 : 0 ≤ (x4_1 : Int) := of_decide_eq_true (by first | (with_reducible assumption) | assumption)
                              have q243 : x4_1 < (l0.length : Int) := of_decide_eq_true (by first | (with_reducible assumption) | assumption)
                              obtain ⟨ad243, e243, hx243_0⟩ := Kd.at_int HR0.out x4_1 p243 q243
                              obtain rfl : ad242 = ad243 := (by injection e243)
                              replace p243 := eq_true p243
                              replace q243 := eq_true q243
                              go_wp2
                              repeat (go_quiet (fail); try go_wp2)
                              go_ret2
                              exact ⟨by first | rfl | (simp; done) | (simp [*]; done), by repeat (first | exact Drawn0.refl _ | apply Drawn0.step)⟩
                            · rw [if_neg c16] at H
                              have c16b0 : ((rd l0 x5_3) == (rd l0 x4_1)) = false := beq_eq_false_iff_ne.mpr c16
                              have c16b1 : ((rd l0 x5_3) != (rd l0 x4_1)) = true := bne_iff_ne.mpr c16
                              have H' := Aside0.mk H
                              clear H
                              have p242 : 0 ≤ (x5_3 : Int) := of_decide_eq_true (by first | (with_reducible assumption) | assumption)
                              have q242 : x5_3 < (l0.length : Int) := of_decide_eq_true (by first | (with_reducible assumption) | assumption)
                              obtain ⟨ad242, e242, hx242_0⟩ := Kd.at_int HR0.out x5_3 p242 q242
                              cases e242
                              replace p242 := eq_true p242
                              replace q242 := eq_true q242
                              have p243 : 0 ≤ (x4_1 : Int) := of_decide_eq_true (by first | (with_reducible assumption) | assumption)
                              have q243 : x4_1 < (l0.length : Int) := of_decide_eq_true (by first | (with_reducible assumption) | assumption)
                              obtain ⟨ad243, e243, hx243_0⟩ := Kd.at_int HR0.out x4_1 p243 q243
                              obtain rfl : ad242 = ad243 := (by injection e243)
                              replace p243 := eq_true p243
                              replace q243 := eq_true q243
                              go_wp2
                              repeat (go_quiet (fail); try go_wp2)
                              go_roundg k3
                              case measure => have := HK1.out; have := HJ2.out; have := HK3.out; omega
                              case rel => exact ⟨(wrap64 (x5_3 + 1)), (by first | rfl | (simp; done) | (simp [*]; done)), H', ⟨by have := HK1.out; have := HJ2.out; have := HK3.out; omega⟩, by repeat (first | exact Drawn0.refl _ | apply Drawn0.step)⟩
                          · rw [if_neg c15] at H
                            exact absurd H (by simp)
                        · rw [if_neg c14] at H
                          exact absurd H (by simp)
                      · rw [if_neg c13] at H
                        exact absurd H (by simp)
                    · rw [if_neg c12] at H
                      exact absurd H (by simp)
                  · rw [if_neg c11] at H
                    have c11b0 : decide (x5_3 < x4_1) = false := decide_eq_false c11
                    clear c11
                    have H' := Aside0.mk H
                    clear H
                    go_wp2
                    repeat (go_quiet (fail); try go_wp2)
                    go_roundg k3
                    case measure => have := HK1.out; have := HJ2.out; have := HK3.out; omega
                    case rel => exact ⟨(wrap64 (x4_1 + 1)), (by first | rfl | (simp; done) | (simp [*]; done)), H', ⟨by have := HK1.out; have := HJ2.out; have := HK3.out; omega⟩, by repeat (first | exact Drawn0.refl _ | apply Drawn0.step)⟩
      · rw [if_neg c2] at H
        have c2b0 : decide (x4_1 < (l0.length : Int)) = false := decide_eq_false c2
        clear c2
        by_cases c17 : (l0.length : Int) ≥ 4
        · rw [if_pos c17] at H
          have c17b0 : decide (4 ≤ (l0.length : Int)) = true := decide_eq_true c17
          have c17b1 : decide (4 ≤ l0.length) = true := decide_eq_true (by omega)
          clear c17
          by_cases c18 : 0 < (l0.length : Int)
          · rw [if_pos c18] at H
            have c18b0 : decide (0 < (l0.length : Int)) = true := decide_eq_true c18
            have c18b1 : decide (0 < l0.length) = true := decide_eq_true (by omega)
            clear c18
            obtain ⟨ji19, hji19⟩ : ∃ j_ : Int, (wrap64 ((l0.length : Int) - 1)) = j_ := ⟨_, rfl⟩
            replace H : (if 0 ≤ (ji19) then (if (ji19) < (l0.length : Int) then ((neonwrightref04_near.f (rd l0 0) (rd l0 (ji19))).bind fun t238 => (some (true, t238))) else (none)) else (none)) = some (r1, r2) := by first | (rw [hji19] at H; exact H) | (simp only [hji19] at H ⊢; exact H)
            have hji19w : (IntKind.i64.wrap ((l0.length : Int) - 1)) = ji19 := (i64_w _).trans hji19
            by_cases c20 : 0 ≤ (ji19)
            · rw [if_pos c20] at H
              have c20b0 : decide (0 ≤ (ji19)) = true := decide_eq_true c20
              clear c20
              by_cases c21 : (ji19) < (l0.length : Int)
              · rw [if_pos c21] at H
                have c21b0 : decide ((ji19) < (l0.length : Int)) = true := decide_eq_true c21
                clear c21
                replace H := Option.bind_eq_some_iff.mp H
                obtain ⟨t238, A220, H⟩ := H
                replace H : (some (true, t238)) = some (r1, r2) := H
                have A22 := Aside0.mk A220
                clear A220
                simp only [Option.some.injEq, Prod.mk.injEq] at H
                obtain ⟨rfl, rfl⟩ := H
                have p236 : 0 ≤ (0 : Int) := (by omega)
                have q236 : 0 < (l0.length : Int) := of_decide_eq_true (by first | (with_reducible assumption) | assumption)
                obtain ⟨ad236, e236, hx236_0⟩ := Kd.at_int HR0.out 0 p236 q236
                cases e236
                have qi236 : (0 < l0.length) = True := eq_true (by omega)
                (try rw [show ((0 : Int)).toNat = 0 from rfl] at hx236_0)
                (try rw [Addr.add_zero'] at hx236_0)
                replace p236 := eq_true p236
                replace q236 := eq_true q236
                have p237 : 0 ≤ ((ji19) : Int) := of_decide_eq_true (by first | (with_reducible assumption) | assumption)
                have q237 : (ji19) < (l0.length : Int) := of_decide_eq_true (by first | (with_reducible assumption) | assumption)
                obtain ⟨ad237, e237, hx237_0⟩ := Kd.at_int HR0.out (ji19) p237 q237
                obtain rfl : ad236 = ad237 := (by injection e237)
                replace p237 := eq_true p237
                replace q237 := eq_true q237
                go_wp2_with (first | (go_at_call 54; (with_reducible refine (neonwrightref04_near.calls (rd l0 0) (rd l0 (ji19)) t238 _ A22.out).mono ?_); rintro e w' ⟨rfl, ⟨nd, rfl⟩⟩; (try first | exact ⟨rfl, _, World.drewN_drewN _ _ _⟩ | exact ⟨rfl, _, Eq.trans (World.drewN_drewN _ _ _) (congrArg (World.drewN _) (Nat.add_assoc _ _ _))⟩)))
                repeat (go_quiet (first | (go_at_call 54; (with_reducible refine (neonwrightref04_near.calls (rd l0 0) (rd l0 (ji19)) t238 _ A22.out).mono ?_); rintro e w' ⟨rfl, ⟨nd, rfl⟩⟩; (try first | exact ⟨rfl, _, World.drewN_drewN _ _ _⟩ | exact ⟨rfl, _, Eq.trans (World.drewN_drewN _ _ _) (congrArg (World.drewN _) (Nat.add_assoc _ _ _))⟩))); try go_wp2_with (first | (go_at_call 54; (with_reducible refine (neonwrightref04_near.calls (rd l0 0) (rd l0 (ji19)) t238 _ A22.out).mono ?_); rintro e w' ⟨rfl, ⟨nd, rfl⟩⟩; (try first | exact ⟨rfl, _, World.drewN_drewN _ _ _⟩ | exact ⟨rfl, _, Eq.trans (World.drewN_drewN _ _ _) (congrArg (World.drewN _) (Nat.add_assoc _ _ _))⟩))))
                go_ret2
                exact ⟨by first | rfl | (simp; done) | (simp only [← hji19] <;> (first | rfl | simp)) | (simp [*]; done), by repeat (first | exact Drawn0.refl _ | apply Drawn0.step)⟩
              · rw [if_neg c21] at H
                exact absurd H (by simp)
            · rw [if_neg c20] at H
              exact absurd H (by simp)
          · rw [if_neg c18] at H
            exact absurd H (by simp)
        · rw [if_neg c17] at H
          have c17b0 : decide (4 ≤ (l0.length : Int)) = false := decide_eq_false c17
          have c17b1 : decide (4 ≤ l0.length) = false := decide_eq_false (by omega)
          clear c17
          simp only [Option.some.injEq, Prod.mk.injEq] at H
          obtain ⟨rfl, rfl⟩ := H
          go_wp2
          repeat (go_quiet (fail); try go_wp2)
          go_ret2
          exact ⟨by first | rfl | (simp; done) | (simp [*]; done), by repeat (first | exact Drawn0.refl _ | apply Drawn0.step)⟩

end Go.Proofs.Ytnakkdaeehglnaa.P

namespace Go.Proofs.Ytnakkdaeehglnaa.P
open Go.RowKit Go.Proofs.YtnakkdaeehglnaaW.PrintWords Go.Proofs.YtnakkdaeehglnaaW.PrintLast Go.Proofs.YtnakkdaeehglnaaW.PrintMore
attribute [local go_sem] max2_int min2_int max_two min_two max_three min_three max_four min_four   -- for this text's walks alone
set_option linter.unusedVariables false
set_option linter.unusedSimpArgs false

/-! ### neonwrightref04_Path: function 36 -/
def neonwrightref04_Path.f (k : Nat) (a0 : Int) (l1 : List Int) : Option (Bool × Bool × Int) := (neonwrightref04_States.f k a0 l1).bind fun t401 => (if t401 = 0 then ((neonwrightref04_path.f k l1).bind fun bt402 => (some (bt402.1, bt402.2, 0))) else (some (false, false, t401)))
theorem neonwrightref04_Path.mono : ∀ a0 a1 k, LeO (neonwrightref04_Path.f k a0 a1) (neonwrightref04_Path.f (k + 1) a0 a1) := by
  intro a0 a1 k
  unfold neonwrightref04_Path.f
  repeat' first
      | (with_reducible exact neonwrightref04_States.mono _ _ _)
      | (with_reducible exact neonwrightref04_path.mono _ _)
      | (with_reducible exact LeO.refl _)
      | (with_reducible exact LeO.none _)
      | (with_reducible refine LeO.ite ?_ ?_)
      | (with_reducible refine LeO.bind ?_ (fun _ => ?_))
      | exact neonwrightref04_States.mono _ _ _
      | exact neonwrightref04_path.mono _ _
      | exact LeO.none _
      | refine LeO.ite ?_ ?_
      | refine LeO.bind ?_ (fun _ => ?_)
set_option maxHeartbeats 8000000 in
set_option maxRecDepth 100000 in
theorem neonwrightref04_Path.calls (k : Nat) (a0 : Int) (A1 : Option Addr) (c1 : Nat) (l1 : List Int) (r1 : Bool) (r2 : Bool) (r3 : Int) (w : World) (hr1 : Kd.C (Kd.int .i64) w A1 l1.length l1) (hc1 : l1.length ≤ c1) (h : neonwrightref04_Path.f k a0 l1 = some (r1, r2, r3)) :
    Calls Try.prog 36 #[.int .i64 a0, .slice A1 l1.length c1] w fun e w' => e = .returned (.tuple #[.bool r1, .bool r2, .int .i64 r3]) ∧ Drawn0 w w' := by
  have HR1 := Aside0.mk hr1
  have HC1 := Aside0.mk hc1
  clear hr1 hc1
  have H : ((neonwrightref04_States.f k a0 l1).bind fun t401 => (if t401 = 0 then ((neonwrightref04_path.f k l1).bind fun bt402 => (some (bt402.1, bt402.2, 0))) else (some (false, false, t401)))) = some (r1, r2, r3) := h
  clear h
  replace H := Option.bind_eq_some_iff.mp H
  obtain ⟨t401, A30, H⟩ := H
  replace H : (if t401 = 0 then ((neonwrightref04_path.f k l1).bind fun bt402 => (some (bt402.1, bt402.2, 0))) else (some (false, false, t401))) = some (r1, r2, r3) := H
  have A3 := Aside0.mk A30
  clear A30
  by_cases c4 : t401 = 0
  · rw [if_pos c4] at H
    have c4b0 : (t401 == 0) = true := beq_iff_eq.mpr c4
    have c4b1 : (t401 != 0) = false := bne_eq_false_iff_eq.mpr c4
    clear c4
    replace H := Option.bind_eq_some_iff.mp H
    obtain ⟨⟨t402, t403⟩, A50, H⟩ := H
    replace H : (some (t402, t403, 0)) = some (r1, r2, r3) := H
    have A5 := Aside0.mk A50
    clear A50
    simp only [Option.some.injEq, Prod.mk.injEq] at H
    obtain ⟨rfl, rfl, rfl⟩ := H
    go_enter Try.func36, Try.ntmps36
    go_wp2_with (first | ((with_reducible refine gate_callee (f := 51) rfl ?_); refine goesL_ (some 12) rfl rfl Try.func51 (by kernel_rfl) rfl #[.int .i64 a0, .slice A1 l1.length c1] rfl (by (try simp only [List.map_toArray, List.map_cons, List.map_nil]); first | done | rfl | (simp only [List.length_drop, List.length_take]; rfl)) ?_; (with_reducible refine (neonwrightref04_States.calls k a0 _ _ l1 t401 _ ?side1 ?side2 A3.out).mono ?_); (case side1 => repeat (first | exact HR1.out | (with_reducible refine Kd.C_alloc ?_ _) | (with_reducible refine Kd.C_drewN ?_ _) | (with_reducible refine Kd.C_drew ?_))); (case side2 => exact HC1.out); rintro e w' ⟨rfl, ⟨nd, rfl⟩⟩; refine ⟨_, rfl, ?_⟩) | ((with_reducible refine gate_callee (f := 58) rfl ?_); refine goesL_ (some 18) rfl rfl Try.func58 (by kernel_rfl) rfl #[.slice A1 l1.length c1] rfl (by (try simp only [List.map_toArray, List.map_cons, List.map_nil]); first | done | rfl | (simp only [List.length_drop, List.length_take]; rfl)) ?_; (with_reducible refine (neonwrightref04_path.calls k _ _ l1 t402 t403 _ ?side1 ?side2 A5.out).mono ?_); (case side1 => repeat (first | exact HR1.out | (with_reducible refine Kd.C_alloc ?_ _) | (with_reducible refine Kd.C_drewN ?_ _) | (with_reducible refine Kd.C_drew ?_))); (case side2 => exact HC1.out); rintro e w' ⟨rfl, ⟨nd, rfl⟩⟩; refine ⟨_, rfl, ?_⟩))
    go_ret3
    exact ⟨by first | rfl | (simp; done) | (simp [*]; done), by repeat (first | exact Drawn0.refl _ | apply Drawn0.step)⟩
  · rw [if_neg c4] at H
    have c4b0 : (t401 == 0) = false := beq_eq_false_iff_ne.mpr c4
    have c4b1 : (t401 != 0) = true := bne_iff_ne.mpr c4
    simp only [Option.some.injEq, Prod.mk.injEq] at H
    obtain ⟨rfl, rfl, rfl⟩ := H
    go_enter Try.func36, Try.ntmps36
    go_wp2_with (first | ((with_reducible refine gate_callee (f := 51) rfl ?_); refine goesL_ (some 12) rfl rfl Try.func51 (by kernel_rfl) rfl #[.int .i64 a0, .slice A1 l1.length c1] rfl (by (try simp only [List.map_toArray, List.map_cons, List.map_nil]); first | done | rfl | (simp only [List.length_drop, List.length_take]; rfl)) ?_; (with_reducible refine (neonwrightref04_States.calls k a0 _ _ l1 t401 _ ?side1 ?side2 A3.out).mono ?_); (case side1 => repeat (first | exact HR1.out | (with_reducible refine Kd.C_alloc ?_ _) | (with_reducible refine Kd.C_drewN ?_ _) | (with_reducible refine Kd.C_drew ?_))); (case side2 => exact HC1.out); rintro e w' ⟨rfl, ⟨nd, rfl⟩⟩; refine ⟨_, rfl, ?_⟩))
    go_ret3
    exact ⟨by first | rfl | (simp; done) | (simp [*]; done), by repeat (first | exact Drawn0.refl _ | apply Drawn0.step)⟩

end Go.Proofs.Ytnakkdaeehglnaa.P

namespace Go.Proofs.Ytnakkdaeehglnaa.P
open Go.RowKit Go.Proofs.YtnakkdaeehglnaaW.PrintWords Go.Proofs.YtnakkdaeehglnaaW.PrintLast Go.Proofs.YtnakkdaeehglnaaW.PrintMore
attribute [local go_sem] max2_int min2_int max_two min_two max_three min_three max_four min_four   -- for this text's walks alone
set_option linter.unusedVariables false
set_option linter.unusedSimpArgs false

/-! ### neonwrightref04_snake: function 52 -/
mutual
def neonwrightref04_snake.l0 : Nat → List Int → Bool → Bool → Int → Option (Bool × Bool)
  | 0, _, _, _, _ => none
  | k + 1, x0, x5, x6, x7 => if x7 < (x0.length : Int) then (neonwrightref04_snake.l1 k x0 x5 x6 x7 0) else (some (x6, x5))
def neonwrightref04_snake.l1 : Nat → List Int → Bool → Bool → Int → Int → Option (Bool × Bool)
  | 0, _, _, _, _, _ => none
  | k + 1, x0, x5, x6, x7, x8 => if x8 < (wrap64 (x7 - 1)) then (if x8 = 0 then (if 0 ≤ x7 then (if x7 < (x0.length : Int) then (if 0 ≤ x8 then (if x8 < (x0.length : Int) then ((neonwrightref04_near.f (rd x0 x7) (rd x0 x8)).bind fun t248 => (if t248 = true then (if x5 = true then (neonwrightref04_snake.l1 k x0 (x7 == (wrap64 ((x0.length : Int) - 1))) false x7 (wrap64 (x8 + 1))) else (neonwrightref04_snake.l1 k x0 false false x7 (wrap64 (x8 + 1)))) else (neonwrightref04_snake.l1 k x0 x5 x6 x7 (wrap64 (x8 + 1))))) else (none)) else (none)) else (none)) else (none)) else (if 0 ≤ x7 then (if x7 < (x0.length : Int) then (if 0 ≤ x8 then (if x8 < (x0.length : Int) then ((neonwrightref04_near.f (rd x0 x7) (rd x0 x8)).bind fun t251 => (if t251 = true then (if x5 = true then (neonwrightref04_snake.l1 k x0 false false x7 (wrap64 (x8 + 1))) else (neonwrightref04_snake.l1 k x0 false false x7 (wrap64 (x8 + 1)))) else (neonwrightref04_snake.l1 k x0 x5 x6 x7 (wrap64 (x8 + 1))))) else (none)) else (none)) else (none)) else (none))) else (neonwrightref04_snake.l0 k x0 x5 x6 (wrap64 (x7 + 1)))
end
def neonwrightref04_snake.f (k : Nat) (l0 : List Int) : Option (Bool × Bool) := (neonwrightref04_path.f k l0).bind fun bt244 => (if bt244.1 = true then (neonwrightref04_snake.l0 k l0 bt244.2 true 0) else (some (false, false)))
theorem neonwrightref04_snake.mono_l : ∀ k, (∀ y0 y1 y2 y3, LeO (neonwrightref04_snake.l0 k y0 y1 y2 y3) (neonwrightref04_snake.l0 (k + 1) y0 y1 y2 y3)) ∧ (∀ y0 y1 y2 y3 y4, LeO (neonwrightref04_snake.l1 k y0 y1 y2 y3 y4) (neonwrightref04_snake.l1 (k + 1) y0 y1 y2 y3 y4))
  | 0 => ⟨fun _ _ _ _ r h => by simp [neonwrightref04_snake.l0] at h, fun _ _ _ _ _ r h => by simp [neonwrightref04_snake.l1] at h⟩
  | k + 1 => by
    obtain ⟨ih0, ih1⟩ := neonwrightref04_snake.mono_l k
    refine ⟨?_, ?_⟩
    · intro y0 y1 y2 y3
      unfold neonwrightref04_snake.l0
      repeat' first
      | (with_reducible exact ih0 _ _ _ _)
      | (with_reducible exact ih1 _ _ _ _ _)
      | (with_reducible exact neonwrightref04_path.mono _ _)
      | (with_reducible exact LeO.refl _)
      | (with_reducible exact LeO.none _)
      | (with_reducible refine LeO.ite ?_ ?_)
      | (with_reducible refine LeO.bind ?_ (fun _ => ?_))
      | exact ih0 _ _ _ _
      | exact ih1 _ _ _ _ _
      | exact neonwrightref04_path.mono _ _
      | exact LeO.none _
      | refine LeO.ite ?_ ?_
      | refine LeO.bind ?_ (fun _ => ?_)
    · intro y0 y1 y2 y3 y4
      unfold neonwrightref04_snake.l1
      repeat' first
      | (with_reducible exact ih0 _ _ _ _)
      | (with_reducible exact ih1 _ _ _ _ _)
      | (with_reducible exact neonwrightref04_path.mono _ _)
      | (with_reducible exact LeO.refl _)
      | (with_reducible exact LeO.none _)
      | (with_reducible refine LeO.ite ?_ ?_)
      | (with_reducible refine LeO.bind ?_ (fun _ => ?_))
      | exact ih0 _ _ _ _
      | exact ih1 _ _ _ _ _
      | exact neonwrightref04_path.mono _ _
      | exact LeO.none _
      | refine LeO.ite ?_ ?_
      | refine LeO.bind ?_ (fun _ => ?_)
theorem neonwrightref04_snake.mono : ∀ a0 k, LeO (neonwrightref04_snake.f k a0) (neonwrightref04_snake.f (k + 1) a0) := by
  intro a0 k
  obtain ⟨ih0, ih1⟩ := neonwrightref04_snake.mono_l k
  unfold neonwrightref04_snake.f
  repeat' first
      | (with_reducible exact ih0 _ _ _ _)
      | (with_reducible exact ih1 _ _ _ _ _)
      | (with_reducible exact neonwrightref04_path.mono _ _)
      | (with_reducible exact LeO.refl _)
      | (with_reducible exact LeO.none _)
      | (with_reducible refine LeO.ite ?_ ?_)
      | (with_reducible refine LeO.bind ?_ (fun _ => ?_))
      | exact ih0 _ _ _ _
      | exact ih1 _ _ _ _ _
      | exact neonwrightref04_path.mono _ _
      | exact LeO.none _
      | refine LeO.ite ?_ ?_
      | refine LeO.bind ?_ (fun _ => ?_)
set_option maxHeartbeats 8000000 in
set_option maxRecDepth 100000 in
theorem neonwrightref04_snake.calls (k : Nat) (A0 : Option Addr) (c0 : Nat) (l0 : List Int) (r1 : Bool) (r2 : Bool) (w : World) (hr0 : Kd.C (Kd.int .i64) w A0 l0.length l0) (hc0 : l0.length ≤ c0) (h : neonwrightref04_snake.f k l0 = some (r1, r2)) :
    Calls Try.prog 52 #[.slice A0 l0.length c0] w fun e w' => e = .returned (.tuple #[.bool r1, .bool r2]) ∧ Drawn0 w w' := by
  have HR0 := Aside0.mk hr0
  have HC0 := Aside0.mk hc0
  clear hr0 hc0
  have H : ((neonwrightref04_path.f k l0).bind fun bt244 => (if bt244.1 = true then (neonwrightref04_snake.l0 k l0 bt244.2 true 0) else (some (false, false)))) = some (r1, r2) := h
  clear h
  replace H := Option.bind_eq_some_iff.mp H
  obtain ⟨⟨t244, t245⟩, A20, H⟩ := H
  replace H : (if t244 = true then (neonwrightref04_snake.l0 k l0 t245 true 0) else (some (false, false))) = some (r1, r2) := H
  have A2 := Aside0.mk A20
  clear A20
  by_cases c3 : t244 = true
  · subst c3
    have H1 : (neonwrightref04_snake.l0 k l0 t245 true 0) = some (r1, r2) := by rw [if_pos rfl] at H; exact H
    clear H
    have H := H1
    clear H1
    have H' := Aside0.mk H
    clear H
    go_enter Try.func52, Try.ntmps52
    go_wp2_with (first | (go_at_call 58; (with_reducible refine (neonwrightref04_path.calls k _ _ l0 true t245 _ ?side1 ?side2 A2.out).mono ?_); (case side1 => repeat (first | exact HR0.out | (with_reducible refine Kd.C_alloc ?_ _) | (with_reducible refine Kd.C_drewN ?_ _) | (with_reducible refine Kd.C_drew ?_))); (case side2 => exact HC0.out); rintro e w' ⟨rfl, ⟨nd, rfl⟩⟩; (try first | exact ⟨rfl, _, World.drewN_drewN _ _ _⟩ | exact ⟨rfl, _, Eq.trans (World.drewN_drewN _ _ _) (congrArg (World.drewN _) (Nat.add_assoc _ _ _))⟩)))
    repeat (go_quiet (first | (go_at_call 58; (with_reducible refine (neonwrightref04_path.calls k _ _ l0 true t245 _ ?side1 ?side2 A2.out).mono ?_); (case side1 => repeat (first | exact HR0.out | (with_reducible refine Kd.C_alloc ?_ _) | (with_reducible refine Kd.C_drewN ?_ _) | (with_reducible refine Kd.C_drew ?_))); (case side2 => exact HC0.out); rintro e w' ⟨rfl, ⟨nd, rfl⟩⟩; (try first | exact ⟨rfl, _, World.drewN_drewN _ _ _⟩ | exact ⟨rfl, _, Eq.trans (World.drewN_drewN _ _ _) (congrArg (World.drewN _) (Nat.add_assoc _ _ _))⟩))); try go_wp2_with (first | (go_at_call 58; (with_reducible refine (neonwrightref04_path.calls k _ _ l0 true t245 _ ?side1 ?side2 A2.out).mono ?_); (case side1 => repeat (first | exact HR0.out | (with_reducible refine Kd.C_alloc ?_ _) | (with_reducible refine Kd.C_drewN ?_ _) | (with_reducible refine Kd.C_drew ?_))); (case side2 => exact HC0.out); rintro e w' ⟨rfl, ⟨nd, rfl⟩⟩; (try first | exact ⟨rfl, _, World.drewN_drewN _ _ _⟩ | exact ⟨rfl, _, Eq.trans (World.drewN_drewN _ _ _) (congrArg (World.drewN _) (Nat.add_assoc _ _ _))⟩))))
    go_loopg [5, 6, 7] k (fun kq v5 v6 v7 w' => ∃ (x5_1 : Bool) (x6_1 : Bool) (x7_1 : Int), v5 = .bool x5_1 ∧ v6 = .bool x6_1 ∧ v7 = .int .i64 x7_1 ∧ Aside0 (neonwrightref04_snake.l0 kq l0 x5_1 x6_1 x7_1 = some (r1, r2)) ∧ Aside0 (kq ≤ k) ∧ Drawn0 w w')
    case atStart => exact ⟨(t245), (true), (0), (by first | rfl | (simp; done) | (simp [*]; done)), (by first | rfl | (simp; done) | (simp [*]; done)), (by first | rfl | (simp; done) | (simp [*]; done)), H', ⟨Nat.le_refl _⟩, by repeat (first | exact Drawn0.refl _ | apply Drawn0.step)⟩
    case round =>
      clear H'
      try clear p2
      try clear c3
      obtain ⟨x5_1, x6_1, x7_1, rfl, rfl, rfl, HA, HK1, ⟨m1, rfl⟩⟩ := hrel
      cases gk with
      | zero => exact absurd HA.out (by simp [neonwrightref04_snake.l0])
      | succ k1 =>
        have H := HA.out
        clear HA
        simp only [neonwrightref04_snake.l0] at H
        by_cases c4 : x7_1 < (l0.length : Int)
        · rw [if_pos c4] at H
          have c4b0 : decide (x7_1 < (l0.length : Int)) = true := decide_eq_true c4
          clear c4
          have H' := Aside0.mk H
          clear H
          go_wp2
          repeat (go_quiet (fail); try go_wp2)
          go_loopg [5, 6, 8] k1 (fun kq v5 v6 v8 w' => ∃ (x5_2 : Bool) (x6_2 : Bool) (x8_2 : Int), v5 = .bool x5_2 ∧ v6 = .bool x6_2 ∧ v8 = .int .i64 x8_2 ∧ Aside0 (neonwrightref04_snake.l1 kq l0 x5_2 x6_2 x7_1 x8_2 = some (r1, r2)) ∧ Aside0 (kq ≤ k1) ∧ Drawn0 w w')
          case atStart => exact ⟨(x5_1), (x6_1), (0), (by first | rfl | (simp; done) | (simp [*]; done)), (by first | rfl | (simp; done) | (simp [*]; done)), (by first | rfl | (simp; done) | (simp [*]; done)), H', ⟨Nat.le_refl _⟩, by repeat (first | exact Drawn0.refl _ | apply Drawn0.step)⟩
          case round =>
            clear H'
            try clear p2
            try clear c3
            try clear c4
            try clear c4b0
            try clear p2
            obtain ⟨x5_2, x6_2, x8_2, rfl, rfl, rfl, HA, HK2, ⟨m2, rfl⟩⟩ := hrel
            cases gk with
            | zero => exact absurd HA.out (by simp [neonwrightref04_snake.l1])
            | succ k2 =>
              have H := HA.out
              clear HA
              simp only [neonwrightref04_snake.l1] at H
              by_cases c5 : x8_2 < (wrap64 (x7_1 - 1))
              · rw [if_pos c5] at H
                have c5b0 : decide (x8_2 < (wrap64 (x7_1 - 1))) = true := decide_eq_true c5
                clear c5
                by_cases c6 : x8_2 = 0
                · rw [if_pos c6] at H
                  have c6b0 : (x8_2 == 0) = true := beq_iff_eq.mpr c6
                  have c6b1 : (x8_2 != 0) = false := bne_eq_false_iff_eq.mpr c6
                  clear c6
                  by_cases c7 : 0 ≤ x7_1
                  · rw [if_pos c7] at H
                    have c7b0 : decide (0 ≤ x7_1) = true := decide_eq_true c7
                    clear c7
                    by_cases c8 : x7_1 < (l0.length : Int)
                    · rw [if_pos c8] at H
                      have c8b0 : decide (x7_1 < (l0.length : Int)) = true := decide_eq_true c8
                      clear c8
                      by_cases c9 : 0 ≤ x8_2
                      · rw [if_pos c9] at H
                        have c9b0 : decide (0 ≤ x8_2) = true := decide_eq_true c9
                        clear c9
                        by_cases c10 : x8_2 < (l0.length : Int)
                        · rw [if_pos c10] at H
                          have c10b0 : decide (x8_2 < (l0.length : Int)) = true := decide_eq_true c10
                          clear c10
                          replace H := Option.bind_eq_some_iff.mp H
                          obtain ⟨t248, A110, H⟩ := H
                          replace H : (if t248 = true then (if x5_2 = true then (neonwrightref04_snake.l1 k2 l0 (x7_1 == (wrap64 ((l0.length : Int) - 1))) false x7_1 (wrap64 (x8_2 + 1))) else (neonwrightref04_snake.l1 k2 l0 false false x7_1 (wrap64 (x8_2 + 1)))) else (neonwrightref04_snake.l1 k2 l0 x5_2 x6_2 x7_1 (wrap64 (x8_2 + 1)))) = some (r1, r2) := H
                          have A11 := Aside0.mk A110
                          clear A110
                          by_cases c12 : t248 = true
                          · subst c12
                            have H1 : (if x5_2 = true then (neonwrightref04_snake.l1 k2 l0 (x7_1 == (wrap64 ((l0.length : Int) - 1))) false x7_1 (wrap64 (x8_2 + 1))) else (neonwrightref04_snake.l1 k2 l0 false false x7_1 (wrap64 (x8_2 + 1)))) = some (r1, r2) := by rw [if_pos rfl] at H; exact H
                            clear H
                            have H := H1
                            clear H1
                            by_cases c13 : x5_2 = true
                            · subst c13
                              have H1 : (neonwrightref04_snake.l1 k2 l0 (x7_1 == (wrap64 ((l0.length : Int) - 1))) false x7_1 (wrap64 (x8_2 + 1))) = some (r1, r2) := by rw [if_pos rfl] at H; exact H
                              clear H
                              have H := H1
                              clear H1
                              have H' := Aside0.mk H
                              clear H
                              have p246 : 0 ≤ (x7_1 : Int) := of_decide_eq_true (by first | (with_reducible assumption) | assumption)
                              have q246 : x7_1 < (l0.length : Int) := of_decide_eq_true (by first | (with_reducible assumption) | assumption)
                              obtain ⟨ad246, e246, hx246_0⟩ := Kd.at_int HR0.out x7_1 p246 q246
                              cases e246
                              replace p246 := eq_true p246
                              replace q246 := eq_true q246
                              have p247 : 0 ≤ (x8_2 : Int) := of_decide_eq_true (by first | (with_reducible assumption) | assumption)
                              have q247 : x8_2 < (l0.length : Int) := of_decide_eq_true (by first | (with_reducible assumption) | assumption)
                              obtain ⟨ad247, e247, hx247_0⟩ := Kd.at_int HR0.out x8_2 p247 q247
                              obtain rfl : ad246 = ad247 := (by injection e247)
                              replace p247 := eq_true p247
                              replace q247 := eq_true q247
                              go_wp2_with (first | (go_at_call 54; (with_reducible refine (neonwrightref04_near.calls (rd l0 x7_1) (rd l0 x8_2) true _ A11.out).mono ?_); rintro e w' ⟨rfl, ⟨nd, rfl⟩⟩; (try first | exact ⟨rfl, _, World.drewN_drewN _ _ _⟩ | exact ⟨rfl, _, Eq.trans (World.drewN_drewN _ _ _) (congrArg (World.drewN _) (Nat.add_assoc _ _ _))⟩)))
                              repeat (go_quiet (first | (go_at_call 54; (with_reducible refine (neonwrightref04_near.calls (rd l0 x7_1) (rd l0 x8_2) true _ A11.out).mono ?_); rintro e w' ⟨rfl, ⟨nd, rfl⟩⟩; (try first | exact ⟨rfl, _, World.drewN_drewN _ _ _⟩ | exact ⟨rfl, _, Eq.trans (World.drewN_drewN _ _ _) (congrArg (World.drewN _) (Nat.add_assoc _ _ _))⟩))); try go_wp2_with (first | (go_at_call 54; (with_reducible refine (neonwrightref04_near.calls (rd l0 x7_1) (rd l0 x8_2) true _ A11.out).mono ?_); rintro e w' ⟨rfl, ⟨nd, rfl⟩⟩; (try first | exact ⟨rfl, _, World.drewN_drewN _ _ _⟩ | exact ⟨rfl, _, Eq.trans (World.drewN_drewN _ _ _) (congrArg (World.drewN _) (Nat.add_assoc _ _ _))⟩))))
                              go_roundg k2
                              case measure => have := HK1.out; have := HK2.out; omega
                              case rel => exact ⟨((x7_1 == (wrap64 ((l0.length : Int) - 1)))), (false), (wrap64 (x8_2 + 1)), (by first | rfl | (simp; done) | (simp [*]; done)), (by first | rfl | (simp; done) | (simp [*]; done)), (by first | rfl | (simp; done) | (simp [*]; done)), H', ⟨by have := HK1.out; have := HK2.out; omega⟩, by repeat (first | exact Drawn0.refl _ | apply Drawn0.step)⟩
                            · replace c13 := Bool.eq_false_iff.mpr c13
                              subst c13
                              have H1 : (neonwrightref04_snake.l1 k2 l0 false false x7_1 (wrap64 (x8_2 + 1))) = some (r1, r2) := by rw [if_neg (show ¬ (false = true) by decide)] at H; exact H
                              clear H
                              have H := H1
                              clear H1
                              have H' := Aside0.mk H
                              clear H
                              have p246 : 0 ≤ (x7_1 : Int) := of_decide_eq_true (by first | (with_reducible assumption) | assumption)
                              have q246 : x7_1 < (l0.length : Int) := of_decide_eq_true (by first | (with_reducible assumption) | assumption)
                              obtain ⟨ad246, e246, hx246_0⟩ := Kd.at_int HR0.out x7_1 p246 q246
                              cases e246
                              replace p246 := eq_true p246
                              replace q246 := eq_true q246
                              have p247 : 0 ≤ (x8_2 : Int) := of_decide_eq_true (by first | (with_reducible assumption) | assumption)
                              have q247 : x8_2 < (l0.length : Int) := of_decide_eq_true (by first | (with_reducible assumption) | assumption)
                              obtain ⟨ad247, e247, hx247_0⟩ := Kd.at_int HR0.out x8_2 p247 q247
                              obtain rfl : ad246 = ad247 := (by injection e247)
                              replace p247 := eq_true p247
                              replace q247 := eq_true q247
                              go_wp2_with (first | (go_at_call 54; (with_reducible refine (neonwrightref04_near.calls (rd l0 x7_1) (rd l0 x8_2) true _ A11.out).mono ?_); rintro e w' ⟨rfl, ⟨nd, rfl⟩⟩; (try first | exact ⟨rfl, _, World.drewN_drewN _ _ _⟩ | exact ⟨rfl, _, Eq.trans (World.drewN_drewN _ _ _) (congrArg (World.drewN _) (Nat.add_assoc _ _ _))⟩)))
                              repeat (go_quiet (first | (go_at_call 54; (with_reducible refine (neonwrightref04_near.calls (rd l0 x7_1) (rd l0 x8_2) true _ A11.out).mono ?_); rintro e w' ⟨rfl, ⟨nd, rfl⟩⟩; (try first | exact ⟨rfl, _, World.drewN_drewN _ _ _⟩ | exact ⟨rfl, _, Eq.trans (World.drewN_drewN _ _ _) (congrArg (World.drewN _) (Nat.add_assoc _ _ _))⟩))); try go_wp2_with (first | (go_at_call 54; (with_reducible refine (neonwrightref04_near.calls (rd l0 x7_1) (rd l0 x8_2) true _ A11.out).mono ?_); rintro e w' ⟨rfl, ⟨nd, rfl⟩⟩; (try first | exact ⟨rfl, _, World.drewN_drewN _ _ _⟩ | exact ⟨rfl, _, Eq.trans (World.drewN_drewN _ _ _) (congrArg (World.drewN _) (Nat.add_assoc _ _ _))⟩))))
                              go_roundg k2
                              case measure => have := HK1.out; have := HK2.out; omega
                              case rel => exact ⟨(false), (false), (wrap64 (x8_2 + 1)), (by first | rfl | (simp; done) | (simp [*]; done)), (by first | rfl | (simp; done) | (simp [*]; done)), (by first | rfl | (simp; done) | (simp [*]; done)), H', ⟨by have := HK1.out; have := HK2.out; omega⟩, by repeat (first | exact Drawn0.refl _ | apply Drawn0.step)⟩
                          · replace c12 := Bool.eq_false_iff.mpr c12
                            subst c12
                            have H1 : (neonwrightref04_snake.l1 k2 l0 x5_2 x6_2 x7_1 (wrap64 (x8_2 + 1))) = some (r1, r2) := by rw [if_neg (show ¬ (false = true) by decide)] at H; exact H
                            clear H
                            have H := H1
                            clear H1
                            have H' := Aside0.mk H
                            clear H
                            have p246 : 0 ≤ (x7_1 : Int) := of_decide_eq_true (by first | (with_reducible assumption) | assumption)
                            have q246 : x7_1 < (l0.length : Int) := of_decide_eq_true (by first | (with_reducible assumption) | assumption)
                            obtain ⟨ad246, e246, hx246_0⟩ := Kd.at_int HR0.out x7_1 p246 q246
                            cases e246
                            replace p246 := eq_true p246
                            replace q246 := eq_true q246
                            have p247 : 0 ≤ (x8_2 : Int) := of_decide_eq_true (by first | (with_reducible assumption) | assumption)
                            have q247 : x8_2 < (l0.length : Int) := of_decide_eq_true (by first | (with_reducible assumption) | assumption)
                            obtain ⟨ad247, e247, hx247_0⟩ := Kd.at_int HR0.out x8_2 p247 q247
                            obtain rfl : ad246 = ad247 := (by injection e247)
                            replace p247 := eq_true p247
                            replace q247 := eq_true q247
                            go_wp2_with (first | (go_at_call 54; (with_reducible refine (neonwrightref04_near.calls (rd l0 x7_1) (rd l0 x8_2) false _ A11.out).mono ?_); rintro e w' ⟨rfl, ⟨nd, rfl⟩⟩; (try first | exact ⟨rfl, _, World.drewN_drewN _ _ _⟩ | exact ⟨rfl, _, Eq.trans (World.drewN_drewN _ _ _) (congrArg (World.drewN _) (Nat.add_assoc _ _ _))⟩)))
                            repeat (go_quiet (first | (go_at_call 54; (with_reducible refine (neonwrightref04_near.calls (rd l0 x7_1) (rd l0 x8_2) false _ A11.out).mono ?_); rintro e w' ⟨rfl, ⟨nd, rfl⟩⟩; (try first | exact ⟨rfl, _, World.drewN_drewN _ _ _⟩ | exact ⟨rfl, _, Eq.trans (World.drewN_drewN _ _ _) (congrArg (World.drewN _) (Nat.add_assoc _ _ _))⟩))); try go_wp2_with (first | (go_at_call 54; (with_reducible refine (neonwrightref04_near.calls (rd l0 x7_1) (rd l0 x8_2) false _ A11.out).mono ?_); rintro e w' ⟨rfl, ⟨nd, rfl⟩⟩; (try first | exact ⟨rfl, _, World.drewN_drewN _ _ _⟩ | exact ⟨rfl, _, Eq.trans (World.drewN_drewN _ _ _) (congrArg (World.drewN _) (Nat.add_assoc _ _ _))⟩))))
                            go_roundg k2
                            case measure => have := HK1.out; have := HK2.out; omega
                            case rel => exact ⟨(x5_2), (x6_2), (wrap64 (x8_2 + 1)), (by first | rfl | (simp; done) | (simp [*]; done)), (by first | rfl | (simp; done) | (simp [*]; done)), (by first | rfl | (simp; done) | (simp [*]; done)), H', ⟨by have := HK1.out; have := HK2.out; omega⟩, by repeat (first | exact Drawn0.refl _ | apply Drawn0.step)⟩
                        · rw [if_neg c10] at H
                          exact absurd H (by simp)
                      · rw [if_neg c9] at H
                        exact absurd H (by simp)
                    · rw [if_neg c8] at H
                      exact absurd H (by simp)
                  · rw [if_neg c7] at H
                    exact absurd H (by simp)
                · rw [if_neg c6] at H
                  have c6b0 : (x8_2 == 0) = false := beq_eq_false_iff_ne.mpr c6
                  have c6b1 : (x8_2 != 0) = true := bne_iff_ne.mpr c6
                  by_cases c14 : 0 ≤ x7_1
                  · rw [if_pos c14] at H
                    have c14b0 : decide (0 ≤ x7_1) = true := decide_eq_true c14
                    clear c14
                    by_cases c15 : x7_1 < (l0.length : Int)
                    · rw [if_pos c15] at H
                      have c15b0 : decide (x7_1 < (l0.length : Int)) = true := decide_eq_true c15
                      clear c15
                      by_cases c16 : 0 ≤ x8_2
                      · rw [if_pos c16] at H
                        have c16b0 : decide (0 ≤ x8_2) = true := decide_eq_true c16
                        clear c16
                        by_cases c17 : x8_2 < (l0.length : Int)
                        · rw [if_pos c17] at H
                          have c17b0 : decide (x8_2 < (l0.length : Int)) = true := decide_eq_true c17
                          clear c17
                          replace H := Option.bind_eq_some_iff.mp H
                          obtain ⟨t251, A180, H⟩ := H
                          replace H : (if t251 = true then (if x5_2 = true then (neonwrightref04_snake.l1 k2 l0 false false x7_1 (wrap64 (x8_2 + 1))) else (neonwrightref04_snake.l1 k2 l0 false false x7_1 (wrap64 (x8_2 + 1)))) else (neonwrightref04_snake.l1 k2 l0 x5_2 x6_2 x7_1 (wrap64 (x8_2 + 1)))) = some (r1, r2) := H
                          have A18 := Aside0.mk A180
                          clear A180
                          by_cases c19 : t251 = true
                          · subst c19
                            have H1 : (if x5_2 = true then (neonwrightref04_snake.l1 k2 l0 false false x7_1 (wrap64 (x8_2 + 1))) else (neonwrightref04_snake.l1 k2 l0 false false x7_1 (wrap64 (x8_2 + 1)))) = some (r1, r2) := by rw [if_pos rfl] at H; exact H
                            clear H
                            have H := H1
                            clear H1
                            by_cases c20 : x5_2 = true
                            · subst c20
                              have H1 : (neonwrightref04_snake.l1 k2 l0 false false x7_1 (wrap64 (x8_2 + 1))) = some (r1, r2) := by rw [if_pos rfl] at H; exact H
                              clear H
                              have H := H1
                              clear H1
                              have H' := Aside0.mk H
                              clear H
                              have p249 : 0 ≤ (x7_1 : Int) := of_decide_eq_true (by first | (with_reducible assumption) | assumption)
                              have q249 : x7_1 < (l0.length : Int) := of_decide_eq_true (by first | (with_reducible assumption) | assumption)
                              obtain ⟨ad249, e249, hx249_0⟩ := Kd.at_int HR0.out x7_1 p249 q249
                              cases e249
                              replace p249 := eq_true p249
                              replace q249 := eq_true q249
                              have p250 : 0 ≤ (x8_2 : Int) := of_decide_eq_true (by first | (with_reducible assumption) | assumption)
                              have q250 : x8_2 < (l0.length : Int) := of_decide_eq_true (by first | (with_reducible assumption) | assumption)
                              obtain ⟨ad250, e250, hx250_0⟩ := Kd.at_int HR0.out x8_2 p250 q250
                              obtain rfl : ad249 = ad250 := (by injection e250)
                              replace p250 := eq_true p250
                              replace q250 := eq_true q250
                              go_wp2_with (first | (go_at_call 54; (with_reducible refine (neonwrightref04_near.calls (rd l0 x7_1) (rd l0 x8_2) true _ A18.out).mono ?_); rintro e w' ⟨rfl, ⟨nd, rfl⟩⟩; (try first | exact ⟨rfl, _, World.drewN_drewN _ _ _⟩ | exact ⟨rfl, _, Eq.trans (World.drewN_drewN _ _ _) (congrArg (World.drewN _) (Nat.add_assoc _ _ _))⟩)))
                              repeat (go_quiet (first | (go_at_call 54; (with_reducible refine (neonwrightref04_near.calls (rd l0 x7_1) (rd l0 x8_2) true _ A18.out).mono ?_); rintro e w' ⟨rfl, ⟨nd, rfl⟩⟩; (try first | exact ⟨rfl, _, World.drewN_drewN _ _ _⟩ | exact ⟨rfl, _, Eq.trans (World.drewN_drewN _ _ _) (congrArg (World.drewN _) (Nat.add_assoc _ _ _))⟩))); try go_wp2_with (first | (go_at_call 54; (with_reducible refine (neonwrightref04_near.calls (rd l0 x7_1) (rd l0 x8_2) true _ A18.out).mono ?_); rintro e w' ⟨rfl, ⟨nd, rfl⟩⟩; (try first | exact ⟨rfl, _, World.drewN_drewN _ _ _⟩ | exact ⟨rfl, _, Eq.trans (World.drewN_drewN _ _ _) (congrArg (World.drewN _) (Nat.add_assoc _ _ _))⟩))))
                              go_roundg k2
                              case measure => have := HK1.out; have := HK2.out; omega
                              case rel => exact ⟨(false), (false), (wrap64 (x8_2 + 1)), (by first | rfl | (simp; done) | (simp [*]; done)), (by first | rfl | (simp; done) | (simp [*]; done)), (by first | rfl | (simp; done) | (simp [*]; done)), H', ⟨by have := HK1.out; have := HK2.out; omega⟩, by repeat (first | exact Drawn0.refl _ | apply Drawn0.step)⟩
                            · replace c20 := Bool.eq_false_iff.mpr c20
                              subst c20
                              have H1 : (neonwrightref04_snake.l1 k2 l0 false false x7_1 (wrap64 (x8_2 + 1))) = some (r1, r2) := by rw [if_neg (show ¬ (false = true) by decide)] at H; exact H
                              clear H
                              have H := H1
                              clear H1
                              have H' := Aside0.mk H
                              clear H
                              have p249 : 0 ≤ (x7_1 : Int) := of_decide_eq_true (by first | (with_reducible assumption) | assumption)
                              have q249 : x7_1 < (l0.length : Int) := of_decide_eq_true (by first | (with_reducible assumption) | assumption)
                              obtain ⟨ad249, e249, hx249_0⟩ := Kd.at_int HR0.out x7_1 p249 q249
                              cases e249
                              replace p249 := eq_true p249
                              replace q249 := eq_true q249
                              have p250 : 0 ≤ (x8_2 : Int) := of_decide_eq_true (by first | (with_reducible assumption) | assumption)
                              have q250 : x8_2 < (l0.length : Int) := of_decide_eq_true (by first | (with_reducible assumption) | assumption)
                              obtain ⟨ad250, e250, hx250_0⟩ := Kd.at_int HR0.out x8_2 p250 q250
                              obtain rfl : ad249 = ad250 := (by injection e250)
                              replace p250 := eq_true p250
                              replace q250 := eq_true q250
                              go_wp2_with (first | (go_at_call 54; (with_reducible refine (neonwrightref04_near.calls (rd l0 x7_1) (rd l0 x8_2) true _ A18.out).mono ?_); rintro e w' ⟨rfl, ⟨nd, rfl⟩⟩; (try first | exact ⟨rfl, _, World.drewN_drewN _ _ _⟩ | exact ⟨rfl, _, Eq.trans (World.drewN_drewN _ _ _) (congrArg (World.drewN _) (Nat.add_assoc _ _ _))⟩)))
                              repeat (go_quiet (first | (go_at_call 54; (with_reducible refine (neonwrightref04_near.calls (rd l0 x7_1) (rd l0 x8_2) true _ A18.out).mono ?_); rintro e w' ⟨rfl, ⟨nd, rfl⟩⟩; (try first | exact ⟨rfl, _, World.drewN_drewN _ _ _⟩ | exact ⟨rfl, _, Eq.trans (World.drewN_drewN _ _ _) (congrArg (World.drewN _) (Nat.add_assoc _ _ _))⟩))); try go_wp2_with (first | (go_at_call 54; (with_reducible refine (neonwrightref04_near.calls (rd l0 x7_1) (rd l0 x8_2) true _ A18.out).mono ?_); rintro e w' ⟨rfl, ⟨nd, rfl⟩⟩; (try first | exact ⟨rfl, _, World.drewN_drewN _ _ _⟩ | exact ⟨rfl, _, Eq.trans (World.drewN_drewN _ _ _) (congrArg (World.drewN _) (Nat.add_assoc _ _ _))⟩))))
                              go_roundg k2
                              case measure => have := HK1.out; have := HK2.out; omega
                              case rel => exact ⟨(false), (false), (wrap64 (x8_2 + 1)), (by first | rfl | (simp; done) | (simp [*]; done)), (by first | rfl | (simp; done) | (simp [*]; done)), (by first | rfl | (simp; done) | (simp [*]; done)), H', ⟨by have := HK1.out; have := HK2.out; omega⟩, by repeat (first | exact Drawn0.refl _ | apply Drawn0.step)⟩
                          · replace c19 := Bool.eq_false_iff.mpr c19
                            subst c19
                            have H1 : (neonwrightref04_snake.l1 k2 l0 x5_2 x6_2 x7_1 (wrap64 (x8_2 + 1))) = some (r1, r2) := by rw [if_neg (show ¬ (false = true) by decide)] at H; exact H
                            clear H
                            have H := H1
                            clear H1
                            have H' := Aside0.mk H
                            clear H
                            have p249 : 0 ≤ (x7_1 : Int) := of_decide_eq_true (by first | (with_reducible assumption) | assumption)
                            have q249 : x7_1 < (l0.length : Int) := of_decide_eq_true (by first | (with_reducible assumption) | assumption)
                            obtain ⟨ad249, e249, hx249_0⟩ := Kd.at_int HR0.out x7_1 p249 q249
                            cases e249
                            replace p249 := eq_true p249
                            replace q249 := eq_true q249
                            have p250 : 0 ≤ (x8_2 : Int) := of_decide_eq_true (by first | (with_reducible assumption) | assumption)
                            have q250 : x8_2 < (l0.length : Int) := of_decide_eq_true (by first | (with_reducible assumption) | assumption)
                            obtain ⟨ad250, e250, hx250_0⟩ := Kd.at_int HR0.out x8_2 p250 q250
                            obtain rfl : ad249 = ad250 := (by injection e250)
                            replace p250 := eq_true p250
                            replace q250 := eq_true q250
                            go_wp2_with (first | (go_at_call 54; (with_reducible refine (neonwrightref04_near.calls (rd l0 x7_1) (rd l0 x8_2) false _ A18.out).mono ?_); rintro e w' ⟨rfl, ⟨nd, rfl⟩⟩; (try first | exact ⟨rfl, _, World.drewN_drewN _ _ _⟩ | exact ⟨rfl, _, Eq.trans (World.drewN_drewN _ _ _) (congrArg (World.drewN _) (Nat.add_assoc _ _ _))⟩)))
                            repeat (go_quiet (first | (go_at_call 54; (with_reducible refine (neonwrightref04_near.calls (rd l0 x7_1) (rd l0 x8_2) false _ A18.out).mono ?_); rintro e w' ⟨rfl, ⟨nd, rfl⟩⟩; (try first | exact ⟨rfl, _, World.drewN_drewN _ _ _⟩ | exact ⟨rfl, _, Eq.trans (World.drewN_drewN _ _ _) (congrArg (World.drewN _) (Nat.add_assoc _ _ _))⟩))); try go_wp2_with (first | (go_at_call 54; (with_reducible refine (neonwrightref04_near.calls (rd l0 x7_1) (rd l0 x8_2) false _ A18.out).mono ?_); rintro e w' ⟨rfl, ⟨nd, rfl⟩⟩; (try first | exact ⟨rfl, _, World.drewN_drewN _ _ _⟩ | exact ⟨rfl, _, Eq.trans (World.drewN_drewN _ _ _) (congrArg (World.drewN _) (Nat.add_assoc _ _ _))⟩))))
                            go_roundg k2
                            case measure => have := HK1.out; have := HK2.out; omega
                            case rel => exact ⟨(x5_2), (x6_2), (wrap64 (x8_2 + 1)), (by first | rfl | (simp; done) | (simp [*]; done)), (by first | rfl | (simp; done) | (simp [*]; done)), (by first | rfl | (simp; done) | (simp [*]; done)), H', ⟨by have := HK1.out; have := HK2.out; omega⟩, by repeat (first | exact Drawn0.refl _ | apply Drawn0.step)⟩
                        · rw [if_neg c17] at H
                          exact absurd H (by simp)
                      · rw [if_neg c16] at H
                        exact absurd H (by simp)
                    · rw [if_neg c15] at H
                      exact absurd H (by simp)
                  · rw [if_neg c14] at H
                    exact absurd H (by simp)
              · rw [if_neg c5] at H
                have c5b0 : decide (x8_2 < (wrap64 (x7_1 - 1))) = false := decide_eq_false c5
                clear c5
                have H' := Aside0.mk H
                clear H
                go_wp2
                repeat (go_quiet (fail); try go_wp2)
                go_roundg k2
                case measure => have := HK1.out; have := HK2.out; omega
                case rel => exact ⟨(x5_2), (x6_2), (wrap64 (x7_1 + 1)), (by first | rfl | (simp; done) | (simp [*]; done)), (by first | rfl | (simp; done) | (simp [*]; done)), (by first | rfl | (simp; done) | (simp [*]; done)), H', ⟨by have := HK1.out; have := HK2.out; omega⟩, by repeat (first | exact Drawn0.refl _ | apply Drawn0.step)⟩
        · rw [if_neg c4] at H
          have c4b0 : decide (x7_1 < (l0.length : Int)) = false := decide_eq_false c4
          clear c4
          simp only [Option.some.injEq, Prod.mk.injEq] at H
          obtain ⟨rfl, rfl⟩ := H
          go_wp2
          repeat (go_quiet (fail); try go_wp2)
          go_ret2
          exact ⟨by first | rfl | (simp; done) | (simp [*]; done), by repeat (first | exact Drawn0.refl _ | apply Drawn0.step)⟩
  · replace c3 := Bool.eq_false_iff.mpr c3
    subst c3
    have H1 : (some (false, false)) = some (r1, r2) := by rw [if_neg (show ¬ (false = true) by decide)] at H; exact H
    clear H
    have H := H1
    clear H1
    simp only [Option.some.injEq, Prod.mk.injEq] at H
    obtain ⟨rfl, rfl⟩ := H
    go_enter Try.func52, Try.ntmps52
    go_wp2_with (first | (go_at_call 58; (with_reducible refine (neonwrightref04_path.calls k _ _ l0 false t245 _ ?side1 ?side2 A2.out).mono ?_); (case side1 => repeat (first | exact HR0.out | (with_reducible refine Kd.C_alloc ?_ _) | (with_reducible refine Kd.C_drewN ?_ _) | (with_reducible refine Kd.C_drew ?_))); (case side2 => exact HC0.out); rintro e w' ⟨rfl, ⟨nd, rfl⟩⟩; (try first | exact ⟨rfl, _, World.drewN_drewN _ _ _⟩ | exact ⟨rfl, _, Eq.trans (World.drewN_drewN _ _ _) (congrArg (World.drewN _) (Nat.add_assoc _ _ _))⟩)))
    repeat (go_quiet (first | (go_at_call 58; (with_reducible refine (neonwrightref04_path.calls k _ _ l0 false t245 _ ?side1 ?side2 A2.out).mono ?_); (case side1 => repeat (first | exact HR0.out | (with_reducible refine Kd.C_alloc ?_ _) | (with_reducible refine Kd.C_drewN ?_ _) | (with_reducible refine Kd.C_drew ?_))); (case side2 => exact HC0.out); rintro e w' ⟨rfl, ⟨nd, rfl⟩⟩; (try first | exact ⟨rfl, _, World.drewN_drewN _ _ _⟩ | exact ⟨rfl, _, Eq.trans (World.drewN_drewN _ _ _) (congrArg (World.drewN _) (Nat.add_assoc _ _ _))⟩))); try go_wp2_with (first | (go_at_call 58; (with_reducible refine (neonwrightref04_path.calls k _ _ l0 false t245 _ ?side1 ?side2 A2.out).mono ?_); (case side1 => repeat (first | exact HR0.out | (with_reducible refine Kd.C_alloc ?_ _) | (with_reducible refine Kd.C_drewN ?_ _) | (with_reducible refine Kd.C_drew ?_))); (case side2 => exact HC0.out); rintro e w' ⟨rfl, ⟨nd, rfl⟩⟩; (try first | exact ⟨rfl, _, World.drewN_drewN _ _ _⟩ | exact ⟨rfl, _, Eq.trans (World.drewN_drewN _ _ _) (congrArg (World.drewN _) (Nat.add_assoc _ _ _))⟩))))
    go_ret2
    exact ⟨by first | rfl | (simp; done) | (simp [*]; done), by repeat (first | exact Drawn0.refl _ | apply Drawn0.step)⟩

end Go.Proofs.Ytnakkdaeehglnaa.P

namespace Go.Proofs.Ytnakkdaeehglnaa.P
open Go.RowKit Go.Proofs.YtnakkdaeehglnaaW.PrintWords Go.Proofs.YtnakkdaeehglnaaW.PrintLast Go.Proofs.YtnakkdaeehglnaaW.PrintMore
attribute [local go_sem] max2_int min2_int max_two min_two max_three min_three max_four min_four   -- for this text's walks alone
set_option linter.unusedVariables false
set_option linter.unusedSimpArgs false

/-! ### neonwrightref04_Snake: function 28 -/
def neonwrightref04_Snake.f (k : Nat) (a0 : Int) (l1 : List Int) : Option (Bool × Bool × Int) := (neonwrightref04_States.f k a0 l1).bind fun t252 => (if t252 = 0 then ((neonwrightref04_snake.f k l1).bind fun bt253 => (some (bt253.1, bt253.2, 0))) else (some (false, false, t252)))
theorem neonwrightref04_Snake.mono : ∀ a0 a1 k, LeO (neonwrightref04_Snake.f k a0 a1) (neonwrightref04_Snake.f (k + 1) a0 a1) := by
  intro a0 a1 k
  unfold neonwrightref04_Snake.f
  repeat' first
      | (with_reducible exact neonwrightref04_States.mono _ _ _)
      | (with_reducible exact neonwrightref04_snake.mono _ _)
      | (with_reducible exact LeO.refl _)
      | (with_reducible exact LeO.none _)
      | (with_reducible refine LeO.ite ?_ ?_)
      | (with_reducible refine LeO.bind ?_ (fun _ => ?_))
      | exact neonwrightref04_States.mono _ _ _
      | exact neonwrightref04_snake.mono _ _
      | exact LeO.none _
      | refine LeO.ite ?_ ?_
      | refine LeO.bind ?_ (fun _ => ?_)
set_option maxHeartbeats 8000000 in
set_option maxRecDepth 100000 in
theorem neonwrightref04_Snake.calls (k : Nat) (a0 : Int) (A1 : Option Addr) (c1 : Nat) (l1 : List Int) (r1 : Bool) (r2 : Bool) (r3 : Int) (w : World) (hr1 : Kd.C (Kd.int .i64) w A1 l1.length l1) (hc1 : l1.length ≤ c1) (h : neonwrightref04_Snake.f k a0 l1 = some (r1, r2, r3)) :
    Calls Try.prog 28 #[.int .i64 a0, .slice A1 l1.length c1] w fun e w' => e = .returned (.tuple #[.bool r1, .bool r2, .int .i64 r3]) ∧ Drawn0 w w' := by
  have HR1 := Aside0.mk hr1
  have HC1 := Aside0.mk hc1
  clear hr1 hc1
  have H : ((neonwrightref04_States.f k a0 l1).bind fun t252 => (if t252 = 0 then ((neonwrightref04_snake.f k l1).bind fun bt253 => (some (bt253.1, bt253.2, 0))) else (some (false, false, t252)))) = some (r1, r2, r3) := h
  clear h
  replace H := Option.bind_eq_some_iff.mp H
  obtain ⟨t252, A30, H⟩ := H
  replace H : (if t252 = 0 then ((neonwrightref04_snake.f k l1).bind fun bt253 => (some (bt253.1, bt253.2, 0))) else (some (false, false, t252))) = some (r1, r2, r3) := H
  have A3 := Aside0.mk A30
  clear A30
  by_cases c4 : t252 = 0
  · rw [if_pos c4] at H
    have c4b0 : (t252 == 0) = true := beq_iff_eq.mpr c4
    have c4b1 : (t252 != 0) = false := bne_eq_false_iff_eq.mpr c4
    clear c4
    replace H := Option.bind_eq_some_iff.mp H
    obtain ⟨⟨t253, t254⟩, A50, H⟩ := H
    replace H : (some (t253, t254, 0)) = some (r1, r2, r3) := H
    have A5 := Aside0.mk A50
    clear A50
    simp only [Option.some.injEq, Prod.mk.injEq] at H
    obtain ⟨rfl, rfl, rfl⟩ := H
    go_enter Try.func28, Try.ntmps28
    go_wp2_with (first | ((with_reducible refine gate_callee (f := 51) rfl ?_); refine goesL_ (some 12) rfl rfl Try.func51 (by kernel_rfl) rfl #[.int .i64 a0, .slice A1 l1.length c1] rfl (by (try simp only [List.map_toArray, List.map_cons, List.map_nil]); first | done | rfl | (simp only [List.length_drop, List.length_take]; rfl)) ?_; (with_reducible refine (neonwrightref04_States.calls k a0 _ _ l1 t252 _ ?side1 ?side2 A3.out).mono ?_); (case side1 => repeat (first | exact HR1.out | (with_reducible refine Kd.C_alloc ?_ _) | (with_reducible refine Kd.C_drewN ?_ _) | (with_reducible refine Kd.C_drew ?_))); (case side2 => exact HC1.out); rintro e w' ⟨rfl, ⟨nd, rfl⟩⟩; refine ⟨_, rfl, ?_⟩) | ((with_reducible refine gate_callee (f := 52) rfl ?_); refine goesL_ (some 18) rfl rfl Try.func52 (by kernel_rfl) rfl #[.slice A1 l1.length c1] rfl (by (try simp only [List.map_toArray, List.map_cons, List.map_nil]); first | done | rfl | (simp only [List.length_drop, List.length_take]; rfl)) ?_; (with_reducible refine (neonwrightref04_snake.calls k _ _ l1 t253 t254 _ ?side1 ?side2 A5.out).mono ?_); (case side1 => repeat (first | exact HR1.out | (with_reducible refine Kd.C_alloc ?_ _) | (with_reducible refine Kd.C_drewN ?_ _) | (with_reducible refine Kd.C_drew ?_))); (case side2 => exact HC1.out); rintro e w' ⟨rfl, ⟨nd, rfl⟩⟩; refine ⟨_, rfl, ?_⟩))
    go_ret3
    exact ⟨by first | rfl | (simp; done) | (simp [*]; done), by repeat (first | exact Drawn0.refl _ | apply Drawn0.step)⟩
  · rw [if_neg c4] at H
    have c4b0 : (t252 == 0) = false := beq_eq_false_iff_ne.mpr c4
    have c4b1 : (t252 != 0) = true := bne_iff_ne.mpr c4
    simp only [Option.some.injEq, Prod.mk.injEq] at H
    obtain ⟨rfl, rfl, rfl⟩ := H
    go_enter Try.func28, Try.ntmps28
    go_wp2_with (first | ((with_reducible refine gate_callee (f := 51) rfl ?_); refine goesL_ (some 12) rfl rfl Try.func51 (by kernel_rfl) rfl #[.int .i64 a0, .slice A1 l1.length c1] rfl (by (try simp only [List.map_toArray, List.map_cons, List.map_nil]); first | done | rfl | (simp only [List.length_drop, List.length_take]; rfl)) ?_; (with_reducible refine (neonwrightref04_States.calls k a0 _ _ l1 t252 _ ?side1 ?side2 A3.out).mono ?_); (case side1 => repeat (first | exact HR1.out | (with_reducible refine Kd.C_alloc ?_ _) | (with_reducible refine Kd.C_drewN ?_ _) | (with_reducible refine Kd.C_drew ?_))); (case side2 => exact HC1.out); rintro e w' ⟨rfl, ⟨nd, rfl⟩⟩; refine ⟨_, rfl, ?_⟩))
    go_ret3
    exact ⟨by first | rfl | (simp; done) | (simp [*]; done), by repeat (first | exact Drawn0.refl _ | apply Drawn0.step)⟩

end Go.Proofs.Ytnakkdaeehglnaa.P

set_option linter.unusedSimpArgs false
set_option linter.unusedVariables false
namespace Go.Proofs.Ytnakkdaeehglnaa.Kit

def gray (i : Nat) : Nat := i ^^^ (i / 2)
theorem xor_half (a b : Nat) : (a ^^^ b) / 2 = (a / 2) ^^^ (b / 2) := by
  have := @Nat.xor_div_two_pow a b 1
  simpa using this
theorem xor_low (a b : Nat) : (a ^^^ b) % 2 = (a % 2 + b % 2) % 2 := by
  have h := @Nat.xor_mod_two_pow a b 1
  rw [Nat.pow_one] at h
  rw [h]
  rcases Nat.mod_two_eq_zero_or_one a with ha | ha <;> rcases Nat.mod_two_eq_zero_or_one b with hb | hb <;> rw [ha, hb] <;> rfl
theorem xor_split (a b c d : Nat) (hb : b < 2) (hd : d < 2) : (2 * a + b) ^^^ (2 * c + d) = 2 * (a ^^^ c) + (b + d) % 2 := by
  have h1 := xor_half (2 * a + b) (2 * c + d)
  have h2 := xor_low (2 * a + b) (2 * c + d)
  rw [show (2 * a + b) / 2 = a from by omega, show (2 * c + d) / 2 = c from by omega] at h1
  rw [show (2 * a + b) % 2 = b from by omega, show (2 * c + d) % 2 = d from by omega] at h2
  omega
theorem gray_rec (x y : Nat) (hy : y < 2) : gray (2 * x + y) = 2 * gray x + (x + y) % 2 := by
  unfold gray
  rw [show (2 * x + y) / 2 = x from by omega]
  have h := xor_split x y (x / 2) (x % 2) hy (by omega)
  rw [show 2 * (x / 2) + x % 2 = x from by omega] at h
  rw [h]
  omega
theorem gray_zero : gray 0 = 0 := rfl
theorem gray_half (i : Nat) : gray i / 2 = gray (i / 2) := by
  have h := gray_rec (i / 2) (i % 2) (by omega)
  rw [show 2 * (i / 2) + i % 2 = i from by omega] at h
  omega
theorem gray_up : ∀ t j, j < 2 ^ t → gray (2 ^ t + j) = 2 ^ t + gray (2 ^ t - 1 - j) := by
  intro t
  induction t with
  | zero =>
    intro j hj
    have : j = 0 := by simpa using hj
    subst this
    rfl
  | succ t ih =>
    intro j hj
    rw [Nat.pow_succ] at hj ⊢
    have hp := Nat.two_pow_pos t
    have h1 := ih (j / 2) (by omega)
    have h2 := gray_rec (2 ^ t + j / 2) (j % 2) (by omega)
    have h3 := gray_rec (2 ^ t - 1 - j / 2) (1 - j % 2) (by omega)
    rw [show 2 * (2 ^ t + j / 2) + j % 2 = 2 ^ t * 2 + j from by omega] at h2
    rw [show 2 * (2 ^ t - 1 - j / 2) + (1 - j % 2) = 2 ^ t * 2 - 1 - j from by omega] at h3
    omega
theorem gray_lt : ∀ t i, i < 2 ^ t → gray i < 2 ^ t := fun t i h => Nat.xor_lt_two_pow h (Nat.lt_of_le_of_lt (Nat.div_le_self _ _) h)
/-- Exclusive or of a number and all that come of it by halving. -/
def rankN : Nat → Nat → Nat
  | 0, _ => 0
  | f + 1, x => if 0 < x then x ^^^ rankN f (x / 2) else 0
theorem rank_gray : ∀ f i, i < 2 ^ f → rankN f (gray i) = i := by
  intro f
  induction f with
  | zero => intro i h; have : i = 0 := by simpa using h
            subst this; rfl
  | succ f ih =>
    intro i h
    unfold rankN
    rw [Nat.pow_succ] at h
    by_cases h0 : 0 < gray i
    · rw [if_pos h0, gray_half, ih (i / 2) (by omega)]
      unfold gray
      rw [Nat.xor_assoc, Nat.xor_self, Nat.xor_zero]
    · rw [if_neg h0]
      have hz : gray i = 0 := by omega
      have h1 := gray_half i
      rw [hz] at h1
      have h2 := ih (i / 2) (by omega)
      rw [← h1] at h2
      have h3 : rankN f (0 / 2) = 0 := by cases f <;> rfl
      rw [h3] at h2
      have : i < 2 := by omega
      have h4 : i = 0 ∨ i = 1 := by omega
      rcases h4 with rfl | rfl
      · rfl
      · cases hz
theorem gray_inj {i j : Nat} (h : gray i = gray j) : i = j := by
  have h1 := rank_gray (i + j) i (Nat.lt_of_le_of_lt (Nat.le_add_right i j) Nat.lt_two_pow_self)
  have h2 := rank_gray (i + j) j (Nat.lt_of_le_of_lt (Nat.le_add_left j i) Nat.lt_two_pow_self)
  rw [h] at h1
  exact h1.symm.trans h2
/-- The place of a state, from the low bit on. -/
def placeN (s : Nat) : Nat → Nat
  | 0 => 0
  | t + 1 => if s / 2 ^ t % 2 = 1 then 2 ^ (t + 1) - 1 - placeN s t else placeN s t
theorem place_gray (s : Nat) : ∀ t, placeN s t < 2 ^ t ∧ gray (placeN s t) = s % 2 ^ t := by
  intro t
  induction t with
  | zero => exact ⟨by simp [placeN], by simp [placeN, gray_zero, Nat.mod_one]⟩
  | succ t ih =>
    obtain ⟨h1, h2⟩ := ih
    have hp := Nat.two_pow_pos t
    have hm : s % 2 ^ (t + 1) = s % 2 ^ t + 2 ^ t * (s / 2 ^ t % 2) := Nat.mod_mul
    unfold placeN
    by_cases hb : s / 2 ^ t % 2 = 1
    · rw [if_pos hb]
      have hu := gray_up t (2 ^ t - 1 - placeN s t) (by omega)
      rw [show 2 ^ t - 1 - (2 ^ t - 1 - placeN s t) = placeN s t from by omega] at hu
      rw [Nat.pow_succ] at hm ⊢
      rw [show 2 ^ t * 2 - 1 - placeN s t = 2 ^ t + (2 ^ t - 1 - placeN s t) from by omega]
      refine ⟨by omega, ?_⟩
      rw [hu, hm, hb, h2]
      omega
    · rw [if_neg hb]
      have hb0 : s / 2 ^ t % 2 = 0 := by omega
      refine ⟨Nat.lt_of_lt_of_le h1 (Nat.pow_le_pow_right (by decide) (by omega)), ?_⟩
      rw [hm, hb0, h2]
      omega
/-- Downwards: what is added, and where one goes on. -/
def upN : Nat → Nat → Nat → Nat
  | 0, _, out => out
  | t + 1, i, out => if 2 ^ t ≤ i then upN t (2 ^ (t + 1) - 1 - i) (out + 2 ^ t) else upN t i out
theorem up_gray : ∀ t i out, i < 2 ^ t → upN t i out = out + gray i := by
  intro t
  induction t with
  | zero => intro i out h; have : i = 0 := by simpa using h
            subst this; rfl
  | succ t ih =>
    intro i out h
    unfold upN
    have hp := Nat.two_pow_pos t
    by_cases hb : 2 ^ t ≤ i
    · rw [if_pos hb]
      have h2 := h
      rw [Nat.pow_succ] at h2
      have hu := gray_up t (i - 2 ^ t) (by omega)
      rw [show 2 ^ t + (i - 2 ^ t) = i from by omega] at hu
      rw [Nat.pow_succ, show 2 ^ t * 2 - 1 - i = 2 ^ t - 1 - (i - 2 ^ t) from by omega, ih _ _ (by omega), hu]
      omega
    · rw [if_neg hb, ih _ _ (by omega)]
/-- A number is a power of 2. -/
def oneN (x : Nat) : Bool := decide (0 < x) && (x &&& (x - 1) == 0)
theorem one_pow (t : Nat) : oneN (2 ^ t) = true := by
  unfold oneN
  rw [decide_eq_true (Nat.two_pow_pos t), Bool.true_and, Nat.and_two_pow_sub_one_eq_mod, Nat.mod_self]
  rfl
theorem gray_next : ∀ n i, 0 < i → i ≤ n → ∃ t, gray i ^^^ gray (i - 1) = 2 ^ t ∧ 2 ^ t ≤ i := by
  intro n
  induction n with
  | zero => intro i h0 h; omega
  | succ n ih =>
    intro i h0 h
    have h1 := gray_rec (i / 2) (i % 2) (by omega)
    rw [show 2 * (i / 2) + i % 2 = i from by omega] at h1
    rcases Nat.mod_two_eq_zero_or_one i with hm | hm
    · obtain ⟨t, ht, hle⟩ := ih (i / 2) (by omega) (by omega)
      have h2 := gray_rec (i / 2 - 1) 1 (by omega)
      rw [show 2 * (i / 2 - 1) + 1 = i - 1 from by omega] at h2
      refine ⟨t + 1, ?_, by rw [Nat.pow_succ]; omega⟩
      rw [h1, h2, xor_split _ _ _ _ (by omega) (by omega), ht, Nat.pow_succ]
      omega
    · have h2 := gray_rec (i / 2) 0 (by omega)
      rw [show 2 * (i / 2) + 0 = i - 1 from by omega] at h2
      refine ⟨0, ?_, by simp; omega⟩
      rw [h1, h2, xor_split _ _ _ _ (by omega) (by omega), Nat.xor_self]
      omega
theorem gray_last (n : Nat) (hn : 1 ≤ n) : gray (2 ^ n - 1) = 2 ^ (n - 1) := by
  obtain ⟨m, rfl⟩ : ∃ m, n = m + 1 := ⟨n - 1, by omega⟩
  have hp := Nat.two_pow_pos m
  have h := gray_up m (2 ^ m - 1) (by omega)
  rw [show 2 ^ m - 1 - (2 ^ m - 1) = 0 from by omega, gray_zero] at h
  rw [Nat.pow_succ, show 2 ^ m * 2 - 1 = 2 ^ m + (2 ^ m - 1) from by omega, h]
  simp
end Go.Proofs.Ytnakkdaeehglnaa.Kit

set_option linter.unusedSimpArgs false
set_option linter.unusedVariables false
namespace Go.Proofs.Ytnakkdaeehglnaa.P
open Go.Lib Go.RowKit Go.Proofs.YtnakkdaeehglnaaW.PrintWords Go.Proofs.YtnakkdaeehglnaaW.PrintMore Go.Proofs.Ytnakkdaeehglnaa.Kit

/-- Something is so at d places from j on. -/
def okFrom (p : Nat → Bool) : Nat → Nat → Bool
  | 0, _ => true
  | d + 1, j => p j && okFrom p d (j + 1)
theorem okFrom_iff (p : Nat → Bool) : ∀ d j, okFrom p d j = true ↔ ∀ x, j ≤ x → x < j + d → p x = true := by
  intro d
  induction d with
  | zero => intro j; exact ⟨fun _ x h1 h2 => by omega, fun _ => rfl⟩
  | succ d ih =>
    intro j
    unfold okFrom
    rw [Bool.and_eq_true, ih]
    constructor
    · rintro ⟨h1, h2⟩ x hx1 hx2
      rcases Nat.eq_or_lt_of_le hx1 with rfl | h
      · exact h1
      · exact h2 x (by omega) (by omega)
    · intro h
      exact ⟨h j (Nat.le_refl _) (by omega), fun x h1 h2 => h x (by omega) (by omega)⟩
def listedN (n : Int) (l : List Int) : Int :=
  if 1 ≤ n ∧ n ≤ 12 then (if (l.length : Int) > ((2 ^ n.toNat : Nat) : Int) then 3 else if l.length = 0 then 2 else if l.any (stOut n) = true then 2 else 0) else 2
theorem listed_f (n : Int) (l : List Int) : flash_listed.f n l = some (listedN n l) := by
  unfold flash_listed.f listedN
  split
  · split
    · rfl
    · split
      · rfl
      · split <;> rfl
  · rfl
/-- A list that there may be. -/
structure Fine (n : Nat) (l : List Int) : Prop where
  n1 : 1 ≤ n
  n2 : n ≤ 12
  pos : 0 < l.length
  len : l.length ≤ 2 ^ n
  all : ∀ x, x ∈ l → 0 ≤ x ∧ x < ((2 ^ n : Nat) : Int)
theorem listedN_fine {n : Int} {l : List Int} (h : listedN n l = 0) : ∃ m : Nat, n = m ∧ Fine m l := by
  unfold listedN at h
  split at h
  · rename_i hn
    obtain ⟨m, rfl⟩ : ∃ m : Nat, n = m := ⟨n.toNat, by omega⟩
    rw [Int.toNat_natCast] at h
    split at h
    · cases h
    · split at h
      · cases h
      · split at h
        · cases h
        · rename_i h1 h2 h3
          refine ⟨m, rfl, by omega, by omega, by omega, by omega, fun x hx => ?_⟩
          have h4 : stOut (m : Int) x = false := by
            rw [Bool.eq_false_iff]
            intro h5
            exact h3 (List.any_eq_true.2 ⟨x, hx, h5⟩)
          unfold stOut at h4
          rw [Bool.or_eq_false_iff, Int.toNat_natCast] at h4
          have := of_decide_eq_false h4.1
          have := of_decide_eq_false h4.2
          omega
  · cases h
theorem fine_listed {n : Nat} {l : List Int} (h : Fine n l) : listedN n l = 0 := by
  unfold listedN
  have := h.n1; have := h.n2; have := h.len; have := h.pos
  rw [if_pos (by omega), Int.toNat_natCast, if_neg (by omega), if_neg (by omega), if_neg]
  rw [List.any_eq_true]
  rintro ⟨x, hx, h5⟩
  have := h.all x hx
  unfold stOut at h5
  rw [Bool.or_eq_true, Int.toNat_natCast] at h5
  rcases h5 with h5 | h5
  · have := of_decide_eq_true h5; omega
  · have := of_decide_eq_true h5; omega
theorem pow12' {n : Nat} (h : n ≤ 12) : 2 ^ n ≤ 4096 := by
  have : 2 ^ n ≤ 2 ^ 12 := Nat.pow_le_pow_right (by decide) h
  simpa using this
theorem Fine.small {n : Nat} {l : List Int} (h : Fine n l) : l.all small = true := by
  rw [List.all_eq_true]
  intro x hx
  have := h.all x hx
  have := pow12' h.n2
  exact decide_eq_true (by omega)
theorem Fine.rd {n : Nat} {l : List Int} (h : Fine n l) (i : Nat) (hi : i < l.length) : 0 ≤ rd l (i : Int) ∧ rd l (i : Int) < 4096 := by
  rw [rd_get l i hi]
  have := h.all _ (List.getElem_mem hi)
  have := pow12' h.n2
  omega
theorem ones_one_all : ((List.range 64).all fun a => (List.range 64).all fun b => (onesCount (64 * a + b) == 1) == oneN (64 * a + b)) = true := by decide +kernel
theorem ones_one {x : Nat} (h : x < 4096) : (onesCount x == 1) = oneN x := by
  have h1 := ones_one_all
  rw [List.all_eq_true] at h1
  have h2 := h1 (x / 64) (List.mem_range.2 (by omega))
  rw [List.all_eq_true] at h2
  have h3 := h2 (x % 64) (List.mem_range.2 (by omega))
  rw [show 64 * (x / 64) + x % 64 = x from by omega] at h3
  exact beq_iff_eq.1 h3
theorem nx_comm (a b : Int) : nx a b = nx b a := by unfold nx; rw [Nat.xor_comm]
theorem nx_one {a b : Int} (ha : 0 ≤ a ∧ a < 4096) (hb : 0 ≤ b ∧ b < 4096) : nx a b = oneN (a.toNat ^^^ b.toNat) := by
  unfold nx
  exact ones_one (Nat.xor_lt_two_pow (n := 12) (by omega) (by omega))
theorem sm {a : Int} (ha : 0 ≤ a ∧ a < 4096) : small a = true := decide_eq_true (by omega)
theorem next_nx {a b : Int} (ha : 0 ≤ a ∧ a < 4096) (hb : 0 ≤ b ∧ b < 4096) : flash_next.f a b = some (nx a b) := next_small (sm ha) (sm hb)
theorem rone_f {x : Nat} (h : x < 4096) : neonwrightref04_one.f (x : Int) = some (oneN x) := by
  unfold neonwrightref04_one.f oneN
  by_cases h0 : 0 < x
  · rw [if_pos (by omega), w64 (x := (x : Int) - 1) (by omega) (by omega), show (x : Int) - 1 = ((x - 1 : Nat) : Int) from by omega, and64 x (x - 1) (by omega) (by omega), decide_eq_true h0, Bool.true_and]
    congr 1
    rw [Bool.eq_iff_iff, beq_iff_eq, beq_iff_eq]
    omega
  · rw [if_neg (by omega), decide_eq_false h0]
    rfl
theorem near_nx {a b : Int} (ha : 0 ≤ a ∧ a < 4096) (hb : 0 ≤ b ∧ b < 4096) : neonwrightref04_near.f a b = some (nx a b) := by
  unfold neonwrightref04_near.f
  rw [nx_one ha hb]
  obtain ⟨m, rfl⟩ : ∃ m : Nat, a = m := ⟨a.toNat, by omega⟩
  obtain ⟨k, rfl⟩ : ∃ k : Nat, b = k := ⟨b.toNat, by omega⟩
  have hx : m ^^^ k < 4096 := Nat.xor_lt_two_pow (n := 12) (by omega) (by omega)
  rw [xor64 m k (by omega) (by omega), rone_f hx, Option.bind_some, Int.toNat_natCast, Int.toNat_natCast]
/-- The ends are neighbours. -/
def closedB (l : List Int) : Bool := decide (4 ≤ l.length) && nx (rd l 0) (rd l ((l.length - 1 : Nat) : Int))
theorem last_w {l : List Int} (h : 0 < l.length) (h2 : l.length ≤ 5000) : wrap64 ((l.length : Int) - 1) = ((l.length - 1 : Nat) : Int) := by
  rw [w64 (by omega) (by omega)]; omega
theorem Fine.le {n : Nat} {l : List Int} (h : Fine n l) : l.length ≤ 4096 := Nat.le_trans h.len (pow12' h.n2)
theorem closed_f {n : Nat} {l : List Int} (h : Fine n l) : flash_closed.f l = some (closedB l) := by
  have hp := h.pos
  have hl := h.le
  unfold flash_closed.f closedB
  by_cases h4 : 4 ≤ l.length
  · rw [if_pos (by omega), if_pos (by omega), last_w hp (by omega), if_pos (by omega), if_pos (by omega), decide_eq_true h4, Bool.true_and]
    have h0 := next_nx (h.rd 0 hp) (h.rd (l.length - 1) (by omega))
    rw [show ((0 : Nat) : Int) = 0 from rfl] at h0
    rw [h0, Option.bind_some]
  · rw [if_neg (by omega), decide_eq_false h4]
    rfl
def pairOk (l : List Int) (r : Bool) (i j : Nat) : Bool := !nx (rd l (i : Int)) (rd l (j : Int)) || (r && decide (i = 0) && decide (j = l.length - 1))
def snakeB (l : List Int) (r : Bool) : Bool := okFrom (fun i => okFrom (pairOk l r i) (l.length - (i + 2)) (i + 2)) l.length 0
theorem snake_l1 {n : Nat} {l : List Int} (h : Fine n l) (r : Bool) (i : Nat) (hi : i < l.length) (R : Bool) (hR : Ev (fun k => flash_snake.l0 k l r l (l.length : Int) ((i + 1 : Nat) : Int)) R) :
    ∀ d j, l.length - j = d → i + 2 ≤ j → j ≤ l.length + 2 → Ev (fun k => flash_snake.l1 k l r (i : Int) (rd l (i : Int)) (j : Int) l (l.length : Int) (i : Int)) (okFrom (pairOk l r i) (l.length - j) j && R) := by
  have hl := h.le
  have hw : wrap64 ((i : Int) + 1) = ((i + 1 : Nat) : Int) := by rw [w64 (by omega) (by omega)]; rfl
  intro d
  induction d with
  | zero =>
    intro j hd h2 hj
    rw [hd]
    refine Ev.step (f := fun k => flash_snake.l0 k l r l (l.length : Int) ((i + 1 : Nat) : Int)) (fun k => ?_) hR
    simp only [flash_snake.l1]
    rw [if_neg (by omega), hw]
  | succ d ih =>
    intro j hd h2 hj
    have hjl : j < l.length := by omega
    have h1 := ih (j + 1) (by omega) (by omega) (by omega)
    have hj1 : wrap64 ((j : Int) + 1) = ((j + 1 : Nat) : Int) := by rw [w64 (by omega) (by omega)]; rfl
    have hn := next_nx (h.rd i hi) (h.rd j hjl)
    rw [show l.length - j = (l.length - (j + 1)) + 1 from by omega]
    unfold okFrom
    refine Ev.step (f := fun k => if pairOk l r i j = true then flash_snake.l1 k l r (i : Int) (rd l (i : Int)) ((j + 1 : Nat) : Int) l (l.length : Int) (i : Int) else some false) (fun k => ?_) ?_
    · simp only [flash_snake.l1]
      rw [if_pos (by omega), if_pos (by omega), hn, Option.bind_some, hj1, last_w h.pos (by omega)]
      unfold pairOk
      cases nx (rd l (i : Int)) (rd l (j : Int)) with
      | false => rw [if_neg (by decide), if_pos (by rfl)]
      | true =>
        rw [if_pos rfl]
        cases r with
        | false => rw [if_neg (by decide), if_neg (by simp)]
        | true =>
          rw [if_pos rfl]
          by_cases h0 : i = 0
          · rw [if_pos (by omega)]
            by_cases h3 : j = l.length - 1
            · rw [if_pos (by omega), if_pos (by simp [h0, h3])]
            · rw [if_neg (by omega), if_neg (by simp [h0, h3])]
          · rw [if_neg (by omega), if_neg (by simp [h0])]
    · cases hb : pairOk l r i j with
      | true => exact Ev.pos rfl (by simpa using h1)
      | false => exact Ev.neg (by decide) (Ev.now _)
theorem snake_l0 {n : Nat} {l : List Int} (h : Fine n l) (r : Bool) : ∀ d i, l.length - i = d → i ≤ l.length →
    Ev (fun k => flash_snake.l0 k l r l (l.length : Int) (i : Int)) (okFrom (fun i => okFrom (pairOk l r i) (l.length - (i + 2)) (i + 2)) d i) := by
  have hl := h.le
  intro d
  induction d with
  | zero =>
    intro i hd hi
    refine Ev.step (f := fun _ => some true) (fun k => ?_) (Ev.now _)
    simp only [flash_snake.l0]
    rw [if_neg (by omega)]
  | succ d ih =>
    intro i hd hi
    have hil : i < l.length := by omega
    have h1 := snake_l1 h r i hil _ (ih (i + 1) (by omega) (by omega)) (l.length - (i + 2)) (i + 2) rfl (Nat.le_refl _) (by omega)
    unfold okFrom
    refine Ev.step (f := fun k => flash_snake.l1 k l r (i : Int) (rd l (i : Int)) ((i + 2 : Nat) : Int) l (l.length : Int) (i : Int)) (fun k => ?_) h1
    simp only [flash_snake.l0]
    rw [if_pos (by omega), if_pos (by omega), if_pos (by omega), w64 (x := (i : Int) + 2) (by omega) (by omega)]
    rfl
theorem snake_ev {n : Nat} {l : List Int} (h : Fine n l) (r : Bool) : Ev (fun k => flash_snake.f k l r) (snakeB l r) := by
  have := snake_l0 h r l.length 0 (by omega) (by omega)
  exact this
/-- What Path and Snake say. -/
def pathR (n : Int) (l : List Int) : Bool × Bool × Int := if listedN n l = 0 then (pathB l, pathB l && closedB l, 0) else (false, false, listedN n l)
def snakeR (n : Int) (l : List Int) : Bool × Bool × Int := if listedN n l = 0 then (pathB l && snakeB l false, pathB l && closedB l && snakeB l true, 0) else (false, false, listedN n l)
theorem path_f (n : Int) (l : List Int) : flash_Path.f n l = some (pathR n l) := by
  unfold flash_Path.f pathR
  rw [listed_f, Option.bind_some]
  by_cases h : listedN n l = 0
  · obtain ⟨m, rfl, hf⟩ := listedN_fine h
    rw [if_pos h, if_pos h]
    unfold flash_path.f
    rw [if_pos hf.small, Option.bind_some, closed_f hf]
    cases pathB l <;> simp
  · rw [if_neg h, if_neg h]
theorem snakeR_ev (n : Int) (l : List Int) : Ev (fun k => flash_Snake.f k n l) (snakeR n l) := by
  unfold snakeR
  by_cases h : listedN n l = 0
  · obtain ⟨m, rfl, hf⟩ := listedN_fine h
    rw [if_pos h]
    refine Ev.congr (f := fun k => if pathB l = true then ((flash_snake.f k l false).bind fun t172 => (if closedB l = true then ((flash_snake.f k l true).bind fun t174 => (some (t172, t174, 0))) else (some (t172, false, 0)))) else (some (false, false, 0))) (fun k => ?_) ?_
    · show flash_Snake.f k _ _ = _
      unfold flash_Snake.f
      rw [listed_f, Option.bind_some, if_pos h]
      unfold flash_path.f
      rw [if_pos hf.small, Option.bind_some, closed_f hf]
      rfl
    · cases pathB l with
      | false => exact Ev.neg (by decide) (Ev.now _)
      | true =>
        refine Ev.pos rfl (Ev.bnd (snake_ev hf false) ?_)
        cases closedB l with
        | false => exact Ev.neg (by decide) (by simpa using Ev.now _)
        | true => exact Ev.pos rfl (Ev.bnd (snake_ev hf true) (by simpa using Ev.now _))
  · rw [if_neg h]
    refine Ev.at 0 (fun k _ => ?_)
    unfold flash_Snake.f
    rw [listed_f, Option.bind_some, if_neg h]
end Go.Proofs.Ytnakkdaeehglnaa.P

set_option linter.unusedSimpArgs false
set_option linter.unusedVariables false
namespace Go.Proofs.Ytnakkdaeehglnaa.P
open Go.Lib Go.RowKit Go.Proofs.YtnakkdaeehglnaaW.PrintWords Go.Proofs.YtnakkdaeehglnaaW.PrintMore Go.Proofs.Ytnakkdaeehglnaa.Kit

theorem litB_bit (x t : Int) : litB x t = x.toNat.testBit t.toNat := by
  unfold litB
  cases h : x.toNat.testBit t.toNat with
  | false =>
    have : x.toNat &&& 2 ^ t.toNat = 0 := Nat.eq_of_testBit_eq (fun j => by
      rw [Nat.testBit_and, Nat.testBit_two_pow, Nat.zero_testBit]
      by_cases e : t.toNat = j
      · subst e; rw [h]; rfl
      · simp [e])
    rw [this]; rfl
  | true =>
    have h2 : (x.toNat &&& 2 ^ t.toNat).testBit t.toNat = true := by rw [Nat.testBit_and, h, Nat.testBit_two_pow]; simp
    rw [bne_iff_ne]
    intro e
    rw [e] at h2
    simp at h2
/-- The number with these bits. -/
def valOf : List Bool → Nat
  | [] => 0
  | b :: bs => b.toNat + 2 * valOf bs
theorem val_bit : ∀ (bs : List Bool) (j : Nat), (valOf bs).testBit j = bs.getD j false := by
  intro bs
  induction bs with
  | nil => intro j; simp [valOf]
  | cons b bs ih =>
    intro j
    unfold valOf
    cases j with
    | zero => cases b <;> simp [Nat.testBit_zero]
    | succ j =>
      rw [Nat.testBit_succ, show (b.toNat + 2 * valOf bs) / 2 = valOf bs from by cases b <;> simp <;> omega, ih]
      rfl
theorem ups_mem {n : Nat} {t : Int} : t ∈ ups n ↔ 0 ≤ t ∧ t < n := by
  unfold ups
  rw [List.mem_map]
  constructor
  · rintro ⟨m, hm, rfl⟩
    have := List.mem_range.1 hm
    omega
  · rintro ⟨h0, h1⟩
    exact ⟨t.toNat, List.mem_range.2 (by omega), by omega⟩
theorem ups_nodup (n : Nat) : (ups n).Nodup := by
  unfold ups List.Nodup
  rw [List.pairwise_map]
  exact List.pairwise_lt_range.imp (fun h => by omega)
theorem rd_set (l : List Int) (u : Nat) (v : Int) (t : Int) (hu : u < l.length) (ht : 0 ≤ t) : rd (l.set u v) t = if t.toNat = u then v else rd l t := by
  unfold rd
  rw [List.getD_eq_getElem?_getD, List.getD_eq_getElem?_getD, List.getElem?_set]
  by_cases h : u = t.toNat
  · subst h; simp [hu]
  · rw [if_neg h, if_neg (fun e => h e.symm)]
theorem toAt_inv {n : Nat} {order : List Int} (h : order.Perm (ups n)) : ∀ i, i ≤ n → ∀ k, (hk : k < i) → rd (toAt n order i) (rd order (k : Int)) = k := by
  have hl : order.length = n := h.length_eq.trans (ups_len n)
  have hnd : order.Nodup := h.nodup_iff.2 (ups_nodup n)
  have hr : ∀ k, k < n → 0 ≤ rd order (k : Int) ∧ rd order (k : Int) < n := fun k hk => by
    rw [rd_get order k (by omega)]
    exact ups_mem.1 (h.mem_iff.1 (List.getElem_mem _))
  intro i
  induction i with
  | zero => intro _ k hk; omega
  | succ i ih =>
    intro hi k hk
    have r1 := hr i (by omega)
    have r2 := hr k (by omega)
    rw [toAt_succ, rd_set _ _ _ _ (by rw [toAt_len]; omega) r2.1]
    by_cases e : k = i
    · subst e; rw [if_pos rfl]
    · rw [if_neg, ih (by omega) k (by omega)]
      intro e2
      have e3 : rd order (k : Int) = rd order (i : Int) := by omega
      rw [rd_get order k (by omega), rd_get order i (by omega)] at e3
      exact e ((List.getElem_inj hnd).1 e3)
theorem outX_bit (tb : List Int) (x : Nat) (j : Nat) : ∀ t, (outX tb x t).testBit j = true ↔ ∃ t', t' < t ∧ (rd tb (t' : Int)).toNat = j ∧ x.testBit t' = true := by
  intro t
  induction t with
  | zero => unfold outX; simp
  | succ t ih =>
    rw [outX_succ, Nat.testBit_or, Bool.or_eq_true, ih]
    have hs : ((x >>> t &&& 1) <<< (rd tb (t : Int)).toNat).testBit j = true ↔ (rd tb (t : Int)).toNat = j ∧ x.testBit t = true := by
      have hb : x >>> t &&& 1 = (x.testBit t).toNat := by
        rw [Nat.and_one_is_mod, Nat.testBit_eq_decide_div_mod_eq, Nat.shiftRight_eq_div_pow]
        have := Nat.mod_two_eq_zero_or_one (x / 2 ^ t)
        rcases this with h | h <;> rw [h] <;> rfl
      rw [hb, Nat.testBit_shiftLeft]
      cases hx : x.testBit t with
      | false => simp
      | true =>
        simp only [Bool.toNat_true, Bool.and_eq_true, decide_eq_true_eq, and_true]
        constructor
        · rintro ⟨h1, h2⟩
          rw [Nat.testBit_one_eq_true_iff_self_eq_zero] at h2
          omega
        · intro h; subst h; simp
    rw [hs]
    constructor
    · rintro (⟨t', h1, h2⟩ | h)
      · exact ⟨t', by omega, h2⟩
      · exact ⟨t, by omega, h⟩
    · rintro ⟨t', h1, h2⟩
      by_cases e : t' = t
      · subst e; exact Or.inr h2
      · exact Or.inl ⟨t', by omega, h2⟩
theorem outX_val {n : Nat} {order : List Int} (hn : 0 < n) (h : order.Perm (ups n)) (x : Nat) : outX (toAt n order n) x n = valOf (order.map fun t => x.testBit t.toNat) := by
  have hl : order.length = n := h.length_eq.trans (ups_len n)
  have hr : ∀ k, k < n → 0 ≤ rd order (k : Int) ∧ rd order (k : Int) < n := fun k hk => by
    rw [rd_get order k (by omega)]
    exact ups_mem.1 (h.mem_iff.1 (List.getElem_mem _))
  apply Nat.eq_of_testBit_eq
  intro j
  rw [Bool.eq_iff_iff, outX_bit, val_bit]
  constructor
  · rintro ⟨t, h1, h2, h3⟩
    obtain ⟨k, hk, e⟩ := List.getElem_of_mem (h.mem_iff.2 (ups_mem.2 ⟨(by omega : (0 : Int) ≤ (t : Int)), (by omega : (t : Int) < (n : Int))⟩))
    have := toAt_inv h n (Nat.le_refl _) k (by omega)
    rw [rd_get order k (by omega), e] at this
    rw [this] at h2
    obtain rfl : k = j := by omega
    simp [hk, e, h3]
  · intro h1
    by_cases hj : j < n
    · have := toAt_inv h n (Nat.le_refl _) j hj
      have r := hr j hj
      refine ⟨(rd order (j : Int)).toNat, by omega, ?_, ?_⟩
      · rw [show (((rd order (j : Int)).toNat : Nat) : Int) = rd order (j : Int) from by omega, this]; omega
      · rw [rd_get order j (by omega)]
        simpa [hl, hj] using h1
    · simp [hl, hj] at h1
/-- Two lists of groups, the second one's tubes being renamed. -/
def Rel (p : Int → Int) : List (List Int) → List (List Int) → Prop
  | [], [] => True
  | g :: gs, g' :: gs' => g'.Perm (g.map p) ∧ Rel p gs gs'
  | _, _ => False
theorem Rel.app {p : Int → Int} : ∀ {a a' b b' : List (List Int)}, Rel p a a' → Rel p b b' → Rel p (a ++ b) (a' ++ b') := by
  intro a
  induction a with
  | nil => intro a' b b' h1 h2; cases a' with
    | nil => exact h2
    | cons _ _ => exact h1.elim
  | cons g gs ih => intro a' b b' h1 h2; cases a' with
    | nil => exact h1.elim
    | cons g' gs' => exact ⟨h1.1, ih h1.2 h2⟩
theorem perm_filter_map {p : Int → Int} {q q' : Int → Bool} {g g' : List Int} (h : g'.Perm (g.map p)) (hb : ∀ t, t ∈ g → q' (p t) = q t) : (g'.filter q').Perm ((g.filter q).map p) := by
  refine (h.filter q').trans ?_
  rw [List.filter_map]
  rw [show g.filter (q' ∘ p) = g.filter q from List.filter_congr (fun t ht => hb t ht)]
theorem halves_rel {p : Int → Int} {x x' : Int} {g g' : List Int} (h : g'.Perm (g.map p)) (hb : ∀ t, t ∈ g → litB x' (p t) = litB x t) : Rel p (halves x g) (halves x' g') := by
  have h1 := perm_filter_map h hb
  have h2 := perm_filter_map (q := fun t => !litB x t) (q' := fun t => !litB x' t) h (fun t ht => by rw [hb t ht])
  have l1 := h1.length_eq
  have l2 := h2.length_eq
  rw [List.length_map] at l1 l2
  unfold halves
  rw [List.filter_cons, List.filter_cons, List.filter_cons, List.filter_cons, l1, l2]
  by_cases e1 : 0 < (g.filter (litB x)).length <;> by_cases e2 : 0 < (g.filter (fun t => !litB x t)).length <;> simp only [e1, e2, decide_true, decide_false, if_true, List.filter_nil, Bool.false_eq_true, if_false] <;> simp only [Rel, h1, h2, and_self]
theorem refine_rel {p : Int → Int} {x x' : Int} : ∀ {gs gs' : List (List Int)}, Rel p gs gs' → (∀ g, g ∈ gs → ∀ t, t ∈ g → litB x' (p t) = litB x t) → Rel p (refine1 x gs) (refine1 x' gs') := by
  intro gs
  induction gs with
  | nil => intro gs' h _; cases gs' with
    | nil => exact trivial
    | cons _ _ => exact h.elim
  | cons g gs ih => intro gs' h hb; cases gs' with
    | nil => exact h.elim
    | cons g' gs' =>
      unfold refine1
      rw [List.flatMap_cons, List.flatMap_cons]
      exact (halves_rel h.1 (hb g List.mem_cons_self)).app (ih h.2 (fun g'' hg => hb g'' (List.mem_cons_of_mem _ hg)))
/-- All tubes of a group have the same bit. -/
def Const (x : Int) (gs : List (List Int)) : Prop := ∀ g, g ∈ gs → ∀ s, s ∈ g → ∀ t, t ∈ g → litB x s = litB x t
theorem halves_mem {x : Int} {g h : List Int} (hh : h ∈ halves x g) : (∀ t, t ∈ h → t ∈ g) ∧ ∀ s, s ∈ h → ∀ t, t ∈ h → litB x s = litB x t := by
  unfold halves at hh
  have h1 := (List.mem_filter.1 hh).1
  rcases List.mem_cons.1 h1 with rfl | h1
  · exact ⟨fun t ht => (List.mem_filter.1 ht).1, fun s hs t ht => by rw [(List.mem_filter.1 hs).2, (List.mem_filter.1 ht).2]⟩
  · rw [List.mem_singleton] at h1
    subst h1
    refine ⟨fun t ht => (List.mem_filter.1 ht).1, fun s hs t ht => ?_⟩
    have a := (List.mem_filter.1 hs).2
    have b := (List.mem_filter.1 ht).2
    rw [Bool.not_eq_true'] at a b
    rw [a, b]
theorem const_new (x : Int) (gs : List (List Int)) : Const x (refine1 x gs) := by
  intro h hh
  obtain ⟨g, _, hg⟩ := List.mem_flatMap.1 hh
  exact (halves_mem hg).2
theorem Const.step {x : Int} {gs : List (List Int)} (h : Const x gs) (y : Int) : Const x (refine1 y gs) := by
  intro k hk s hs t ht
  obtain ⟨g, hg, hk2⟩ := List.mem_flatMap.1 hk
  have := (halves_mem hk2).1
  exact h g hg s (this s hs) t (this t ht)
theorem map_const {α : Type} (f g : Int → α) : ∀ (a b : List Int), a.length = b.length → (∀ s, s ∈ a → ∀ t, t ∈ b → f s = g t) → a.map f = b.map g := by
  intro a
  induction a with
  | nil => intro b hl _; cases b with
    | nil => rfl
    | cons _ _ => simp at hl
  | cons x xs ih => intro b hl h; cases b with
    | nil => simp at hl
    | cons y ys =>
      rw [List.map_cons, List.map_cons, h x List.mem_cons_self y List.mem_cons_self, ih ys (by simpa using hl) (fun s hs t ht => h s (List.mem_cons_of_mem _ hs) t (List.mem_cons_of_mem _ ht))]
theorem const_row {x : Int} {gs : List (List Int)} (h : Const x gs) (y : Int) : (refine1 y gs).flatten.map (litB x) = gs.flatten.map (litB x) := by
  induction gs with
  | nil => rfl
  | cons g gs ih =>
    unfold refine1 at *
    rw [List.flatMap_cons, List.flatten_append, List.flatten_cons, List.map_append, List.map_append, ih (fun g' hg => h g' (List.mem_cons_of_mem _ hg))]
    congr 1
    have hp := halves_perm y g
    exact map_const _ _ _ _ hp.length_eq (fun s hs t ht => h g List.mem_cons_self s (hp.mem_iff.1 hs) t ht)
theorem rel_row {p : Int → Int} {x x' : Int} : ∀ {gs gs' : List (List Int)}, Rel p gs gs' → Const x gs → (∀ g, g ∈ gs → ∀ t, t ∈ g → litB x' (p t) = litB x t) → gs'.flatten.map (litB x') = gs.flatten.map (litB x) := by
  intro gs
  induction gs with
  | nil => intro gs' h _ _; cases gs' with
    | nil => rfl
    | cons _ _ => exact h.elim
  | cons g gs ih => intro gs' h hc hb; cases gs' with
    | nil => exact h.elim
    | cons g' gs' =>
      rw [List.flatten_cons, List.flatten_cons, List.map_append, List.map_append, ih h.2 (fun g'' hg => hc g'' (List.mem_cons_of_mem _ hg)) (fun g'' hg => hb g'' (List.mem_cons_of_mem _ hg))]
      congr 1
      refine map_const _ _ _ _ (by rw [h.1.length_eq, List.length_map]) (fun s hs t ht => ?_)
      obtain ⟨s', hs', rfl⟩ := List.mem_map.1 (h.1.mem_iff.1 hs)
      rw [hb g List.mem_cons_self s' hs', hc g List.mem_cons_self s' hs' t ht]
/-- The groups behind some differences. -/
def grp (xs : List Int) (gs : List (List Int)) : List (List Int) := xs.foldl (fun gs x => refine1 x gs) gs
theorem groupsF_grp (n : Nat) (z : Int) (l : List Int) : groupsF n z l = grp (l.map (xr · z)) [ups n] := by
  unfold groupsF grp
  rw [List.foldl_map]
theorem grp_const_keep {x : Int} : ∀ (xs : List Int) {gs : List (List Int)}, Const x gs → Const x (grp xs gs) := by
  intro xs
  induction xs with
  | nil => intro gs h; exact h
  | cons y xs ih => intro gs h; exact ih (h.step y)
theorem grp_const {x : Int} : ∀ (xs : List Int) (gs : List (List Int)), x ∈ xs → Const x (grp xs gs) := by
  intro xs
  induction xs with
  | nil => intro gs h; cases h
  | cons y xs ih =>
    intro gs h
    rcases List.mem_cons.1 h with rfl | h
    · exact grp_const_keep xs (const_new x gs)
    · exact ih _ h
theorem grp_row {x : Int} : ∀ (xs : List Int) {gs : List (List Int)}, Const x gs → (grp xs gs).flatten.map (litB x) = gs.flatten.map (litB x) := by
  intro xs
  induction xs with
  | nil => intro gs _; rfl
  | cons y xs ih => intro gs h; exact (ih (h.step y)).trans (const_row h y)
theorem grp_good {n : Nat} : ∀ (xs : List Int) {gs : List (List Int)}, Good n gs → Good n (grp xs gs) := by
  intro xs
  induction xs with
  | nil => intro gs h; exact h
  | cons y xs ih => intro gs h; exact ih (h.step y)
theorem grp_rel {p : Int → Int} {n : Nat} : ∀ (xs xs' : List Int) {gs gs' : List (List Int)}, xs.length = xs'.length → Rel p gs gs' → Good n gs →
    (∀ i, (h : i < xs.length) → ∀ t, t ∈ ups n → litB (rd xs' (i : Int)) (p t) = litB xs[i] t) → Rel p (grp xs gs) (grp xs' gs') := by
  intro xs
  induction xs with
  | nil => intro xs' gs gs' hl h _ _; cases xs' with
    | nil => exact h
    | cons _ _ => simp at hl
  | cons x xs ih => intro xs' gs gs' hl h hg hb; cases xs' with
    | nil => simp at hl
    | cons x' xs' =>
      refine ih xs' (by simpa using hl) (refine_rel h (fun g hg1 t ht => ?_)) (hg.step x) (fun i hi t ht => ?_)
      · have := hb 0 (by simp) t (hg.perm.mem_iff.1 (List.mem_flatten.2 ⟨g, hg1, ht⟩))
        simpa [rd] using this
      · have := hb (i + 1) (by simpa using hi) t ht
        have e : rd (x' :: xs') ((i + 1 : Nat) : Int) = rd xs' (i : Int) := by simp [rd]
        rw [e] at this
        simpa using this
/-- The least list, as rows of the final order. -/
theorem normal_rows {n : Nat} (hn : 1 ≤ n) (l : List Int) : normalL n l = l.map fun s => (valOf ((groupsF n (rd l 0) l).flatten.map (litB (xr s (rd l 0)))) : Int) := by
  unfold normalL
  refine List.map_congr_left (fun s _ => ?_)
  rw [outX_val hn (groupsF_good hn _ _).perm]
  congr 2
  refine List.map_congr_left (fun t _ => ?_)
  rw [litB_bit]
  rfl
/-- Tubes are exchanged, and some are inverted. -/
theorem normal_same {n : Nat} (hn : 1 ≤ n) (p : Int → Int) (hp : (ups n).Perm ((ups n).map p)) (l l' : List Int) (hl : l'.length = l.length)
    (hb : ∀ i, (h : i < l.length) → ∀ t, t ∈ ups n → litB (xr (rd l' (i : Int)) (rd l' 0)) (p t) = litB (xr (rd l (i : Int)) (rd l 0)) t) : normalL n l' = normalL n l := by
  rw [normal_rows hn, normal_rows hn, groupsF_grp, groupsF_grp]
  have hrel : Rel p (grp (l.map (xr · (rd l 0))) [ups n]) (grp (l'.map (xr · (rd l' 0))) [ups n]) := by
    refine grp_rel (n := n) _ _ (by simp [hl]) ⟨hp, trivial⟩ (Good.init hn) (fun i hi t ht => ?_)
    rw [List.length_map] at hi
    have := hb i hi t ht
    rw [rd_get _ i (by simpa [hl] using hi), List.getElem_map, List.getElem_map]
    rwa [rd_get l' i (by omega), rd_get l i hi] at this
  refine List.ext_getElem (by simp [hl]) (fun i h1 h2 => ?_)
  rw [List.length_map] at h1 h2
  rw [List.getElem_map, List.getElem_map]
  congr 2
  refine rel_row hrel (grp_const _ _ (List.mem_map.2 ⟨l[i], List.getElem_mem _, rfl⟩)) (fun g hg t ht => ?_)
  have := hb i h2 t ((grp_good _ (Good.init hn)).perm.mem_iff.1 (List.mem_flatten.2 ⟨g, hg, ht⟩))
  rwa [rd_get l' i h1, rd_get l i h2] at this

theorem normalL_len (n : Nat) (l : List Int) : (normalL n l).length = l.length := by unfold normalL; simp
theorem val_lt : ∀ (bs : List Bool), valOf bs < 2 ^ bs.length := by
  intro bs
  induction bs with
  | nil => simp [valOf]
  | cons b bs ih =>
    unfold valOf
    rw [List.length_cons, Nat.pow_succ]
    cases b <;> simp <;> omega
theorem val_zero : ∀ (bs : List Bool), (∀ b, b ∈ bs → b = false) → valOf bs = 0 := by
  intro bs
  induction bs with
  | nil => intro _; rfl
  | cons b bs ih =>
    intro h
    unfold valOf
    rw [ih (fun b' hb => h b' (List.mem_cons_of_mem _ hb)), h b List.mem_cons_self]
    rfl
theorem normal_rd {n : Nat} (hn : 1 ≤ n) (l : List Int) (i : Nat) (hi : i < l.length) : rd (normalL n l) (i : Int) = (valOf ((groupsF n (rd l 0) l).flatten.map (litB (xr (rd l (i : Int)) (rd l 0)))) : Int) := by
  rw [rd_get _ i (by rw [normalL_len]; exact hi)]
  simp only [normal_rows hn]
  rw [List.getElem_map, rd_get l i hi]
theorem xr_self (s : Int) : xr s s = 0 := by unfold xr; rw [Nat.xor_self]; rfl
theorem normal_first {n : Nat} (hn : 1 ≤ n) (l : List Int) (hl : 0 < l.length) : rd (normalL n l) 0 = 0 := by
  have := normal_rd hn l 0 hl
  rw [show ((0 : Nat) : Int) = 0 from rfl, xr_self] at this
  rw [this, val_zero]
  · rfl
  · intro b hb
    obtain ⟨t, _, rfl⟩ := List.mem_map.1 hb
    rw [litB_bit]
    simp
/-- The least list is its own. -/
theorem normal_normal {n : Nat} (hn : 1 ≤ n) (l : List Int) : normalL n (normalL n l) = normalL n l := by
  have hg := groupsF_good hn (rd l 0) l
  have hlen := hg.len
  refine normal_same hn (rd (toAt n (groupsF n (rd l 0) l).flatten n)) ?_ l (normalL n l) (normalL_len n l) (fun i hi t ht => ?_)
  · have h1 : (groupsF n (rd l 0) l).flatten.map (rd (toAt n (groupsF n (rd l 0) l).flatten n)) = ups n := by
      refine List.ext_getElem (by rw [List.length_map, hlen, ups_len]) (fun k h1 h2 => ?_)
      rw [List.length_map] at h1
      rw [List.getElem_map, ← rd_get _ k h1, toAt_inv hg.perm n (Nat.le_refl _) k (by omega)]
      simp [ups]
    have h2 := hg.perm.map (rd (toAt n (groupsF n (rd l 0) l).flatten n))
    rw [h1] at h2
    exact h2
  · have hl0 : 0 < l.length := by omega
    obtain ⟨k, hk, e⟩ := List.getElem_of_mem (hg.perm.mem_iff.2 ht)
    have hinv := toAt_inv hg.perm n (Nat.le_refl _) k (by omega)
    rw [rd_get _ k hk, e] at hinv
    rw [hinv, normal_first hn l hl0, normal_rd hn l i hi, litB_bit]
    unfold xr
    rw [Int.toNat_natCast, Int.toNat_natCast, show (0 : Int).toNat = 0 from rfl, Nat.xor_zero, Int.toNat_natCast, val_bit, List.getD_eq_getElem?_getD, List.getElem?_map, List.getElem?_eq_getElem hk, e]
    rfl
theorem normal_fine {n : Nat} {l : List Int} (h : Fine n l) : Fine n (normalL n l) := by
  refine ⟨h.n1, h.n2, by rw [normalL_len]; exact h.pos, by rw [normalL_len]; exact h.len, fun x hx => ?_⟩
  rw [normal_rows h.n1] at hx
  obtain ⟨s, _, rfl⟩ := List.mem_map.1 hx
  have := val_lt ((groupsF n (rd l 0) l).flatten.map (litB (xr s (rd l 0))))
  rw [List.length_map, (groupsF_good h.n1 (rd l 0) l).len] at this
  omega
end Go.Proofs.Ytnakkdaeehglnaa.P

set_option linter.unusedSimpArgs false
set_option linter.unusedVariables false
namespace Go.Proofs.Ytnakkdaeehglnaa.P
open Go.Lib Go.RowKit Go.Proofs.YtnakkdaeehglnaaW.PrintWords Go.Proofs.YtnakkdaeehglnaaW.PrintMore Go.Proofs.Ytnakkdaeehglnaa.Kit

theorem states_l0 (n : Nat) (h2 : n ≤ 12) (l : List Int) (hl : l.length ≤ 4096) : ∀ d i, l.length - i = d → i ≤ l.length →
    Ev (fun k => neonwrightref04_States.l0 k (n : Int) l (i : Int)) (if okFrom (fun i => !stOut (n : Int) (rd l (i : Int))) d i = true then 0 else 2) := by
  intro d
  induction d with
  | zero =>
    intro i hd hi
    refine Ev.step (f := fun _ => some 0) (fun k => ?_) (Ev.now _)
    simp only [neonwrightref04_States.l0]
    rw [if_neg (by omega)]
  | succ d ih =>
    intro i hd hi
    have hil : i < l.length := by omega
    have h1 := ih (i + 1) (by omega) (by omega)
    have hw : wrap64 ((i : Int) + 1) = ((i + 1 : Nat) : Int) := by rw [w64 (by omega) (by omega)]; rfl
    unfold okFrom
    refine Ev.step (f := fun k => if stOut (n : Int) (rd l (i : Int)) = true then some 2 else neonwrightref04_States.l0 k (n : Int) l ((i + 1 : Nat) : Int)) (fun k => ?_) ?_
    · simp only [neonwrightref04_States.l0]
      rw [if_pos (by omega), if_pos (by omega), hw]
      unfold stOut
      rw [Int.toNat_natCast]
      by_cases c : rd l (i : Int) < 0
      · rw [if_pos c, decide_eq_true c, if_pos (by rfl)]
      · rw [if_neg c, if_pos (by omega), shl1n (by omega), decide_eq_false c, Bool.false_or]
        by_cases c2 : rd l (i : Int) ≥ ((2 ^ n : Nat) : Int)
        · rw [if_pos c2, if_pos (decide_eq_true c2)]
        · rw [if_neg c2, if_neg (by rw [decide_eq_false c2]; decide)]
    · cases hb : stOut (n : Int) (rd l (i : Int)) with
      | true => exact Ev.pos rfl (Ev.now _)
      | false => exact Ev.neg (by decide) (by simpa using h1)
theorem any_okFrom (n : Int) (l : List Int) : okFrom (fun i => !stOut n (rd l (i : Int))) l.length 0 = !l.any (stOut n) := by
  rw [Bool.eq_iff_iff, okFrom_iff, Bool.not_eq_true', Bool.eq_false_iff]
  constructor
  · intro h h2
    obtain ⟨x, hx, h3⟩ := List.any_eq_true.1 h2
    obtain ⟨i, hi, rfl⟩ := List.getElem_of_mem hx
    have h4 := h i (by omega) (by omega)
    rw [rd_get l i hi, h3] at h4
    cases h4
  · intro h i _ hi
    rw [rd_get l i (by omega), Bool.not_eq_true', Bool.eq_false_iff]
    intro h3
    exact h (List.any_eq_true.2 ⟨_, List.getElem_mem _, h3⟩)
theorem states_ev (n : Int) (l : List Int) : Ev (fun k => neonwrightref04_States.f k n l) (listedN n l) := by
  unfold listedN
  by_cases hn : 1 ≤ n ∧ n ≤ 12
  · rw [if_pos hn]
    obtain ⟨m, rfl⟩ : ∃ m : Nat, n = m := ⟨n.toNat, by omega⟩
    have hp := pow12' (n := m) (by omega)
    rw [Int.toNat_natCast]
    by_cases h1 : (l.length : Int) > ((2 ^ m : Nat) : Int)
    · rw [if_pos h1]
      refine Ev.at 0 (fun k _ => ?_)
      unfold neonwrightref04_States.f
      rw [tubes_f, Option.bind_some, decide_eq_true hn, if_pos rfl, if_pos (by omega), shl1n (by omega), if_pos h1]
    · rw [if_neg h1]
      by_cases h2 : l.length = 0
      · rw [if_pos h2]
        refine Ev.at 0 (fun k _ => ?_)
        unfold neonwrightref04_States.f
        rw [tubes_f, Option.bind_some, decide_eq_true hn, if_pos rfl, if_pos (by omega), shl1n (by omega), if_neg h1, if_pos (by omega)]
      · rw [if_neg h2]
        have h3 := states_l0 m (by omega) l (by omega) l.length 0 (by omega) (by omega)
        rw [any_okFrom] at h3
        have e : (if (!l.any (stOut (m : Int))) = true then (0 : Int) else 2) = (if l.any (stOut (m : Int)) = true then 2 else 0) := by cases l.any (stOut (m : Int)) <;> rfl
        rw [e] at h3
        refine Ev.congr (f := fun k => neonwrightref04_States.l0 k (m : Int) l ((0 : Nat) : Int)) (fun k => ?_) h3
        show neonwrightref04_States.f k _ _ = _
        unfold neonwrightref04_States.f
        rw [tubes_f, Option.bind_some, decide_eq_true hn, if_pos rfl, if_pos (by omega), shl1n (by omega), if_neg h1, if_neg (by omega)]
        rfl
  · rw [if_neg hn]
    refine Ev.at 0 (fun k _ => ?_)
    unfold neonwrightref04_States.f
    rw [tubes_f, Option.bind_some, decide_eq_false hn, if_neg (by decide)]
/-- A state differs from those before it. -/
def newB (l : List Int) (i : Nat) : Nat → Nat → Bool := okFrom (fun q => decide (rd l (q : Int) ≠ rd l (i : Int)))
theorem rpath_l1 {n : Nat} {l : List Int} (h : Fine n l) (i : Nat) (hi : i < l.length) (R : Bool × Bool) (hR : Ev (fun k => neonwrightref04_path.l0 k l ((i + 1 : Nat) : Int)) R) :
    ∀ d j, i - j = d → j ≤ i → Ev (fun k => neonwrightref04_path.l1 k l (i : Int) (j : Int)) (if newB l i d j = true then R else (false, false)) := by
  have hl := h.le
  intro d
  induction d with
  | zero =>
    intro j hd hj
    refine Ev.step (f := fun k => neonwrightref04_path.l0 k l ((i + 1 : Nat) : Int)) (fun k => ?_) hR
    simp only [neonwrightref04_path.l1]
    rw [if_neg (by omega), w64 (x := (i : Int) + 1) (by omega) (by omega)]
    rfl
  | succ d ih =>
    intro j hd hj
    have h1 := ih (j + 1) (by omega) (by omega)
    unfold newB at h1 ⊢
    unfold okFrom
    refine Ev.step (f := fun k => if rd l (j : Int) = rd l (i : Int) then some (false, false) else neonwrightref04_path.l1 k l (i : Int) ((j + 1 : Nat) : Int)) (fun k => ?_) ?_
    · simp only [neonwrightref04_path.l1]
      rw [if_pos (by omega), if_pos (by omega), if_pos (by omega), if_pos (by omega), if_pos (by omega), w64 (x := (j : Int) + 1) (by omega) (by omega)]
      rfl
    · by_cases c : rd l (j : Int) = rd l (i : Int)
      · refine Ev.pos c ?_
        rw [decide_eq_false (fun hne => hne c), Bool.false_and, if_neg (by decide)]
        exact Ev.now _
      · refine Ev.neg c ?_
        rw [decide_eq_true c, Bool.true_and]
        exact h1
def stepB (l : List Int) (i : Nat) : Bool := (decide (i = 0) || nx (rd l ((i - 1 : Nat) : Int)) (rd l (i : Int))) && newB l i i 0
theorem rpath_l0 {n : Nat} {l : List Int} (h : Fine n l) : ∀ d i, l.length - i = d → i ≤ l.length →
    Ev (fun k => neonwrightref04_path.l0 k l (i : Int)) (if okFrom (stepB l) d i = true then (true, closedB l) else (false, false)) := by
  have hl := h.le
  intro d
  induction d with
  | zero =>
    intro i hd hi
    refine Ev.step (f := fun _ => some (true, closedB l)) (fun k => ?_) (Ev.now _)
    simp only [neonwrightref04_path.l0]
    rw [if_neg (by omega), last_w h.pos (by omega)]
    unfold closedB
    have hp := h.pos
    by_cases h4 : 4 ≤ l.length
    · rw [if_pos (by omega), if_pos (by omega), if_pos (by omega), if_pos (by omega), decide_eq_true h4, Bool.true_and]
      have h0 := near_nx (h.rd 0 hp) (h.rd (l.length - 1) (by omega))
      rw [show ((0 : Nat) : Int) = 0 from rfl] at h0
      rw [h0, Option.bind_some]
    · rw [if_neg (by omega), decide_eq_false h4]
      rfl
  | succ d ih =>
    intro i hd hi
    have hil : i < l.length := by omega
    have h1 := rpath_l1 h i hil _ (ih (i + 1) (by omega) (by omega)) i 0 (by omega) (by omega)
    unfold okFrom
    have e : (if (stepB l i && okFrom (stepB l) d (i + 1)) = true then (true, closedB l) else (false, false)) = (if (decide (i = 0) || nx (rd l ((i - 1 : Nat) : Int)) (rd l (i : Int))) = true then (if newB l i i 0 = true then (if okFrom (stepB l) d (i + 1) = true then (true, closedB l) else (false, false)) else (false, false)) else (false, false)) := by
      unfold stepB
      cases (decide (i = 0) || nx (rd l ((i - 1 : Nat) : Int)) (rd l (i : Int))) <;> cases newB l i i 0 <;> simp
    rw [e]
    refine Ev.step (f := fun k => neonwrightref04_path.j1 k l (i : Int) (!(decide (i = 0) || nx (rd l ((i - 1 : Nat) : Int)) (rd l (i : Int))))) (fun k => ?_) ?_
    · simp only [neonwrightref04_path.l0]
      rw [if_pos (by omega)]
      by_cases c : i = 0
      · rw [if_neg (by omega), decide_eq_true c, Bool.true_or]
        rfl
      · rw [if_pos (by omega), w64 (x := (i : Int) - 1) (by omega) (by omega), show (i : Int) - 1 = ((i - 1 : Nat) : Int) from by omega, if_pos (by omega), if_pos (by omega), if_pos (by omega), near_nx (h.rd (i - 1) (by omega)) (h.rd i hil), Option.bind_some, decide_eq_false c, Bool.false_or]
    · cases (decide (i = 0) || nx (rd l ((i - 1 : Nat) : Int)) (rd l (i : Int))) with
      | false =>
        refine Ev.step (f := fun _ => some (false, false)) (fun k => ?_) (Ev.now _)
        simp only [neonwrightref04_path.j1]; rfl
      | true =>
        refine Ev.step (f := fun k => neonwrightref04_path.l1 k l (i : Int) ((0 : Nat) : Int)) (fun k => ?_) h1
        simp only [neonwrightref04_path.j1]; rfl
theorem newB_has {l : List Int} {i : Nat} (hi : i < l.length) : newB l i i 0 = !(l.take i).contains (rd l (i : Int)) := by
  unfold newB
  rw [Bool.eq_iff_iff, okFrom_iff, Bool.not_eq_true', Bool.eq_false_iff, ne_eq, List.contains_iff_mem, List.mem_take_iff_getElem]
  constructor
  · rintro h ⟨j, hj, e⟩
    have h2 := of_decide_eq_true (h j (by omega) (by omega))
    rw [rd_get l j (by omega)] at h2
    exact h2 e
  · intro h j _ hj
    refine decide_eq_true (fun e => h ⟨j, by omega, ?_⟩)
    rw [rd_get l j (by omega)] at e
    exact e
theorem stepB_p {l : List Int} {i : Nat} (hi : i < l.length) : stepB l i = pStep l i := by
  unfold stepB pStep
  rw [newB_has hi, Bool.and_comm]
  by_cases h0 : i = 0
  · rw [decide_eq_true h0, Bool.true_or, Bool.true_or]
  · rw [show ((i - 1 : Nat) : Int) = (i : Int) - 1 from by omega]
theorem path_ok (l : List Int) : okFrom (stepB l) l.length 0 = pathB l := by
  unfold pathB
  rw [Bool.eq_iff_iff, okFrom_iff, List.all_eq_true]
  constructor
  · intro h i hi
    rw [← stepB_p (List.mem_range.1 hi)]
    exact h i (by omega) (by have := List.mem_range.1 hi; omega)
  · intro h i _ hi
    rw [stepB_p (by omega)]
    exact h i (List.mem_range.2 (by omega))
theorem rpath_ev {n : Nat} {l : List Int} (h : Fine n l) : Ev (fun k => neonwrightref04_path.f k l) (pathB l, pathB l && closedB l) := by
  have h1 := rpath_l0 h l.length 0 (by omega) (by omega)
  rw [path_ok] at h1
  have e : (if pathB l = true then (true, closedB l) else (false, false)) = (pathB l, pathB l && closedB l) := by cases pathB l <;> simp
  rw [e] at h1
  exact h1
theorem rPath_ev (n : Int) (l : List Int) : Ev (fun k => neonwrightref04_Path.f k n l) (pathR n l) := by
  unfold pathR
  refine Ev.congr (f := fun k => (neonwrightref04_States.f k n l).bind fun t401 => (if t401 = 0 then ((neonwrightref04_path.f k l).bind fun bt402 => (some (bt402.1, bt402.2, 0))) else (some (false, false, t401)))) (fun k => rfl) (Ev.bnd (states_ev n l) ?_)
  by_cases hz : listedN n l = 0
  · obtain ⟨m, rfl, hf⟩ := listedN_fine hz
    rw [if_pos hz]
    exact Ev.pos hz (Ev.bnd (rpath_ev hf) (Ev.now _))
  · rw [if_neg hz]
    exact Ev.neg hz (Ev.now _)
/-- The reference's pairs. -/
def farB (l : List Int) (i k : Nat) : Bool := !nx (rd l (i : Int)) (rd l (k : Int))
def endB (l : List Int) (i k : Nat) : Bool := !nx (rd l (i : Int)) (rd l (k : Int)) || (decide (k = 0) && decide (i = l.length - 1))
theorem rsnake_l1 {n : Nat} {l : List Int} (h : Fine n l) (i : Nat) (hi : i < l.length) (R : Bool → Bool → Bool × Bool) (hR : ∀ c s, Ev (fun k => neonwrightref04_snake.l0 k l c s ((i + 1 : Nat) : Int)) (R c s)) :
    ∀ d k0 c s, (i - 1) - k0 = d → Ev (fun k => neonwrightref04_snake.l1 k l c s (i : Int) (k0 : Int)) (R (c && okFrom (endB l i) d k0) (s && okFrom (farB l i) d k0)) := by
  have hl := h.le
  have hp := h.pos
  intro d
  induction d with
  | zero =>
    intro k0 c s hd
    rw [show okFrom (endB l i) 0 k0 = true from rfl, show okFrom (farB l i) 0 k0 = true from rfl, Bool.and_true, Bool.and_true]
    refine Ev.step (f := fun k => neonwrightref04_snake.l0 k l c s ((i + 1 : Nat) : Int)) (fun k => ?_) (hR c s)
    simp only [neonwrightref04_snake.l1]
    rw [w64 (x := (i : Int) - 1) (by omega) (by omega), if_neg (by omega), w64 (x := (i : Int) + 1) (by omega) (by omega)]
    rfl
  | succ d ih =>
    intro k0 c s hd
    have hk : k0 < l.length := by omega
    have h1 := ih (k0 + 1) (c && endB l i k0) (s && farB l i k0) (by omega)
    unfold okFrom
    rw [← Bool.and_assoc, ← Bool.and_assoc]
    have hw : wrap64 ((k0 : Int) + 1) = ((k0 + 1 : Nat) : Int) := by rw [w64 (by omega) (by omega)]; rfl
    refine Ev.step (f := fun k => neonwrightref04_snake.l1 k l (c && endB l i k0) (s && farB l i k0) (i : Int) ((k0 + 1 : Nat) : Int)) (fun k => ?_) h1
    simp only [neonwrightref04_snake.l1]
    rw [w64 (x := (i : Int) - 1) (by omega) (by omega), if_pos (by omega), hw, last_w hp (by omega)]
    unfold endB farB
    have hn := near_nx (h.rd i hi) (h.rd k0 hk)
    by_cases c0 : k0 = 0
    · rw [if_pos (by omega), if_pos (by omega), if_pos (by omega), if_pos (by omega), if_pos (by omega), hn, Option.bind_some]
      have e : ((i : Int) == ((l.length - 1 : Nat) : Int)) = decide (i = l.length - 1) := by
        rw [Bool.eq_iff_iff, beq_iff_eq, decide_eq_true_eq]; omega
      rw [e]
      cases nx (rd l (i : Int)) (rd l (k0 : Int)) with
      | false => rw [if_neg (by decide)]; simp
      | true =>
        rw [if_pos rfl]
        cases c with
        | true => rw [if_pos rfl]; simp [c0]
        | false => rw [if_neg (by decide)]; simp
    · rw [if_neg (by omega), if_pos (by omega), if_pos (by omega), if_pos (by omega), if_pos (by omega), hn, Option.bind_some]
      cases nx (rd l (i : Int)) (rd l (k0 : Int)) with
      | false => rw [if_neg (by decide)]; simp
      | true =>
        rw [if_pos rfl]
        cases c with
        | true => rw [if_pos rfl]; simp [c0]
        | false => rw [if_neg (by decide)]; simp
theorem rsnake_l0 {n : Nat} {l : List Int} (h : Fine n l) : ∀ d i c s, l.length - i = d → i ≤ l.length →
    Ev (fun k => neonwrightref04_snake.l0 k l c s (i : Int)) (s && okFrom (fun i => okFrom (farB l i) (i - 1) 0) d i, c && okFrom (fun i => okFrom (endB l i) (i - 1) 0) d i) := by
  intro d
  induction d with
  | zero =>
    intro i c s hd hi
    rw [show okFrom (fun i => okFrom (farB l i) (i - 1) 0) 0 i = true from rfl, show okFrom (fun i => okFrom (endB l i) (i - 1) 0) 0 i = true from rfl, Bool.and_true, Bool.and_true]
    refine Ev.step (f := fun _ => some (s, c)) (fun k => ?_) (Ev.now _)
    simp only [neonwrightref04_snake.l0]
    rw [if_neg (by omega)]
  | succ d ih =>
    intro i c s hd hi
    have hil : i < l.length := by omega
    have h1 := rsnake_l1 h i hil (fun c s => (s && okFrom (fun i => okFrom (farB l i) (i - 1) 0) d (i + 1), c && okFrom (fun i => okFrom (endB l i) (i - 1) 0) d (i + 1))) (fun c s => ih (i + 1) c s (by omega) (by omega)) (i - 1) 0 c s (by omega)
    unfold okFrom
    rw [← Bool.and_assoc, ← Bool.and_assoc]
    refine Ev.step (f := fun k => neonwrightref04_snake.l1 k l c s (i : Int) ((0 : Nat) : Int)) (fun k => ?_) h1
    simp only [neonwrightref04_snake.l0]
    rw [if_pos (by omega)]
    rfl
theorem far_snake (l : List Int) : okFrom (fun i => okFrom (farB l i) (i - 1) 0) l.length 0 = snakeB l false := by
  unfold snakeB
  rw [Bool.eq_iff_iff, okFrom_iff, okFrom_iff]
  constructor
  · intro h i _ hi
    rw [okFrom_iff]
    intro j h1 h2
    have h3 := (okFrom_iff _ _ _).1 (h j (by omega) (by omega)) i (by omega) (by omega)
    unfold farB at h3
    unfold pairOk
    rw [nx_comm, h3]
    rfl
  · intro h j _ hj
    rw [okFrom_iff]
    intro i h1 h2
    have h3 := (okFrom_iff _ _ _).1 (h i (by omega) (by omega)) j (by omega) (by omega)
    unfold pairOk at h3
    unfold farB
    rw [nx_comm]
    simpa using h3
theorem end_snake (l : List Int) : okFrom (fun i => okFrom (endB l i) (i - 1) 0) l.length 0 = snakeB l true := by
  unfold snakeB
  rw [Bool.eq_iff_iff, okFrom_iff, okFrom_iff]
  constructor
  · intro h i _ hi
    rw [okFrom_iff]
    intro j h1 h2
    have h3 := (okFrom_iff _ _ _).1 (h j (by omega) (by omega)) i (by omega) (by omega)
    unfold endB at h3
    unfold pairOk
    rw [nx_comm, Bool.true_and]
    exact h3
  · intro h j _ hj
    rw [okFrom_iff]
    intro i h1 h2
    have h3 := (okFrom_iff _ _ _).1 (h i (by omega) (by omega)) j (by omega) (by omega)
    unfold pairOk at h3
    unfold endB
    rw [nx_comm]
    rw [Bool.true_and] at h3
    exact h3
theorem rsnake_ev {n : Nat} {l : List Int} (h : Fine n l) : Ev (fun k => neonwrightref04_snake.f k l) (pathB l && snakeB l false, pathB l && closedB l && snakeB l true) := by
  refine Ev.congr (f := fun k => (neonwrightref04_path.f k l).bind fun bt244 => (if bt244.1 = true then (neonwrightref04_snake.l0 k l bt244.2 true ((0 : Nat) : Int)) else (some (false, false)))) (fun k => rfl) (Ev.bnd (rpath_ev h) ?_)
  have h1 := rsnake_l0 h l.length 0 (pathB l && closedB l) true (by omega) (by omega)
  rw [far_snake, end_snake, Bool.true_and] at h1
  cases hp : pathB l with
  | false => exact Ev.neg (by simp) (by simpa using Ev.now _)
  | true =>
    rw [hp] at h1
    exact Ev.pos rfl (by simpa using h1)
theorem rSnake_ev (n : Int) (l : List Int) : Ev (fun k => neonwrightref04_Snake.f k n l) (snakeR n l) := by
  unfold snakeR
  refine Ev.congr (f := fun k => (neonwrightref04_States.f k n l).bind fun t252 => (if t252 = 0 then ((neonwrightref04_snake.f k l).bind fun bt253 => (some (bt253.1, bt253.2, 0))) else (some (false, false, t252)))) (fun k => rfl) (Ev.bnd (states_ev n l) ?_)
  by_cases hz : listedN n l = 0
  · obtain ⟨m, rfl, hf⟩ := listedN_fine hz
    rw [if_pos hz]
    exact Ev.pos hz (Ev.bnd (rsnake_ev hf) (Ev.now _))
  · rw [if_neg hz]
    exact Ev.neg hz (Ev.now _)
end Go.Proofs.Ytnakkdaeehglnaa.P

set_option linter.unusedSimpArgs false
set_option linter.unusedVariables false
set_option linter.unusedSectionVars false
set_option maxHeartbeats 2000000
namespace Go.Proofs.Ytnakkdaeehglnaa.P
open Go.Lib Go.RowKit Go.Proofs.YtnakkdaeehglnaaW.PrintWords Go.Proofs.YtnakkdaeehglnaaW.PrintMore Go.Proofs.Ytnakkdaeehglnaa.Kit

theorem wcast {a m : Nat} (h : a + m < 1000000) : wrap64 (((a + m : Nat) : Int) + 1) = ((a + (m + 1) : Nat) : Int) := by rw [w64 (by omega) (by omega)]; omega
theorem shl0 (m : Nat) : shl .i64 0 (m : Int) = 0 := by unfold shl; simp [IntKind.wrap_i64]
def bitI (x t : Int) : Int := if litB x t = true then 1 else 0
theorem bit_read {X : Nat} {t : Int} (h0 : 0 ≤ t) (h1 : t ≤ 64) : Int.tmod (shr .i64 (X : Int) t) 2 = bitI (X : Int) t := by
  obtain ⟨m, rfl⟩ : ∃ m : Nat, t = m := ⟨t.toNat, by omega⟩
  unfold bitI
  rw [shrn (by omega), show (2 : Int) = ((2 : Nat) : Int) from rfl, tmodn, litB_bit, Int.toNat_natCast, Int.toNat_natCast, Nat.testBit_eq_decide_div_mod_eq]
  have := Nat.mod_two_eq_zero_or_one (X / 2 ^ m)
  rcases this with h | h <;> rw [h] <;> rfl
def setAll (f : List Int) (ts : List Int) (v : Int) : List Int := ts.foldl (fun f t => f.set t.toNat v) f
theorem setAll_len (ts : List Int) (v : Int) : ∀ f, (setAll f ts v).length = f.length := by
  induction ts with
  | nil => intro f; rfl
  | cons t ts ih => intro f; unfold setAll at *; rw [List.foldl_cons, ih, List.length_set]
theorem setAll_rd (ts : List Int) (v : Int) : ∀ f : List Int, (∀ t, t ∈ ts → 0 ≤ t ∧ t < f.length) → ∀ t, 0 ≤ t → rd (setAll f ts v) t = if t ∈ ts then v else rd f t := by
  induction ts with
  | nil => intro f _ t _; rw [if_neg (by simp)]; rfl
  | cons u ts ih =>
    intro f h t ht
    have hu := h u List.mem_cons_self
    have := ih (f.set u.toNat v) (fun t' ht' => by rw [List.length_set]; exact h t' (List.mem_cons_of_mem _ ht')) t ht
    unfold setAll at *
    rw [List.foldl_cons, this, rd_set _ _ _ _ (by omega) ht]
    by_cases e : t ∈ ts
    · rw [if_pos e, if_pos (List.mem_cons_of_mem _ e)]
    · rw [if_neg e]
      by_cases e2 : t = u
      · subst e2; rw [if_pos rfl, if_pos List.mem_cons_self]
      · rw [if_neg (by omega), if_neg]
        intro h2
        rcases List.mem_cons.1 h2 with h2 | h2
        · exact e2 h2
        · exact e h2
/-- Each tube's label is where its group begins. -/
def LabAt (lab : List Int) : Nat → List (List Int) → Prop
  | _, [] => True
  | off, g :: gs => (∀ t, t ∈ g → rd lab t = (off : Int)) ∧ LabAt lab (off + g.length) gs
theorem LabAt.congr {lab lab' : List Int} : ∀ {gs : List (List Int)} {off : Nat}, LabAt lab off gs → (∀ t, t ∈ gs.flatten → rd lab' t = rd lab t) → LabAt lab' off gs := by
  intro gs
  induction gs with
  | nil => intro _ _ _; trivial
  | cons g gs ih =>
    intro off h he
    refine ⟨fun t ht => ?_, ih h.2 (fun t ht => he t ?_)⟩
    · rw [he t (by rw [List.flatten_cons]; exact List.mem_append_left _ ht)]; exact h.1 t ht
    · rw [List.flatten_cons]; exact List.mem_append_right _ ht
theorem LabAt.app {lab : List Int} : ∀ {a b : List (List Int)} {off : Nat}, LabAt lab off a → LabAt lab (off + a.flatten.length) b → LabAt lab off (a ++ b) := by
  intro a
  induction a with
  | nil => intro b off _ h; simpa using h
  | cons g gs ih =>
    intro b off h h2
    refine ⟨h.1, ih h.2 ?_⟩
    rw [List.flatten_cons, List.length_append] at h2
    rwa [Nat.add_assoc]
theorem LabAt.tail {lab : List Int} : ∀ {a b : List (List Int)} {off : Nat}, LabAt lab off (a ++ b) → LabAt lab (off + a.flatten.length) b := by
  intro a
  induction a with
  | nil => intro b off h; simpa using h
  | cons g gs ih =>
    intro b off h
    have := ih h.2
    rw [List.flatten_cons, List.length_append, ← Nat.add_assoc]
    exact this
theorem halves_flat (x : Int) (g : List Int) : (halves x g).flatten = g.filter (litB x) ++ g.filter (fun t => !litB x t) := by
  unfold halves
  rw [List.filter_cons, List.filter_cons]
  by_cases e1 : 0 < (g.filter (litB x)).length <;> by_cases e2 : 0 < (g.filter (fun t => !litB x t)).length
  · simp [e1, e2]
  · have h2 := List.eq_nil_of_length_eq_zero (show (g.filter (fun t => !litB x t)).length = 0 by omega)
    simp [e1, e2, h2]
  · have h2 := List.eq_nil_of_length_eq_zero (show (g.filter (litB x)).length = 0 by omega)
    simp [e1, e2, h2]
  · have h2 := List.eq_nil_of_length_eq_zero (show (g.filter (litB x)).length = 0 by omega)
    have h3 := List.eq_nil_of_length_eq_zero (show (g.filter (fun t => !litB x t)).length = 0 by omega)
    simp [e1, e2, h2, h3]
theorem halves_lab {lab : List Int} {x : Int} {g : List Int} {off : Nat} (h1 : ∀ t, t ∈ g.filter (litB x) → rd lab t = (off : Int)) (h2 : ∀ t, t ∈ g.filter (fun t => !litB x t) → rd lab t = ((off + (g.filter (litB x)).length : Nat) : Int)) :
    LabAt lab off (halves x g) := by
  unfold halves
  rw [List.filter_cons, List.filter_cons]
  by_cases e1 : 0 < (g.filter (litB x)).length <;> by_cases e2 : 0 < (g.filter (fun t => !litB x t)).length
  · rw [if_pos (decide_eq_true e1), if_pos (decide_eq_true e2)]
    exact ⟨h1, h2, trivial⟩
  · rw [if_pos (decide_eq_true e1), if_neg (by simpa using e2)]
    exact ⟨h1, trivial⟩
  · rw [if_neg (by simpa using e1), if_pos (decide_eq_true e2)]
    refine ⟨fun t ht => ?_, trivial⟩
    rw [h2 t ht]
    omega
  · rw [if_neg (by simpa using e1), if_neg (by simpa using e2)]
    trivial
section
variable {n : Nat} (hn : n ≤ 12) (l order lab out : List Int) (i : Int) (X : Nat)
include hn
theorem rn_l5 (D g T : List Int) (ho : order = D ++ (g ++ T)) (hlen : order.length = n) (hg : ∀ t, t ∈ g → 0 ≤ t ∧ t < (n : Int)) (b : Int) (at_ fr : Int) (R : List Int) :
    ∀ d m, g.length - m = d → m ≤ g.length → ∀ next fresh : List Int, next.length + (g.length - m) ≤ 100000 → fresh.length = n →
    Ev (fun k => neonwrightref04_normal.l4 k (n : Int) l order lab out i (X : Int) (next ++ (g.drop m).filter (fun t => decide (bitI (X : Int) t = b))) (setAll fresh ((g.drop m).filter (fun t => decide (bitI (X : Int) t = b))) at_) fr ((D.length + g.length : Nat) : Int) (wrap64 (b - 1))) R →
    Ev (fun k => neonwrightref04_normal.l5 k (n : Int) l order lab out i (X : Int) next fresh fr ((D.length + g.length : Nat) : Int) b at_ ((D.length + m : Nat) : Int)) R := by
  have hle : D.length + g.length ≤ n := by rw [← hlen, ho, List.length_append, List.length_append]; omega
  intro d
  induction d with
  | zero =>
    intro m hd hm next fresh hb hf hR
    obtain rfl : m = g.length := by omega
    rw [List.drop_length, List.filter_nil, List.append_nil] at hR
    refine Ev.step (fun k => ?_) hR
    simp only [neonwrightref04_normal.l5]
    rw [if_neg (by omega)]
    rfl
  | succ d ih =>
    intro m hd hm next fresh hb hf hR
    have hml : m < g.length := by omega
    rw [List.drop_eq_getElem_cons hml] at hR
    have hgm := hg g[m] (List.getElem_mem hml)
    have hrd : rd order ((D.length + m : Nat) : Int) = g[m] := by
      rw [rd_get _ _ (by omega)]
      subst ho
      rw [List.getElem_append_right (by omega)]
      rw [List.getElem_append_left (by omega)]
      congr 1
      omega
    rw [List.filter_cons] at hR
    by_cases hc : bitI (X : Int) g[m] = b
    · rw [if_pos (decide_eq_true hc)] at hR
      have h1 := ih (m + 1) (by omega) (by omega) (next ++ [g[m]]) (fresh.set g[m].toNat at_) (by rw [List.length_append, List.length_singleton]; omega) (by rw [List.length_set]; exact hf) (by rw [List.append_assoc]; exact hR)
      refine Ev.step (fun k => ?_) h1
      simp only [neonwrightref04_normal.l5]
      rw [if_pos (by omega), if_pos (by omega), if_pos (by omega), hrd, if_pos hgm.1, bit_read hgm.1 (by omega), if_pos hc, if_pos (by omega), if_pos (by rw [hf]; exact hgm.2), wcast (by omega)]
    · rw [if_neg (by simpa using hc)] at hR
      have h1 := ih (m + 1) (by omega) (by omega) next fresh (by omega) hf hR
      refine Ev.step (fun k => ?_) h1
      simp only [neonwrightref04_normal.l5]
      rw [if_pos (by omega), if_pos (by omega), if_pos (by omega), hrd, if_pos hgm.1, bit_read hgm.1 (by omega), if_neg hc, wcast (by omega)]
theorem filt1 (g : List Int) : g.filter (fun t => decide (bitI (X : Int) t = 1)) = g.filter (litB (X : Int)) := by
  refine List.filter_congr (fun t _ => ?_)
  unfold bitI
  cases litB (X : Int) t <;> rfl
theorem filt0 (g : List Int) : g.filter (fun t => decide (bitI (X : Int) t = 0)) = g.filter (fun t => !litB (X : Int) t) := by
  refine List.filter_congr (fun t _ => ?_)
  unfold bitI
  cases litB (X : Int) t <;> rfl
theorem rn_l4 (D g T : List Int) (ho : order = D ++ (g ++ T)) (hlen : order.length = n) (hg : ∀ t, t ∈ g → 0 ≤ t ∧ t < (n : Int)) (next fresh : List Int) (hb : next.length ≤ 5000) (hf : fresh.length = n) (R : List Int)
    (hR : Ev (fun k => neonwrightref04_normal.l2 k (n : Int) l order lab out i (X : Int) (next ++ (halves (X : Int) g).flatten)
      (setAll (setAll fresh (g.filter (litB (X : Int))) (next.length : Int)) (g.filter (fun t => !litB (X : Int) t)) ((next.length + (g.filter (litB (X : Int))).length : Nat) : Int)) ((D.length + g.length : Nat) : Int)) R) :
    Ev (fun k => neonwrightref04_normal.l4 k (n : Int) l order lab out i (X : Int) next fresh (D.length : Int) ((D.length + g.length : Nat) : Int) 1) R := by
  have hle : D.length + g.length ≤ n := by rw [← hlen, ho, List.length_append, List.length_append]; omega
  have hfl := List.length_filter_le (litB (X : Int)) g
  have h0 : Ev (fun k => neonwrightref04_normal.l4 k (n : Int) l order lab out i (X : Int) (next ++ g.filter (litB (X : Int))) (setAll fresh (g.filter (litB (X : Int))) (next.length : Int)) (D.length : Int) ((D.length + g.length : Nat) : Int) 0) R := by
    have h1 := rn_l5 hn l order lab out i X D g T ho hlen hg 0 ((next.length + (g.filter (litB (X : Int))).length : Nat) : Int) (D.length : Int) R g.length 0 (by omega) (by omega) (next ++ g.filter (litB (X : Int))) (setAll fresh (g.filter (litB (X : Int))) (next.length : Int)) (by rw [List.length_append]; omega) (by rw [setAll_len]; exact hf) (by
      rw [List.drop_zero, filt0 hn, List.append_assoc, ← halves_flat]
      refine Ev.step (fun k => ?_) hR
      simp only [neonwrightref04_normal.l4]
      rw [if_neg (by rw [w64 (by omega) (by omega)]; omega)])
    refine Ev.step (fun k => ?_) h1
    simp only [neonwrightref04_normal.l4]
    rw [if_pos (by omega), List.length_append]
    rfl
  have h1 := rn_l5 hn l order lab out i X D g T ho hlen hg 1 (next.length : Int) (D.length : Int) R g.length 0 (by omega) (by omega) next fresh (by omega) hf (by
    rw [List.drop_zero, filt1 hn, show wrap64 (1 - 1) = 0 from w64 (x := 1 - 1) (by decide) (by decide)]
    exact h0)
  refine Ev.step (fun k => ?_) h1
  simp only [neonwrightref04_normal.l4]
  rw [if_pos (by omega)]
  rfl
theorem rn_l3 (D g T : List Int) (ho : order = D ++ (g ++ T)) (hlen : order.length = n) (hl2 : lab.length = n) (hr : ∀ t, t ∈ order → 0 ≤ t ∧ t < (n : Int)) (hgp : 0 < g.length) (hlab : ∀ t, t ∈ g → rd lab t = (D.length : Int))
    (hT : ∀ t T', T = t :: T' → rd lab t ≠ (D.length : Int)) (next fresh : List Int) (R : List Int)
    (hR : Ev (fun k => neonwrightref04_normal.j4 k (n : Int) l order lab out i (X : Int) next fresh (D.length : Int) ((D.length + g.length : Nat) : Int)) R) :
    ∀ d m, g.length - m = d → m ≤ g.length → Ev (fun k => neonwrightref04_normal.l3 k (n : Int) l order lab out i (X : Int) next fresh (D.length : Int) ((D.length + m : Nat) : Int)) R := by
  have hle : D.length + g.length ≤ n := by rw [← hlen, ho, List.length_append, List.length_append]; omega
  have hat : ∀ m, (hm : m < g.length) → rd order ((D.length + m : Nat) : Int) = g[m] := by
    intro m hm
    rw [rd_get _ _ (by omega)]
    subst ho
    rw [List.getElem_append_right (by omega), List.getElem_append_left (by omega)]
    congr 1
    omega
  have hmem : ∀ t, t ∈ g → t ∈ order := fun t ht => by rw [ho]; exact List.mem_append_right _ (List.mem_append_left _ ht)
  have h0 : rd order (D.length : Int) = g[0] := hat 0 hgp
  have r0 := hr _ (hmem _ (List.getElem_mem hgp))
  have l0 := hlab _ (List.getElem_mem hgp)
  intro d
  induction d with
  | zero =>
    intro m hd hm
    obtain rfl : m = g.length := by omega
    refine Ev.step (f := fun k => neonwrightref04_normal.j4 k (n : Int) l order lab out i (X : Int) next fresh (D.length : Int) ((D.length + g.length : Nat) : Int)) (fun k => ?_) hR
    simp only [neonwrightref04_normal.l3]
    by_cases he : D.length + g.length < n
    · cases hTc : T with
      | nil => rw [ho, hTc] at hlen; simp at hlen; omega
      | cons t T' =>
        have ht : rd order ((D.length + g.length : Nat) : Int) = t := by
          rw [rd_get _ _ (by omega)]
          subst ho hTc
          rw [List.getElem_append_right (by omega), List.getElem_append_right (by omega)]
          simp
        have rt := hr t (by rw [ho, hTc]; simp)
        have lt := hT t T' hTc
        rw [if_pos (by omega), if_pos (by omega), if_pos (by omega), ht, if_pos rt.1, if_pos (by omega), if_pos (by omega), if_pos (by omega), h0, if_pos r0.1, if_pos (by omega), l0, if_neg lt]
    · rw [if_neg (by omega)]
  | succ d ih =>
    intro m hd hm
    have hml : m < g.length := by omega
    have h1 := ih (m + 1) (by omega) (by omega)
    have rm := hr _ (hmem _ (List.getElem_mem hml))
    have lm := hlab _ (List.getElem_mem hml)
    refine Ev.step (fun k => ?_) h1
    simp only [neonwrightref04_normal.l3]
    rw [if_pos (by omega), if_pos (by omega), if_pos (by omega), hat m hml, if_pos rm.1, if_pos (by omega), if_pos (by omega), if_pos (by omega), h0, if_pos r0.1, if_pos (by omega), l0, lm, if_pos rfl, wcast (by omega)]
theorem rn_l2 (gs : List (List Int)) (hG : Good n gs) (ho : order = gs.flatten) (hl2 : lab.length = n) (hlab : LabAt lab 0 gs) (R : List Int)
    (hR : ∀ fresh : List Int, fresh.length = n → LabAt fresh 0 (refine1 (X : Int) gs) → Ev (fun k => neonwrightref04_normal.l6 k (n : Int) l (refine1 (X : Int) gs).flatten fresh out i (X : Int) 0 0) R) :
    ∀ (rest done : List (List Int)) (fresh : List Int), gs = done ++ rest → fresh.length = n → LabAt fresh 0 (refine1 (X : Int) done) →
    Ev (fun k => neonwrightref04_normal.l2 k (n : Int) l order lab out i (X : Int) (refine1 (X : Int) done).flatten fresh (done.flatten.length : Int)) R := by
  have hlen : order.length = n := by rw [ho]; exact hG.len
  have hr : ∀ t, t ∈ order → 0 ≤ t ∧ t < (n : Int) := fun t ht => ups_mem.1 (hG.perm.mem_iff.1 (by rw [← ho]; exact ht))
  have hnd : order.Nodup := by rw [ho]; exact hG.perm.nodup_iff.2 (ups_nodup n)
  intro rest
  induction rest with
  | nil =>
    intro done fresh hgs hf hl
    rw [List.append_nil] at hgs
    subst hgs
    have h1 := hR fresh hf hl
    refine Ev.step (fun k => ?_) h1
    simp only [neonwrightref04_normal.l2]
    rw [if_neg (by rw [hG.len]; omega)]
  | cons g rest ih =>
    intro done fresh hgs hf hl
    have hgp : 0 < g.length := hG.pos g (by rw [hgs]; simp)
    have ho2 : order = done.flatten ++ (g ++ rest.flatten) := by rw [ho, hgs, List.flatten_append, List.flatten_cons]
    have hll := hlab
    rw [hgs] at hll
    have hlt := hll.tail
    rw [Nat.zero_add] at hlt
    have hle : done.flatten.length + g.length ≤ n := by rw [← hlen, ho2, List.length_append, List.length_append]; omega
    have hnl : (refine1 (X : Int) done).flatten.length = done.flatten.length := (flatMap_perm (X : Int) done).length_eq
    have hg : ∀ t, t ∈ g → 0 ≤ t ∧ t < (n : Int) := fun t ht => hr t (by rw [ho2]; exact List.mem_append_right _ (List.mem_append_left _ ht))
    have hfl := List.length_filter_le (litB (X : Int)) g
    have hdis : ∀ t, t ∈ done.flatten → t ∉ g := by
      intro t ht hg2
      rw [ho2, List.nodup_append] at hnd
      exact hnd.2.2 t ht t (List.mem_append_left _ hg2) rfl
    have hfilt : ∀ t, t ∈ g.filter (litB (X : Int)) → t ∈ g := fun t ht => (List.mem_filter.1 ht).1
    have hfilt0 : ∀ t, t ∈ g.filter (fun t => !litB (X : Int) t) → t ∈ g := fun t ht => (List.mem_filter.1 ht).1
    have e1 : refine1 (X : Int) (done ++ [g]) = refine1 (X : Int) done ++ halves (X : Int) g := by unfold refine1; rw [List.flatMap_append, List.flatMap_singleton]
    have hnext := ih (done ++ [g]) (setAll (setAll fresh (g.filter (litB (X : Int))) ((refine1 (X : Int) done).flatten.length : Int)) (g.filter (fun t => !litB (X : Int) t)) (((refine1 (X : Int) done).flatten.length + (g.filter (litB (X : Int))).length : Nat) : Int))
      (by rw [hgs]; simp) (by rw [setAll_len, setAll_len]; exact hf) (by
        have rdf : ∀ t, 0 ≤ t → rd (setAll (setAll fresh (g.filter (litB (X : Int))) ((refine1 (X : Int) done).flatten.length : Int)) (g.filter (fun t => !litB (X : Int) t)) (((refine1 (X : Int) done).flatten.length + (g.filter (litB (X : Int))).length : Nat) : Int)) t = if t ∈ g.filter (fun t => !litB (X : Int) t) then (((refine1 (X : Int) done).flatten.length + (g.filter (litB (X : Int))).length : Nat) : Int) else if t ∈ g.filter (litB (X : Int)) then ((refine1 (X : Int) done).flatten.length : Int) else rd fresh t := by
          intro t ht
          rw [setAll_rd _ _ _ (fun u hu => by rw [setAll_len, hf]; exact hg u (hfilt0 u hu)) t ht, setAll_rd _ _ _ (fun u hu => by rw [hf]; exact hg u (hfilt u hu)) t ht]
        rw [e1]
        refine LabAt.app (hl.congr (fun t ht => ?_)) (halves_lab (fun t ht => ?_) (fun t ht => ?_))
        · have ht2 := (flatMap_perm (X : Int) done).mem_iff.1 ht
          have h0 := (hr t (by rw [ho2]; exact List.mem_append_left _ ht2)).1
          rw [rdf t h0, if_neg (fun h => hdis t ht2 (hfilt0 t h)), if_neg (fun h => hdis t ht2 (hfilt t h))]
        · have h0 := (hg t (hfilt t ht)).1
          rw [rdf t h0, if_neg, if_pos ht]
          · omega
          · intro h
            have a := (List.mem_filter.1 ht).2
            have b := (List.mem_filter.1 h).2
            rw [a] at b
            cases b
        · have h0 := (hg t (hfilt0 t ht)).1
          rw [rdf t h0, if_pos ht]
          omega)
    have e2 : (refine1 (X : Int) (done ++ [g])).flatten = (refine1 (X : Int) done).flatten ++ (halves (X : Int) g).flatten := by rw [e1, List.flatten_append]
    have e3 : (done ++ [g]).flatten.length = done.flatten.length + g.length := by simp
    rw [e2, e3] at hnext
    have h4 := rn_l4 hn l order lab out i X done.flatten g rest.flatten ho2 hlen hg (refine1 (X : Int) done).flatten fresh (by omega) hf R hnext
    have h3 := rn_l3 hn l order lab out i X done.flatten g rest.flatten ho2 hlen hl2 hr hgp hlt.1 (by
      intro t T' hT
      have h5 := hlt.2
      cases rest with
      | nil => cases hT
      | cons g2 rest2 =>
        have hg2p : 0 < g2.length := hG.pos g2 (by rw [hgs]; simp)
        cases g2 with
        | nil => cases hg2p
        | cons u us =>
          rw [List.flatten_cons, List.cons_append] at hT
          injection hT with hT1 hT2
          subst hT1
          have := h5.1 u List.mem_cons_self
          rw [this]
          omega) (refine1 (X : Int) done).flatten fresh R (by
        refine Ev.step (fun k => ?_) h4
        simp only [neonwrightref04_normal.j4]) g.length 0 (by omega) (by omega)
    refine Ev.step (fun k => ?_) h3
    simp only [neonwrightref04_normal.l2]
    rw [if_pos (by omega)]
    rfl
theorem val_app : ∀ (bs : List Bool) (b : Bool), valOf (bs ++ [b]) = valOf bs + b.toNat * 2 ^ bs.length := by
  intro bs
  induction bs with
  | nil => intro b; simp [valOf]
  | cons c bs ih =>
    intro b
    rw [List.cons_append]
    unfold valOf
    rw [ih, List.length_cons, Nat.pow_succ]
    generalize 2 ^ bs.length = p
    cases b <;> simp <;> omega
theorem rn_l6 (hlen : order.length = n) (hr : ∀ t, t ∈ order → 0 ≤ t ∧ t < (n : Int)) (hi : 0 ≤ i ∧ i ≤ 5000) (ho : out.length ≤ 5000) (R : List Int)
    (hR : Ev (fun k => neonwrightref04_normal.l1 k (n : Int) l order lab (out ++ [(valOf (order.map (litB (X : Int))) : Int)]) (i + 1)) R) :
    ∀ d m, n - m = d → m ≤ n → Ev (fun k => neonwrightref04_normal.l6 k (n : Int) l order lab out i (X : Int) (valOf ((order.take m).map (litB (X : Int))) : Int) (m : Int)) R := by
  intro d
  induction d with
  | zero =>
    intro m hd hm
    obtain rfl : m = n := by omega
    rw [List.take_of_length_le (by omega)]
    refine Ev.step (fun k => ?_) hR
    simp only [neonwrightref04_normal.l6]
    rw [if_neg (by omega), if_pos (by omega), w64 (x := i + 1) (by omega) (by omega)]
  | succ d ih =>
    intro m hd hm
    have hml : m < order.length := by omega
    have h1 := ih (m + 1) (by omega) (by omega)
    have rm := hr _ (List.getElem_mem hml)
    have hv := val_lt ((order.take m).map (litB (X : Int)))
    rw [List.length_map, List.length_take, Nat.min_eq_left (by omega)] at hv
    have hp := pow12' (n := m) (by omega)
    have hrd : rd order (m : Int) = order[m] := rd_get order m hml
    have hs : ∀ _ : Unit, wrap64 ((valOf ((order.take m).map (litB (X : Int))) : Int) + shl .i64 (bitI (X : Int) order[m]) (m : Int)) = (valOf ((order.take (m + 1)).map (litB (X : Int))) : Int) := by
      intro _
      rw [List.take_succ_eq_append_getElem hml, List.map_append, List.map_singleton, val_app hn, List.length_map, List.length_take, Nat.min_eq_left (by omega)]
      unfold bitI
      cases litB (X : Int) order[m] with
      | true =>
        rw [if_pos rfl, shl1n (by omega), w64 (by omega) (by omega), Bool.toNat_true]
        omega
      | false =>
        rw [if_neg (by decide), shl0, w64 (by omega) (by omega), Bool.toNat_false]
        omega
    refine Ev.step (fun k => ?_) h1
    simp only [neonwrightref04_normal.l6]
    rw [if_pos (by omega), if_pos (by omega), if_pos (by omega), hrd, if_pos rm.1, bit_read rm.1 (by omega), hs (), w64 (x := (m : Int) + 1) (by omega) (by omega)]
    rfl
end
theorem groupsF_drop (n : Nat) (z : Int) (l : List Int) (m : Nat) : groupsF n z l = grp ((l.drop m).map (xr · z)) (groupsF n z (l.take m)) := by
  rw [groupsF_grp, groupsF_grp]
  unfold grp
  rw [← List.foldl_append, ← List.map_append, List.take_append_drop]
theorem rn_l1 {n : Nat} {l : List Int} (h : Fine n l) : ∀ d i, l.length - i = d → i ≤ l.length → ∀ lab : List Int, lab.length = n → LabAt lab 0 (groupsF n (rd l 0) (l.take i)) →
    Ev (fun k => neonwrightref04_normal.l1 k (n : Int) l (groupsF n (rd l 0) (l.take i)).flatten lab ((normalL n l).take i) (i : Int)) (normalL n l) := by
  have hl := h.le
  have hpos := h.pos
  have hn1 := h.n1
  have hn2 := h.n2
  intro d
  induction d with
  | zero =>
    intro i hd hi lab hlab hL
    obtain rfl : i = l.length := by omega
    rw [show (normalL n l).take l.length = normalL n l from List.take_of_length_le (by rw [normalL_len]; omega)]
    refine Ev.at 1 (fun k hk => ?_)
    obtain ⟨k, rfl⟩ : ∃ j, k = j + 1 := ⟨k - 1, by omega⟩
    simp only [neonwrightref04_normal.l1]
    rw [if_neg (by omega)]
  | succ d ih =>
    intro i hd hi lab hlab hL
    have hil : i < l.length := by omega
    have ri := h.rd i hil
    have r0 := h.rd 0 hpos
    rw [show ((0 : Nat) : Int) = 0 from rfl] at r0
    have hG := groupsF_good hn1 (rd l 0) (l.take i)
    have hG1 := groupsF_good hn1 (rd l 0) (l.take (i + 1))
    have hs : groupsF n (rd l 0) (l.take (i + 1)) = refine1 (xr (rd l (i : Int)) (rd l 0)) (groupsF n (rd l 0) (l.take i)) := by rw [take_foldl_succ _ _ _ _ hil, rd_get l i hil]
    have hX : Go.bits .xor .i64 (rd l (i : Int)) (rd l 0) = (((rd l (i : Int)).toNat ^^^ (rd l 0).toNat : Nat) : Int) := by
      have := xor64 (rd l (i : Int)).toNat (rd l 0).toNat (by omega) (by omega)
      rwa [show (((rd l (i : Int)).toNat : Nat) : Int) = rd l (i : Int) from by omega, show (((rd l 0).toNat : Nat) : Int) = rd l 0 from by omega] at this
    have hrow : (valOf ((groupsF n (rd l 0) (l.take (i + 1))).flatten.map (litB (xr (rd l (i : Int)) (rd l 0)))) : Int) = rd (normalL n l) (i : Int) := by
      rw [normal_rd hn1 l i hil, groupsF_drop n (rd l 0) l (i + 1), grp_row]
      rw [hs]
      exact const_new _ _
    have htake : (normalL n l).take (i + 1) = (normalL n l).take i ++ [rd (normalL n l) (i : Int)] := by
      rw [List.take_succ_eq_append_getElem (by rw [normalL_len]; exact hil), rd_get _ i (by rw [normalL_len]; exact hil)]
    have h2 := rn_l2 hn2 l (groupsF n (rd l 0) (l.take i)).flatten lab ((normalL n l).take i) (i : Int) ((rd l (i : Int)).toNat ^^^ (rd l 0).toNat) (groupsF n (rd l 0) (l.take i)) hG rfl hlab hL (normalL n l) (by
      intro fresh hf hL2
      rw [show ((((rd l (i : Int)).toNat ^^^ (rd l 0).toNat : Nat)) : Int) = xr (rd l (i : Int)) (rd l 0) from rfl, ← hs] at hL2
      have h1 := ih (i + 1) (by omega) (by omega) fresh hf hL2
      rw [htake, ← hrow] at h1
      have h6 := rn_l6 hn2 l (groupsF n (rd l 0) (l.take (i + 1))).flatten fresh ((normalL n l).take i) (i : Int) ((rd l (i : Int)).toNat ^^^ (rd l 0).toNat) hG1.len (fun t ht => ups_mem.1 (hG1.perm.mem_iff.1 ht)) ⟨by omega, by omega⟩ (by rw [List.length_take]; omega) (normalL n l) h1 n 0 (by omega) (by omega)
      rw [show ((((rd l (i : Int)).toNat ^^^ (rd l 0).toNat : Nat)) : Int) = xr (rd l (i : Int)) (rd l 0) from rfl, hs] at h6
      exact h6) (groupsF n (rd l 0) (l.take i)) [] (List.replicate n 0) rfl (by simp) trivial
    refine Ev.step (fun k => ?_) h2
    simp only [neonwrightref04_normal.l1]
    rw [if_pos (by omega), if_pos (by omega), if_pos (by omega), if_pos (by omega), if_pos (by omega), hX, Int.toNat_natCast]
    rfl
theorem rn_l0 {n : Nat} (hn : n ≤ 12) (l lab : List Int) (R : List Int) (hR : Ev (fun k => neonwrightref04_normal.l1 k (n : Int) l (ups n) lab [] 0) R) :
    ∀ d t, n - t = d → t ≤ n → Ev (fun k => neonwrightref04_normal.l0 k (n : Int) l (ups t) lab (t : Int)) R := by
  intro d
  induction d with
  | zero =>
    intro t hd ht
    obtain rfl : t = n := by omega
    refine Ev.step (fun k => ?_) hR
    simp only [neonwrightref04_normal.l0]
    rw [if_neg (by omega)]
  | succ d ih =>
    intro t hd ht
    have h1 := ih (t + 1) (by omega) (by omega)
    rw [ups_succ] at h1
    refine Ev.step (fun k => ?_) h1
    simp only [neonwrightref04_normal.l0]
    rw [if_pos (by omega), if_pos (by rw [ups_len]; omega), w64 (x := (t : Int) + 1) (by omega) (by omega)]
    rfl
theorem rnormal_ev {n : Nat} {l : List Int} (h : Fine n l) : Ev (fun k => neonwrightref04_normal.f k (n : Int) l) (normalL n l) := by
  have hn2 := h.n2
  have h1 := rn_l1 h l.length 0 (by omega) (by omega) (List.replicate n 0) (by simp) (by
    show LabAt _ 0 [ups n]
    refine ⟨fun t ht => ?_, trivial⟩
    have := ups_mem.1 ht
    unfold rd
    rw [List.getD_eq_getElem?_getD]
    simp [List.getElem?_replicate]
    split <;> rfl)
  have h2 := rn_l0 hn2 l (List.replicate n 0) _ (by simpa [groupsF] using h1) n 0 (by omega) (by omega)
  refine Ev.congr (fun k => ?_) h2
  unfold neonwrightref04_normal.f
  rw [if_pos (by omega), Int.toNat_natCast, if_pos (by omega)]
  rfl
/-- What Normal and Same say. -/
def normalR (n : Int) (l : List Int) : List Int × Int := if listedN n l = 0 then (normalL n.toNat l, 0) else ([], listedN n l)
def sameR (n : Int) (a b : List Int) : Bool × Int := if listedN n a = 0 then (if listedN n b = 0 then (decide (normalL n.toNat a = normalL n.toNat b), 0) else (false, listedN n b)) else (false, listedN n a)
theorem normal_len2 {n : Nat} {l : List Int} (h : Fine n l) : (normalL n l).length ≤ 4096 := by rw [normalL_len]; exact h.le
theorem normal_small {n : Nat} {l : List Int} (h : Fine n l) : flash_normal.f (n : Int) l = some (normalL n l) := by
  have := h.n1; have := h.n2; have := h.pos; have := h.le
  unfold flash_normal.f
  rw [if_pos ⟨⟨by omega, by omega, h.pos, by omega⟩, h.small⟩, Int.toNat_natCast]
theorem normalR_f (n : Int) (l : List Int) : flash_Normal.f n l = some (normalR n l) := by
  unfold flash_Normal.f normalR
  rw [listed_f, Option.bind_some]
  by_cases hz : listedN n l = 0
  · obtain ⟨m, rfl, hf⟩ := listedN_fine hz
    rw [if_pos hz, if_pos hz, normal_small hf, Option.bind_some, Int.toNat_natCast]
  · rw [if_neg hz, if_neg hz]
theorem rnormalR_ev (n : Int) (l : List Int) : Ev (fun k => neonwrightref04_Normal.f k n l) (normalR n l) := by
  unfold neonwrightref04_Normal.f normalR
  refine Ev.bnd (states_ev n l) ?_
  by_cases hz : listedN n l = 0
  · obtain ⟨m, rfl, hf⟩ := listedN_fine hz
    rw [if_pos hz, Int.toNat_natCast]
    exact Ev.pos hz (Ev.bnd (rnormal_ev hf) (Ev.now _))
  · rw [if_neg hz]
    exact Ev.neg hz (Ev.now _)
theorem equal_l0 (a b : List Int) (hl : a.length = b.length) (hn : a.length ≤ 4611686018427387904) : ∀ d (i : Nat), i + d = a.length →
    Ev (fun k => slices_Equal_int_int.l0 k a b (a.length : Int) (i : Int)) (decide (a.drop i = b.drop i)) := by
  intro d
  induction d with
  | zero =>
    intro i h
    refine Ev.at 1 (fun k hk => ?_)
    obtain ⟨k, rfl⟩ : ∃ j, k = j + 1 := ⟨k - 1, by omega⟩
    simp only [slices_Equal_int_int.l0]
    rw [if_neg (by omega)]
    have : decide (a.drop i = b.drop i) = true := decide_eq_true (by rw [List.drop_of_length_le (by omega), List.drop_of_length_le (by omega)])
    rw [this]
  | succ d ih =>
    intro i h
    have hi : i < a.length := by omega
    have hi' : i < b.length := by omega
    have e1 : wrap64 ((i : Int) + 1) = ((i + 1 : Nat) : Int) := by rw [w64 (by omega) (by omega)]; omega
    have hs : (decide (a.drop i = b.drop i)) = (decide (a[i] = b[i]) && decide (a.drop (i + 1) = b.drop (i + 1))) := by
      rw [List.drop_eq_getElem_cons hi, List.drop_eq_getElem_cons hi']
      simp only [List.cons.injEq, Bool.decide_and]
    refine Ev.step (f := fun k => if a[i] = b[i] then slices_Equal_int_int.l0 k a b (a.length : Int) ((i + 1 : Nat) : Int) else some false) (fun k => ?_) ?_
    · simp only [slices_Equal_int_int.l0]
      rw [if_pos (by omega), if_pos (by omega), if_pos (by omega), if_pos (by omega), rd_get a i hi, rd_get b i hi', e1]
    · rw [hs]
      by_cases h1 : a[i] = b[i]
      · refine Ev.pos h1 ?_
        rw [decide_eq_true h1]
        exact ih (i + 1) (by omega)
      · refine Ev.neg h1 ?_
        rw [decide_eq_false h1]
        exact Ev.now _
theorem equal_ev (a b : List Int) (hn : a.length ≤ 4611686018427387904) (hm : b.length ≤ 4611686018427387904) : Ev (fun k => slices_Equal_int_int.f k a b) (decide (a = b)) := by
  by_cases h : a.length = b.length
  · refine Ev.congr (f := fun k => slices_Equal_int_int.l0 k a b (a.length : Int) 0) (fun k => ?_) (by simpa using equal_l0 a b h hn a.length 0 (by omega))
    simp only [slices_Equal_int_int.f]
    rw [if_pos (by omega)]
  · refine Ev.at 0 (fun k hk => ?_)
    simp only [slices_Equal_int_int.f]
    rw [if_neg (by omega), decide_eq_false (fun e => h (by rw [e]))]
theorem sameR_ev (n : Int) (a b : List Int) : Ev (fun k => flash_Same.f k n a b) (sameR n a b) := by
  unfold flash_Same.f sameR
  simp only [listed_f, Option.bind_some]
  by_cases hz : listedN n a = 0
  · obtain ⟨m, rfl, hf⟩ := listedN_fine hz
    simp only [hz, if_true]
    by_cases hy : listedN (m : Int) b = 0
    · obtain ⟨m2, e2, hg⟩ := listedN_fine hy
      have e2 : m = m2 := by omega
      subst e2
      simp only [hy, if_true]
      simp only [normal_small hf, normal_small hg, Option.bind_some, Int.toNat_natCast]
      have := normal_len2 hf
      have := normal_len2 hg
      exact Ev.bnd (equal_ev _ _ (by omega) (by omega)) (Ev.now _)
    · simp only [if_neg hy]
      exact Ev.now _
  · simp only [if_neg hz]
    exact Ev.now _
theorem rsame_l0 (a b : List Int) (hl : a.length = b.length) (hn : a.length ≤ 4611686018427387904) : ∀ d (i : Nat), i + d = a.length →
    Ev (fun k => neonwrightref04_Same.l0 k a b (i : Int)) (decide (a.drop i = b.drop i), (0 : Int)) := by
  intro d
  induction d with
  | zero =>
    intro i h
    refine Ev.at 1 (fun k hk => ?_)
    obtain ⟨k, rfl⟩ : ∃ j, k = j + 1 := ⟨k - 1, by omega⟩
    simp only [neonwrightref04_Same.l0]
    rw [if_neg (by omega)]
    have : decide (a.drop i = b.drop i) = true := decide_eq_true (by rw [List.drop_of_length_le (by omega), List.drop_of_length_le (by omega)])
    rw [this]
  | succ d ih =>
    intro i h
    have hi : i < a.length := by omega
    have hi' : i < b.length := by omega
    have e1 : wrap64 ((i : Int) + 1) = ((i + 1 : Nat) : Int) := by rw [w64 (by omega) (by omega)]; omega
    have hs : (decide (a.drop i = b.drop i)) = (decide (a[i] = b[i]) && decide (a.drop (i + 1) = b.drop (i + 1))) := by
      rw [List.drop_eq_getElem_cons hi, List.drop_eq_getElem_cons hi']
      simp only [List.cons.injEq, Bool.decide_and]
    refine Ev.step (f := fun k => if a[i] = b[i] then neonwrightref04_Same.l0 k a b ((i + 1 : Nat) : Int) else some (false, 0)) (fun k => ?_) ?_
    · simp only [neonwrightref04_Same.l0]
      rw [if_pos (by omega), if_pos (by omega), if_pos (by omega), rd_get a i hi, rd_get b i hi', e1]
    · rw [hs]
      by_cases h1 : a[i] = b[i]
      · refine Ev.pos h1 ?_
        rw [decide_eq_true h1]
        exact ih (i + 1) (by omega)
      · refine Ev.neg h1 ?_
        rw [decide_eq_false h1]
        exact Ev.now _
theorem rsameR_ev (n : Int) (a b : List Int) : Ev (fun k => neonwrightref04_Same.f k n a b) (sameR n a b) := by
  unfold neonwrightref04_Same.f
  refine Ev.bnd (states_ev n a) ?_
  unfold sameR
  by_cases hz : listedN n a = 0
  · rw [if_pos hz]
    refine Ev.pos hz (Ev.bnd (states_ev n b) ?_)
    obtain ⟨m, rfl, hf⟩ := listedN_fine hz
    by_cases hy : listedN (m : Int) b = 0
    · obtain ⟨m2, e2, hg⟩ := listedN_fine hy
      have e2 : m = m2 := by omega
      subst e2
      rw [if_pos hy, Int.toNat_natCast]
      have l1 := normalL_len m a
      have l2 := normalL_len m b
      have := hf.le
      have := hg.le
      by_cases hl : a.length = b.length
      · refine Ev.step (f := fun k => (neonwrightref04_normal.f k (m : Int) a).bind fun t369 => ((neonwrightref04_normal.f k (m : Int) b).bind fun t372 => (neonwrightref04_Same.l0 k t369 t372 0))) (fun k => ?_) (Ev.bnd (rnormal_ev hf) (Ev.bnd (rnormal_ev hg) ?_))
        · simp only [neonwrightref04_Same.j0]
          rw [if_pos hy, if_pos (by omega)]
        · simpa using rsame_l0 (normalL m a) (normalL m b) (by omega) (by omega) a.length 0 (by omega)
      · refine Ev.step (f := fun _ => some (false, (0 : Int))) (fun k => ?_) (Ev.ret ?_)
        · simp only [neonwrightref04_Same.j0]
          rw [if_pos hy, if_neg (by omega)]
        · rw [decide_eq_false]
          intro e
          rw [e] at l1
          omega
    · rw [if_neg hy]
      refine Ev.step (f := fun _ => some (false, listedN (m : Int) b)) (fun k => ?_) (Ev.now _)
      simp only [neonwrightref04_Same.j0]
      rw [if_neg hy]
  · rw [if_neg hz]
    refine Ev.neg hz ?_
    refine Ev.step (f := fun _ => some (false, listedN n a)) (fun k => ?_) (Ev.now _)
    simp only [neonwrightref04_Same.j0]
    rw [if_neg hz]
theorem normalR_len (n : Int) (l : List Int) (h : (l.length : Int) ≤ 600) : (normalR n l).1.length ≤ 600 := by
  unfold normalR
  split
  · show (normalL n.toNat l).length ≤ 600
    rw [normalL_len]; omega
  · simp
end Go.Proofs.Ytnakkdaeehglnaa.P
