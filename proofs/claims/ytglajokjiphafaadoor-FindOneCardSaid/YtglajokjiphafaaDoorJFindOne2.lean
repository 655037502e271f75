/- Several texts of this session in one file, in build order: Pf13, DClr, DDisN, DHalN, Pf16, DPure0. -/
import Derived.Test.YtglajokjiphafaaDoorJB1
import Derived.Test.YtglajokjiphafaaDoorJB2
import Derived.Test.YtglajokjiphafaaDoorJFindOne1
import Derived.Deep.RegionHeld3
namespace Go.Proofs.YtglajokjiphafaaDoor.P
open Go.RowKit Go.Proofs.YtglajokjiphafaaDoorW.PrintWords Go.Proofs.YtglajokjiphafaaDoorW.PrintLast Go.Proofs.YtglajokjiphafaaDoorW.PrintMore
attribute [local go_sem] max2_int min2_int max_two min_two max_three min_three max_four min_four   -- for this text's walks alone
set_option linter.unusedVariables false
set_option linter.unusedSimpArgs false

/-! ### neonwrightlaw05_FindOne: function 13 -/
mutual
def neonwrightlaw05_FindOne.j0 : Nat → Int → Int → List (List Int) → List Bool → Bool → Option (Bool)
  | 0, _, _, _, _, _ => none
  | k + 1, x5, x6, x7, x9, x48 => if x48 = true then (some false) else (neonwrightlaw05_FindOne.l0 k x5 x6 x7 x9 0)
def neonwrightlaw05_FindOne.l0 : Nat → Int → Int → List (List Int) → List Bool → Int → Option (Bool)
  | 0, _, _, _, _, _ => none
  | k + 1, x5, x6, x7, x9, x11 => if x11 < (x9.length : Int) then (if 0 ≤ x11 then (if ((rdOf false x9 x11) != ((Int.tmod (shr .i64 x6 x11) 2) == 1)) = true then (some false) else (neonwrightlaw05_FindOne.l0 k x5 x6 x7 x9 (wrap64 (x11 + 1)))) else (none)) else ((find_Sets.f x5 x7 x9 1).bind fun bt486 => (if bt486.2 = 0 then (neonwrightlaw05_FindOne.l1 k x5 x6 x7 bt486.1 0 0) else (some false)))
def neonwrightlaw05_FindOne.l1 : Nat → Int → Int → List (List Int) → List (List Int) → Int → Int → Option (Bool)
  | 0, _, _, _, _, _, _ => none
  | k + 1, x5, x6, x7, x12, x13, x14 => if x14 < (x12.length : Int) then (if 0 ≤ x14 then (if ((rd_L1 x12 x14).length : Int) = 1 then (if 0 < ((rd_L1 x12 x14).length : Int) then (if (rd (rd_L1 x12 x14) 0) = x6 then (neonwrightlaw05_FindOne.l1 k x5 x6 x7 x12 (wrap64 (x13 + 1)) (wrap64 (x14 + 1))) else (some false)) else (none)) else (neonwrightlaw05_FindOne.l1 k x5 x6 x7 x12 x13 (wrap64 (x14 + 1)))) else (none)) else (if x13 = 1 then (if (shr .i64 (wrap64 (x5 - 1)) (x7.length : Int)) = 0 then ((neonwrightlaw05_alive.f k).bind fun t490 => (some t490)) else (some false)) else (some false))
end
def neonwrightlaw05_FindOne.f (k : Nat) (a0 : Int) (a1 : Int) : Option (Bool) := if (wrap64 (1 + (wrap64 (Int.tmod a0 49)))) = 0 then (none) else ((find_Halves.f k (wrap64 (1 + (wrap64 (Int.tmod a0 49))))).bind fun bt474 => ((find_Outcomes.f (wrap64 (1 + (wrap64 (Int.tmod a0 49)))) bt474.1 (([Int.tmod (wrap64 (a1)) (wrap64 (1 + (wrap64 (Int.tmod a0 49))))] : List Int))).bind fun bt481 => (if bt474.2 = 0 then (if bt481.2 = 0 then (neonwrightlaw05_FindOne.j0 k (wrap64 (1 + (wrap64 (Int.tmod a0 49)))) (Int.tmod (wrap64 (a1)) (wrap64 (1 + (wrap64 (Int.tmod a0 49))))) bt474.1 bt481.1 ((bt481.1.length : Int) != (bt474.1.length : Int))) else (neonwrightlaw05_FindOne.j0 k (wrap64 (1 + (wrap64 (Int.tmod a0 49)))) (Int.tmod (wrap64 (a1)) (wrap64 (1 + (wrap64 (Int.tmod a0 49))))) bt474.1 bt481.1 true)) else (neonwrightlaw05_FindOne.j0 k (wrap64 (1 + (wrap64 (Int.tmod a0 49)))) (Int.tmod (wrap64 (a1)) (wrap64 (1 + (wrap64 (Int.tmod a0 49))))) bt474.1 bt481.1 true))))
theorem neonwrightlaw05_FindOne.mono_l : ∀ k, (∀ y0 y1 y2 y3 y4, LeO (neonwrightlaw05_FindOne.j0 k y0 y1 y2 y3 y4) (neonwrightlaw05_FindOne.j0 (k + 1) y0 y1 y2 y3 y4)) ∧ (∀ y0 y1 y2 y3 y4, LeO (neonwrightlaw05_FindOne.l0 k y0 y1 y2 y3 y4) (neonwrightlaw05_FindOne.l0 (k + 1) y0 y1 y2 y3 y4)) ∧ (∀ y0 y1 y2 y3 y4 y5, LeO (neonwrightlaw05_FindOne.l1 k y0 y1 y2 y3 y4 y5) (neonwrightlaw05_FindOne.l1 (k + 1) y0 y1 y2 y3 y4 y5))
  | 0 => ⟨fun _ _ _ _ _ r h => by simp [neonwrightlaw05_FindOne.j0] at h, fun _ _ _ _ _ r h => by simp [neonwrightlaw05_FindOne.l0] at h, fun _ _ _ _ _ _ r h => by simp [neonwrightlaw05_FindOne.l1] at h⟩
  | k + 1 => by
    obtain ⟨ih0, ih1, ih2⟩ := neonwrightlaw05_FindOne.mono_l k
    refine ⟨?_, ?_, ?_⟩
    · intro y0 y1 y2 y3 y4
      unfold neonwrightlaw05_FindOne.j0
      repeat' first
      | (with_reducible exact ih0 _ _ _ _ _)
      | (with_reducible exact ih1 _ _ _ _ _)
      | (with_reducible exact ih2 _ _ _ _ _ _)
      | (with_reducible exact find_Halves.mono _ _)
      | (with_reducible exact neonwrightlaw05_alive.mono _)
      | (with_reducible exact LeO.refl _)
      | (with_reducible exact LeO.none _)
      | (with_reducible refine LeO.ite ?_ ?_)
      | (with_reducible refine LeO.bind ?_ (fun _ => ?_))
      | exact ih0 _ _ _ _ _
      | exact ih1 _ _ _ _ _
      | exact ih2 _ _ _ _ _ _
      | exact find_Halves.mono _ _
      | exact neonwrightlaw05_alive.mono _
      | exact LeO.none _
      | refine LeO.ite ?_ ?_
      | refine LeO.bind ?_ (fun _ => ?_)
    · intro y0 y1 y2 y3 y4
      unfold neonwrightlaw05_FindOne.l0
      repeat' first
      | (with_reducible exact ih0 _ _ _ _ _)
      | (with_reducible exact ih1 _ _ _ _ _)
      | (with_reducible exact ih2 _ _ _ _ _ _)
      | (with_reducible exact find_Halves.mono _ _)
      | (with_reducible exact neonwrightlaw05_alive.mono _)
      | (with_reducible exact LeO.refl _)
      | (with_reducible exact LeO.none _)
      | (with_reducible refine LeO.ite ?_ ?_)
      | (with_reducible refine LeO.bind ?_ (fun _ => ?_))
      | exact ih0 _ _ _ _ _
      | exact ih1 _ _ _ _ _
      | exact ih2 _ _ _ _ _ _
      | exact find_Halves.mono _ _
      | exact neonwrightlaw05_alive.mono _
      | exact LeO.none _
      | refine LeO.ite ?_ ?_
      | refine LeO.bind ?_ (fun _ => ?_)
    · intro y0 y1 y2 y3 y4 y5
      unfold neonwrightlaw05_FindOne.l1
      repeat' first
      | (with_reducible exact ih0 _ _ _ _ _)
      | (with_reducible exact ih1 _ _ _ _ _)
      | (with_reducible exact ih2 _ _ _ _ _ _)
      | (with_reducible exact find_Halves.mono _ _)
      | (with_reducible exact neonwrightlaw05_alive.mono _)
      | (with_reducible exact LeO.refl _)
      | (with_reducible exact LeO.none _)
      | (with_reducible refine LeO.ite ?_ ?_)
      | (with_reducible refine LeO.bind ?_ (fun _ => ?_))
      | exact ih0 _ _ _ _ _
      | exact ih1 _ _ _ _ _
      | exact ih2 _ _ _ _ _ _
      | exact find_Halves.mono _ _
      | exact neonwrightlaw05_alive.mono _
      | exact LeO.none _
      | refine LeO.ite ?_ ?_
      | refine LeO.bind ?_ (fun _ => ?_)
theorem neonwrightlaw05_FindOne.mono : ∀ a0 a1 k, LeO (neonwrightlaw05_FindOne.f k a0 a1) (neonwrightlaw05_FindOne.f (k + 1) a0 a1) := by
  intro a0 a1 k
  obtain ⟨ih0, ih1, ih2⟩ := neonwrightlaw05_FindOne.mono_l k
  unfold neonwrightlaw05_FindOne.f
  repeat' first
      | (with_reducible exact ih0 _ _ _ _ _)
      | (with_reducible exact ih1 _ _ _ _ _)
      | (with_reducible exact ih2 _ _ _ _ _ _)
      | (with_reducible exact find_Halves.mono _ _)
      | (with_reducible exact neonwrightlaw05_alive.mono _)
      | (with_reducible exact LeO.refl _)
      | (with_reducible exact LeO.none _)
      | (with_reducible refine LeO.ite ?_ ?_)
      | (with_reducible refine LeO.bind ?_ (fun _ => ?_))
      | exact ih0 _ _ _ _ _
      | exact ih1 _ _ _ _ _
      | exact ih2 _ _ _ _ _ _
      | exact find_Halves.mono _ _
      | exact neonwrightlaw05_alive.mono _
      | exact LeO.none _
      | refine LeO.ite ?_ ?_
      | refine LeO.bind ?_ (fun _ => ?_)
set_option maxHeartbeats 8000000 in
set_option maxRecDepth 100000 in
theorem neonwrightlaw05_FindOne.calls (k : Nat) (a0 : Int) (a1 : Int) (r : Bool) (w : World) (hT : TabG w) (h : neonwrightlaw05_FindOne.f k a0 a1 = some r) :
    Calls Tryd.prog 13 #[.int .u8 a0, .int .u8 a1] w fun e w' => e = .returned (.bool r) ∧ Below w.heap.size w w' := by
  have HB := Aside0.mk (Below.refl w.heap.size w)
  have HTab := Aside0.mk hT
  clear hT
  have H : (if (wrap64 (1 + (wrap64 (Int.tmod a0 49)))) = 0 then (none) else ((find_Halves.f k (wrap64 (1 + (wrap64 (Int.tmod a0 49))))).bind fun bt474 => ((find_Outcomes.f (wrap64 (1 + (wrap64 (Int.tmod a0 49)))) bt474.1 (([Int.tmod (wrap64 (a1)) (wrap64 (1 + (wrap64 (Int.tmod a0 49))))] : List Int))).bind fun bt481 => (if bt474.2 = 0 then (if bt481.2 = 0 then (neonwrightlaw05_FindOne.j0 k (wrap64 (1 + (wrap64 (Int.tmod a0 49)))) (Int.tmod (wrap64 (a1)) (wrap64 (1 + (wrap64 (Int.tmod a0 49))))) bt474.1 bt481.1 ((bt481.1.length : Int) != (bt474.1.length : Int))) else (neonwrightlaw05_FindOne.j0 k (wrap64 (1 + (wrap64 (Int.tmod a0 49)))) (Int.tmod (wrap64 (a1)) (wrap64 (1 + (wrap64 (Int.tmod a0 49))))) bt474.1 bt481.1 true)) else (neonwrightlaw05_FindOne.j0 k (wrap64 (1 + (wrap64 (Int.tmod a0 49)))) (Int.tmod (wrap64 (a1)) (wrap64 (1 + (wrap64 (Int.tmod a0 49))))) bt474.1 bt481.1 true))))) = some r := h
  clear h
  by_cases c3 : (wrap64 (1 + (wrap64 (Int.tmod a0 49)))) = 0
  · rw [if_pos c3] at H
    exact absurd H (by simp)
  · rw [if_neg c3] at H
    have c3b0 : ((wrap64 (1 + (wrap64 (Int.tmod a0 49)))) == 0) = false := beq_eq_false_iff_ne.mpr c3
    have c3b1 : ((wrap64 (1 + (wrap64 (Int.tmod a0 49)))) != 0) = true := bne_iff_ne.mpr c3
    replace H := Option.bind_eq_some_iff.mp H
    obtain ⟨⟨t474, t475⟩, A40, H⟩ := H
    replace H : ((find_Outcomes.f (wrap64 (1 + (wrap64 (Int.tmod a0 49)))) t474 (([Int.tmod (wrap64 (a1)) (wrap64 (1 + (wrap64 (Int.tmod a0 49))))] : List Int))).bind fun bt481 => (if t475 = 0 then (if bt481.2 = 0 then (neonwrightlaw05_FindOne.j0 k (wrap64 (1 + (wrap64 (Int.tmod a0 49)))) (Int.tmod (wrap64 (a1)) (wrap64 (1 + (wrap64 (Int.tmod a0 49))))) t474 bt481.1 ((bt481.1.length : Int) != (t474.length : Int))) else (neonwrightlaw05_FindOne.j0 k (wrap64 (1 + (wrap64 (Int.tmod a0 49)))) (Int.tmod (wrap64 (a1)) (wrap64 (1 + (wrap64 (Int.tmod a0 49))))) t474 bt481.1 true)) else (neonwrightlaw05_FindOne.j0 k (wrap64 (1 + (wrap64 (Int.tmod a0 49)))) (Int.tmod (wrap64 (a1)) (wrap64 (1 + (wrap64 (Int.tmod a0 49))))) t474 bt481.1 true))) = some r := H
    have A4 := Aside0.mk A40
    clear A40
    obtain ⟨y478, hy478⟩ : ∃ y_ : List Int, y_ = (([Int.tmod (wrap64 (a1)) (wrap64 (1 + (wrap64 (Int.tmod a0 49))))] : List Int)) := ⟨_, rfl⟩
    replace H : ((find_Outcomes.f (wrap64 (1 + (wrap64 (Int.tmod a0 49)))) t474 y478).bind fun bt481 => (if t475 = 0 then (if bt481.2 = 0 then (neonwrightlaw05_FindOne.j0 k (wrap64 (1 + (wrap64 (Int.tmod a0 49)))) (Int.tmod (wrap64 (a1)) (wrap64 (1 + (wrap64 (Int.tmod a0 49))))) t474 bt481.1 ((bt481.1.length : Int) != (t474.length : Int))) else (neonwrightlaw05_FindOne.j0 k (wrap64 (1 + (wrap64 (Int.tmod a0 49)))) (Int.tmod (wrap64 (a1)) (wrap64 (1 + (wrap64 (Int.tmod a0 49))))) t474 bt481.1 true)) else (neonwrightlaw05_FindOne.j0 k (wrap64 (1 + (wrap64 (Int.tmod a0 49)))) (Int.tmod (wrap64 (a1)) (wrap64 (1 + (wrap64 (Int.tmod a0 49))))) t474 bt481.1 true))) = some r := by first | (rw [hy478]; with_reducible exact H) | (have H2_ := (Option.bind_some _ _).symm.trans H; rw [hy478]; with_reducible exact H2_) | (have H2_ := (Option.bind_some _ _).symm.trans H; with_reducible exact H2_) | with_reducible exact H | (rw [hy478]; exact H) | exact H
    have Ny478 := Aside0.mk hy478
    clear hy478
    replace H := Option.bind_eq_some_iff.mp H
    obtain ⟨⟨t481, t482⟩, A50, H⟩ := H
    replace H : (if t475 = 0 then (if t482 = 0 then (neonwrightlaw05_FindOne.j0 k (wrap64 (1 + (wrap64 (Int.tmod a0 49)))) (Int.tmod (wrap64 (a1)) (wrap64 (1 + (wrap64 (Int.tmod a0 49))))) t474 t481 ((t481.length : Int) != (t474.length : Int))) else (neonwrightlaw05_FindOne.j0 k (wrap64 (1 + (wrap64 (Int.tmod a0 49)))) (Int.tmod (wrap64 (a1)) (wrap64 (1 + (wrap64 (Int.tmod a0 49))))) t474 t481 true)) else (neonwrightlaw05_FindOne.j0 k (wrap64 (1 + (wrap64 (Int.tmod a0 49)))) (Int.tmod (wrap64 (a1)) (wrap64 (1 + (wrap64 (Int.tmod a0 49))))) t474 t481 true)) = some r := H
    have A5 := Aside0.mk A50
    clear A50
    have HC6 := Aside0.mk H
    clear H
    go_enter Tryd.func13, Tryd.ntmps13
    go_upto_region 5 with (first | (go_at_call 34; (with_reducible refine (find_Halves.calls k (wrap64 (1 + (wrap64 (Int.tmod a0 49)))) t474 t475 _ A4.out).mono ?_); rintro e w7 ⟨v476, rfl, ho0, hb⟩; have n0_ := Aside0.mk (Kd.S_lower ho0 (below_size (by repeat (first | (with_reducible first | exact HB.out | apply below_alloc | apply pw_below_drewN | apply below_drew1) | exact HB.out)))); have n1_ := Aside0.mk (below_step (by repeat (first | (with_reducible first | exact HB.out | apply below_alloc | apply pw_below_drewN | apply below_drew1) | exact HB.out)) hb); clear HB; have HO477 := n0_; have HB := n1_; clear n0_ n1_; (try clear hb); (try clear hb2); (try clear hk); (try clear hi); (try clear ho0)) | ((with_reducible refine gate_dst (N := 32) rfl ?_); (try (refine gate_guard (by rfl) ?_; dsimp only)); refine Kd.R_lit (Kd.int .i64) _ 3 ?hg (N := 32) ?hd (xs := ([Int.tmod (wrap64 (a1)) (wrap64 (1 + (wrap64 (Int.tmod a0 49))))] : List Int)) (inner := [.int .i64 (Int.tmod (wrap64 (a1)) (wrap64 (1 + (wrap64 (Int.tmod a0 49)))))]) (ok := fun _ => True) (okp := fun _ => True) ?hr ?hp (fun _ hk => hk) trivial (Below.refl _ _) (Nat.le_refl _) (by simp) ?_; (case hd => rfl); (case hg => rfl); (case hr => first | (go_simp; done) | (go_simp; rfl)); (case hp => exact (Reps.one (show Kd.M (Kd.int .i64) _ _ _ (Int.tmod (wrap64 (a1)) (wrap64 (1 + (wrap64 (Int.tmod a0 49))))) [.int .i64 (Int.tmod (wrap64 (a1)) (wrap64 (1 + (wrap64 (Int.tmod a0 49)))))] from rfl) (Reps.none _ _))); intro v479 w8 ho9 hb hg_ hnew_; clear hg_ hnew_; (first | rw [← Ny478.out] at ho9 | (simp only [Int.reduceToNat] at ho9; rw [← Ny478.out] at ho9)); have n0_ := Aside0.mk (Kd.S_elder' (by (with_reducible repeat (first | apply Kd.S_alloc | apply Kd.S_drewN | apply Kd.S_drew)); exact HO477.out) (Kd.R_base ho9) hb); have n1_ := Aside0.mk (Kd.R_lower ho9 (below_size (by repeat (first | (with_reducible first | exact HB.out | apply below_alloc | apply pw_below_drewN | apply below_drew1) | exact HB.out)))); have n2_ := Aside0.mk (below_step (by repeat (first | (with_reducible first | exact HB.out | apply below_alloc | apply pw_below_drewN | apply below_drew1) | exact HB.out)) hb); clear HO477; clear HB; have HO477 := n0_; have HO480 := n1_; have HB := n2_; clear n0_ n1_ n2_; clear hb ho9; obtain ⟨Ao10, co10, eo10⟩ := Kd.S_slice HO477.out; subst eo10; obtain ⟨Ao11, co11, eo11⟩ := Kd.R_slice HO480.out; subst eo11) | (go_at_call 25; (with_reducible refine (find_Outcomes.calls (wrap64 (1 + (wrap64 (Int.tmod a0 49)))) _ _ t474 _ _ y478 t481 t482 _ ?side1 ?side2 ?side3 ?side4 A5.out).mono ?_); (case side1 => repeat (first | exact (Kd.S_reads' HO477.out).2.2 | (with_reducible refine Kd.C_alloc ?_ _) | (with_reducible refine Kd.C_drewN ?_ _) | (with_reducible refine Kd.C_drew ?_))); (case side2 => exact (Kd.S_reads' HO477.out).2.1); (case side3 => repeat (first | exact (Kd.R_reads' HO480.out).2.2 | (with_reducible refine Kd.C_alloc ?_ _) | (with_reducible refine Kd.C_drewN ?_ _) | (with_reducible refine Kd.C_drew ?_))); (case side4 => exact (Kd.R_reads' HO480.out).2.1); rintro e w12 ⟨v483, rfl, ho0, hb⟩; have n0_ := Aside0.mk (Kd.S_below (by (with_reducible repeat (first | apply Kd.S_alloc | apply Kd.S_drewN | apply Kd.S_drew)); exact HO477.out) hb); have n1_ := Aside0.mk (Kd.R_below (by (with_reducible repeat (first | apply Kd.R_alloc | apply Kd.R_drewN | apply Kd.R_drew)); exact HO480.out) hb); have n2_ := Aside0.mk (Kd.R_lower ho0 (below_size (by repeat (first | (with_reducible first | exact HB.out | apply below_alloc | apply pw_below_drewN | apply below_drew1) | exact HB.out)))); have n3_ := Aside0.mk (below_step (by repeat (first | (with_reducible first | exact HB.out | apply below_alloc | apply pw_below_drewN | apply below_drew1) | exact HB.out)) hb); clear HO477; clear HO480; clear HB; have HO477 := n0_; have HO480 := n1_; have HO484 := n2_; have HB := n3_; clear n0_ n1_ n2_ n3_; (try clear hb); (try clear hb2); (try clear hk); (try clear hi); (try clear ho0)))
    repeat (go_quiet (first | (go_at_call 34; (with_reducible refine (find_Halves.calls k (wrap64 (1 + (wrap64 (Int.tmod a0 49)))) t474 t475 _ A4.out).mono ?_); rintro e w7 ⟨v476, rfl, ho0, hb⟩; have n0_ := Aside0.mk (Kd.S_lower ho0 (below_size (by repeat (first | (with_reducible first | exact HB.out | apply below_alloc | apply pw_below_drewN | apply below_drew1) | exact HB.out)))); have n1_ := Aside0.mk (below_step (by repeat (first | (with_reducible first | exact HB.out | apply below_alloc | apply pw_below_drewN | apply below_drew1) | exact HB.out)) hb); clear HB; have HO477 := n0_; have HB := n1_; clear n0_ n1_; (try clear hb); (try clear hb2); (try clear hk); (try clear hi); (try clear ho0)) | ((with_reducible refine gate_dst (N := 32) rfl ?_); (try (refine gate_guard (by rfl) ?_; dsimp only)); refine Kd.R_lit (Kd.int .i64) _ 3 ?hg (N := 32) ?hd (xs := ([Int.tmod (wrap64 (a1)) (wrap64 (1 + (wrap64 (Int.tmod a0 49))))] : List Int)) (inner := [.int .i64 (Int.tmod (wrap64 (a1)) (wrap64 (1 + (wrap64 (Int.tmod a0 49)))))]) (ok := fun _ => True) (okp := fun _ => True) ?hr ?hp (fun _ hk => hk) trivial (Below.refl _ _) (Nat.le_refl _) (by simp) ?_; (case hd => rfl); (case hg => rfl); (case hr => first | (go_simp; done) | (go_simp; rfl)); (case hp => exact (Reps.one (show Kd.M (Kd.int .i64) _ _ _ (Int.tmod (wrap64 (a1)) (wrap64 (1 + (wrap64 (Int.tmod a0 49))))) [.int .i64 (Int.tmod (wrap64 (a1)) (wrap64 (1 + (wrap64 (Int.tmod a0 49)))))] from rfl) (Reps.none _ _))); intro v479 w8 ho9 hb hg_ hnew_; clear hg_ hnew_; (first | rw [← Ny478.out] at ho9 | (simp only [Int.reduceToNat] at ho9; rw [← Ny478.out] at ho9)); have n0_ := Aside0.mk (Kd.S_elder' (by (with_reducible repeat (first | apply Kd.S_alloc | apply Kd.S_drewN | apply Kd.S_drew)); exact HO477.out) (Kd.R_base ho9) hb); have n1_ := Aside0.mk (Kd.R_lower ho9 (below_size (by repeat (first | (with_reducible first | exact HB.out | apply below_alloc | apply pw_below_drewN | apply below_drew1) | exact HB.out)))); have n2_ := Aside0.mk (below_step (by repeat (first | (with_reducible first | exact HB.out | apply below_alloc | apply pw_below_drewN | apply below_drew1) | exact HB.out)) hb); clear HO477; clear HB; have HO477 := n0_; have HO480 := n1_; have HB := n2_; clear n0_ n1_ n2_; clear hb ho9; obtain ⟨Ao10, co10, eo10⟩ := Kd.S_slice HO477.out; subst eo10; obtain ⟨Ao11, co11, eo11⟩ := Kd.R_slice HO480.out; subst eo11) | (go_at_call 25; (with_reducible refine (find_Outcomes.calls (wrap64 (1 + (wrap64 (Int.tmod a0 49)))) _ _ t474 _ _ y478 t481 t482 _ ?side1 ?side2 ?side3 ?side4 A5.out).mono ?_); (case side1 => repeat (first | exact (Kd.S_reads' HO477.out).2.2 | (with_reducible refine Kd.C_alloc ?_ _) | (with_reducible refine Kd.C_drewN ?_ _) | (with_reducible refine Kd.C_drew ?_))); (case side2 => exact (Kd.S_reads' HO477.out).2.1); (case side3 => repeat (first | exact (Kd.R_reads' HO480.out).2.2 | (with_reducible refine Kd.C_alloc ?_ _) | (with_reducible refine Kd.C_drewN ?_ _) | (with_reducible refine Kd.C_drew ?_))); (case side4 => exact (Kd.R_reads' HO480.out).2.1); rintro e w12 ⟨v483, rfl, ho0, hb⟩; have n0_ := Aside0.mk (Kd.S_below (by (with_reducible repeat (first | apply Kd.S_alloc | apply Kd.S_drewN | apply Kd.S_drew)); exact HO477.out) hb); have n1_ := Aside0.mk (Kd.R_below (by (with_reducible repeat (first | apply Kd.R_alloc | apply Kd.R_drewN | apply Kd.R_drew)); exact HO480.out) hb); have n2_ := Aside0.mk (Kd.R_lower ho0 (below_size (by repeat (first | (with_reducible first | exact HB.out | apply below_alloc | apply pw_below_drewN | apply below_drew1) | exact HB.out)))); have n3_ := Aside0.mk (below_step (by repeat (first | (with_reducible first | exact HB.out | apply below_alloc | apply pw_below_drewN | apply below_drew1) | exact HB.out)) hb); clear HO477; clear HO480; clear HB; have HO477 := n0_; have HO480 := n1_; have HO484 := n2_; have HB := n3_; clear n0_ n1_ n2_ n3_; (try clear hb); (try clear hb2); (try clear hk); (try clear hi); (try clear ho0))); go_upto_region 5 with (first | (go_at_call 34; (with_reducible refine (find_Halves.calls k (wrap64 (1 + (wrap64 (Int.tmod a0 49)))) t474 t475 _ A4.out).mono ?_); rintro e w7 ⟨v476, rfl, ho0, hb⟩; have n0_ := Aside0.mk (Kd.S_lower ho0 (below_size (by repeat (first | (with_reducible first | exact HB.out | apply below_alloc | apply pw_below_drewN | apply below_drew1) | exact HB.out)))); have n1_ := Aside0.mk (below_step (by repeat (first | (with_reducible first | exact HB.out | apply below_alloc | apply pw_below_drewN | apply below_drew1) | exact HB.out)) hb); clear HB; have HO477 := n0_; have HB := n1_; clear n0_ n1_; (try clear hb); (try clear hb2); (try clear hk); (try clear hi); (try clear ho0)) | ((with_reducible refine gate_dst (N := 32) rfl ?_); (try (refine gate_guard (by rfl) ?_; dsimp only)); refine Kd.R_lit (Kd.int .i64) _ 3 ?hg (N := 32) ?hd (xs := ([Int.tmod (wrap64 (a1)) (wrap64 (1 + (wrap64 (Int.tmod a0 49))))] : List Int)) (inner := [.int .i64 (Int.tmod (wrap64 (a1)) (wrap64 (1 + (wrap64 (Int.tmod a0 49)))))]) (ok := fun _ => True) (okp := fun _ => True) ?hr ?hp (fun _ hk => hk) trivial (Below.refl _ _) (Nat.le_refl _) (by simp) ?_; (case hd => rfl); (case hg => rfl); (case hr => first | (go_simp; done) | (go_simp; rfl)); (case hp => exact (Reps.one (show Kd.M (Kd.int .i64) _ _ _ (Int.tmod (wrap64 (a1)) (wrap64 (1 + (wrap64 (Int.tmod a0 49))))) [.int .i64 (Int.tmod (wrap64 (a1)) (wrap64 (1 + (wrap64 (Int.tmod a0 49)))))] from rfl) (Reps.none _ _))); intro v479 w8 ho9 hb hg_ hnew_; clear hg_ hnew_; (first | rw [← Ny478.out] at ho9 | (simp only [Int.reduceToNat] at ho9; rw [← Ny478.out] at ho9)); have n0_ := Aside0.mk (Kd.S_elder' (by (with_reducible repeat (first | apply Kd.S_alloc | apply Kd.S_drewN | apply Kd.S_drew)); exact HO477.out) (Kd.R_base ho9) hb); have n1_ := Aside0.mk (Kd.R_lower ho9 (below_size (by repeat (first | (with_reducible first | exact HB.out | apply below_alloc | apply pw_below_drewN | apply below_drew1) | exact HB.out)))); have n2_ := Aside0.mk (below_step (by repeat (first | (with_reducible first | exact HB.out | apply below_alloc | apply pw_below_drewN | apply below_drew1) | exact HB.out)) hb); clear HO477; clear HB; have HO477 := n0_; have HO480 := n1_; have HB := n2_; clear n0_ n1_ n2_; clear hb ho9; obtain ⟨Ao10, co10, eo10⟩ := Kd.S_slice HO477.out; subst eo10; obtain ⟨Ao11, co11, eo11⟩ := Kd.R_slice HO480.out; subst eo11) | (go_at_call 25; (with_reducible refine (find_Outcomes.calls (wrap64 (1 + (wrap64 (Int.tmod a0 49)))) _ _ t474 _ _ y478 t481 t482 _ ?side1 ?side2 ?side3 ?side4 A5.out).mono ?_); (case side1 => repeat (first | exact (Kd.S_reads' HO477.out).2.2 | (with_reducible refine Kd.C_alloc ?_ _) | (with_reducible refine Kd.C_drewN ?_ _) | (with_reducible refine Kd.C_drew ?_))); (case side2 => exact (Kd.S_reads' HO477.out).2.1); (case side3 => repeat (first | exact (Kd.R_reads' HO480.out).2.2 | (with_reducible refine Kd.C_alloc ?_ _) | (with_reducible refine Kd.C_drewN ?_ _) | (with_reducible refine Kd.C_drew ?_))); (case side4 => exact (Kd.R_reads' HO480.out).2.1); rintro e w12 ⟨v483, rfl, ho0, hb⟩; have n0_ := Aside0.mk (Kd.S_below (by (with_reducible repeat (first | apply Kd.S_alloc | apply Kd.S_drewN | apply Kd.S_drew)); exact HO477.out) hb); have n1_ := Aside0.mk (Kd.R_below (by (with_reducible repeat (first | apply Kd.R_alloc | apply Kd.R_drewN | apply Kd.R_drew)); exact HO480.out) hb); have n2_ := Aside0.mk (Kd.R_lower ho0 (below_size (by repeat (first | (with_reducible first | exact HB.out | apply below_alloc | apply pw_below_drewN | apply below_drew1) | exact HB.out)))); have n3_ := Aside0.mk (below_step (by repeat (first | (with_reducible first | exact HB.out | apply below_alloc | apply pw_below_drewN | apply below_drew1) | exact HB.out)) hb); clear HO477; clear HO480; clear HB; have HO477 := n0_; have HO480 := n1_; have HO484 := n2_; have HB := n3_; clear n0_ n1_ n2_ n3_; (try clear hb); (try clear hb2); (try clear hk); (try clear hi); (try clear ho0))))
    (try simp only [Act.put, List.setIfInBounds_toArray, List.set_cons_zero, List.set_cons_succ])
    go_cut [48] (fun v48 wc => ∃ (kq : Nat) (x48_5 : Bool), v48 = .bool x48_5 ∧ Aside0 (neonwrightlaw05_FindOne.j0 kq (wrap64 (1 + (wrap64 (Int.tmod a0 49)))) (Int.tmod (wrap64 (a1)) (wrap64 (1 + (wrap64 (Int.tmod a0 49))))) t474 t481 x48_5 = some r) ∧ Aside0 (kq ≤ k) ∧ Aside0 (Kd.S (Kd.slice 3 (Kd.int .i64)) 25 wc w.heap.size (fun _ => True) (.slice Ao10 t474.length co10) t474) ∧ Aside0 (Kd.R Kd.bool 4 wc w.heap.size (fun _ => True) v483 t481) ∧ Aside0 (Below w.heap.size w wc))
    case first =>
      have H := HC6.out
      clear HC6
      by_cases c13 : t475 = 0
      · rw [if_pos c13] at H
        have c13b0 : (t475 == 0) = true := beq_iff_eq.mpr c13
        have c13b1 : (t475 != 0) = false := bne_eq_false_iff_eq.mpr c13
        clear c13
        (first | rw [c13b0] | (simp only [i64_w, i32_w]; rw [c13b0]) | skip)
        by_cases c14 : t482 = 0
        · rw [if_pos c14] at H
          have c14b0 : (t482 == 0) = true := beq_iff_eq.mpr c14
          have c14b1 : (t482 != 0) = false := bne_eq_false_iff_eq.mpr c14
          clear c14
          have H' := Aside0.mk H
          clear H
          obtain ⟨Ao15, co15, eo15⟩ := Kd.R_slice HO484.out
          subst eo15
          go_wp2
          repeat (go_quiet (fail); try go_wp2)
          go_meet
          case rel => exact ⟨_, (((t481.length : Int) != (t474.length : Int))), (by first | rfl | (simp; done) | (simp [*]; done)), H', ⟨by first | omega | exact Nat.le_refl _⟩, ⟨by (with_reducible repeat (first | apply Kd.S_alloc | apply Kd.S_drewN | apply Kd.S_drew)); exact Kd.S_mono HO477.out (fun _ hk => trivial)⟩, ⟨by (with_reducible repeat (first | apply Kd.R_alloc | apply Kd.R_drewN | apply Kd.R_drew)); first | exact HO484.out | exact Kd.R_mono HO484.out (fun k_ h_ => ne_own_len h_)⟩, ⟨by repeat (first | (with_reducible first | exact HB.out | apply below_alloc | apply pw_below_drewN | apply below_drew1) | exact HB.out)⟩⟩
        · rw [if_neg c14] at H
          have c14b0 : (t482 == 0) = false := beq_eq_false_iff_ne.mpr c14
          have c14b1 : (t482 != 0) = true := bne_iff_ne.mpr c14
          have H' := Aside0.mk H
          clear H
          go_wp2
          repeat (go_quiet (fail); try go_wp2)
          go_meet
          case rel => exact ⟨_, (true), (by first | rfl | (simp; done) | (simp [*]; done)), H', ⟨by first | omega | exact Nat.le_refl _⟩, ⟨by (with_reducible repeat (first | apply Kd.S_alloc | apply Kd.S_drewN | apply Kd.S_drew)); exact Kd.S_mono HO477.out (fun _ hk => trivial)⟩, ⟨by (with_reducible repeat (first | apply Kd.R_alloc | apply Kd.R_drewN | apply Kd.R_drew)); first | exact HO484.out | exact Kd.R_mono HO484.out (fun k_ h_ => ne_own_len h_)⟩, ⟨by repeat (first | (with_reducible first | exact HB.out | apply below_alloc | apply pw_below_drewN | apply below_drew1) | exact HB.out)⟩⟩
      · rw [if_neg c13] at H
        have c13b0 : (t475 == 0) = false := beq_eq_false_iff_ne.mpr c13
        have c13b1 : (t475 != 0) = true := bne_iff_ne.mpr c13
        (first | rw [c13b0] | (simp only [i64_w, i32_w]; rw [c13b0]) | skip)
        have H' := Aside0.mk H
        clear H
        go_wp2
        repeat (go_quiet (fail); try go_wp2)
        go_meet
        case rel => exact ⟨_, (true), (by first | rfl | (simp; done) | (simp [*]; done)), H', ⟨by first | omega | exact Nat.le_refl _⟩, ⟨by (with_reducible repeat (first | apply Kd.S_alloc | apply Kd.S_drewN | apply Kd.S_drew)); exact Kd.S_mono HO477.out (fun _ hk => trivial)⟩, ⟨by (with_reducible repeat (first | apply Kd.R_alloc | apply Kd.R_drewN | apply Kd.R_drew)); first | exact HO484.out | exact Kd.R_mono HO484.out (fun k_ h_ => ne_own_len h_)⟩, ⟨by repeat (first | (with_reducible first | exact HB.out | apply below_alloc | apply pw_below_drewN | apply below_drew1) | exact HB.out)⟩⟩
    case rest =>
      clear HC6
      try clear c1
      try clear p2
      try clear c3
      try clear c3b0
      try clear c3b1
      try clear p6
      try clear c13
      try clear c13b0
      try clear c13b1
      try clear c14
      try clear c14b0
      try clear c14b1
      obtain ⟨kq, x48_5, rfl, HA, HJ5, HO_7, HO_9, HB⟩ := hcut
      cases kq with
      | zero => exact absurd HA.out (by simp [neonwrightlaw05_FindOne.j0])
      | succ kj5 =>
        have H := HA.out
        clear HA
        simp only [neonwrightlaw05_FindOne.j0] at H
        by_cases c16 : x48_5 = true
        · subst c16
          have H1 : (some false) = some r := by rw [if_pos rfl] at H; exact H
          clear H
          have H := H1
          clear H1
          obtain rfl := Option.some.inj H
          go_wp2
          repeat (go_quiet (fail); try go_wp2)
          go_ret
          exact ⟨by first | rfl | (simp [errW_none, errW_some] <;> rfl) | (simp [*, errW_none, errW_some] <;> rfl), by repeat (first | (with_reducible first | exact HB.out | apply below_alloc | apply pw_below_drewN | apply below_drew1) | exact HB.out)⟩
        · replace c16 := Bool.eq_false_iff.mpr c16
          subst c16
          have H1 : (neonwrightlaw05_FindOne.l0 kj5 (wrap64 (1 + (wrap64 (Int.tmod a0 49)))) (Int.tmod (wrap64 (a1)) (wrap64 (1 + (wrap64 (Int.tmod a0 49))))) t474 t481 0) = some r := by rw [if_neg (show ¬ (false = true) by decide)] at H; exact H
          clear H
          have H := H1
          clear H1
          have H' := Aside0.mk H
          clear H
          go_wp2
          repeat (go_quiet (fail); try go_wp2)
          go_loopg [11] kj5 (fun kq v11 w' => ∃ (x11_2 : Int), v11 = .int .i64 x11_2 ∧ Aside0 (neonwrightlaw05_FindOne.l0 kq (wrap64 (1 + (wrap64 (Int.tmod a0 49)))) (Int.tmod (wrap64 (a1)) (wrap64 (1 + (wrap64 (Int.tmod a0 49))))) t474 t481 x11_2 = some r) ∧ Aside0 (kq ≤ kj5) ∧ Aside0 (Kd.S (Kd.slice 3 (Kd.int .i64)) 25 w' w.heap.size (fun _ => True) (.slice Ao10 t474.length co10) t474) ∧ Aside0 (Kd.R Kd.bool 4 w' w.heap.size (fun _ => True) v483 t481) ∧ Aside0 (Below w.heap.size w w'))
          case atStart => exact ⟨(0), (by first | rfl | (simp; done) | (simp [*]; done)), H', ⟨Nat.le_refl _⟩, ⟨by (with_reducible repeat (first | apply Kd.S_alloc | apply Kd.S_drewN | apply Kd.S_drew)); first | exact HO_7.out | exact Kd.R_mono HO_7.out (fun k_ h_ => ne_own_len h_)⟩, ⟨by (with_reducible repeat (first | apply Kd.R_alloc | apply Kd.R_drewN | apply Kd.R_drew)); first | exact HO_9.out | exact Kd.R_mono HO_9.out (fun k_ h_ => ne_own_len h_)⟩, ⟨by repeat (first | (with_reducible first | exact HB.out | apply below_alloc | apply pw_below_drewN | apply below_drew1) | exact HB.out)⟩⟩
          case round =>
            clear H'
            try clear c1
            try clear p2
            try clear c3
            try clear c3b0
            try clear c3b1
            try clear p6
            try clear c13
            try clear c13b0
            try clear c13b1
            try clear c14
            try clear c14b0
            try clear c14b1
            try clear c16
            try clear p2
            try clear p6
            obtain ⟨x11_2, rfl, HA, HK2, HO_7, HO_9, HB⟩ := hrel
            cases gk with
            | zero => exact absurd HA.out (by simp [neonwrightlaw05_FindOne.l0])
            | succ k2 =>
              have H := HA.out
              clear HA
              simp only [neonwrightlaw05_FindOne.l0] at H
              by_cases c17 : x11_2 < (t481.length : Int)
              · rw [if_pos c17] at H
                have c17b0 : decide (x11_2 < (t481.length : Int)) = true := decide_eq_true c17
                clear c17
                by_cases c18 : 0 ≤ x11_2
                · rw [if_pos c18] at H
                  have c18b0 : decide (0 ≤ x11_2) = true := decide_eq_true c18
                  clear c18
                  have c19b0 := eq_true (of_decide_eq_true (by first | (with_reducible assumption) | assumption) : 0 ≤ x11_2)
                  obtain ⟨ji20, hji20⟩ : ∃ j_ : Int, (shr .i64 (Int.tmod (wrap64 (a1)) (wrap64 (1 + (wrap64 (Int.tmod a0 49))))) x11_2) = j_ := ⟨_, rfl⟩
                  replace H : (if ((rdOf false t481 x11_2) != ((Int.tmod (ji20) 2) == 1)) = true then (some false) else (neonwrightlaw05_FindOne.l0 k2 (wrap64 (1 + (wrap64 (Int.tmod a0 49)))) (Int.tmod (wrap64 (a1)) (wrap64 (1 + (wrap64 (Int.tmod a0 49))))) t474 t481 (wrap64 (x11_2 + 1)))) = some r := by first | (rw [hji20] at H; exact H) | (simp only [hji20] at H ⊢; exact H)
                  have hji20_ : ((Int.tmod (wrap64 (a1)) (wrap64 (1 + (wrap64 (Int.tmod a0 49))))) / 2 ^ min x11_2.toNat 64) = ji20 := hji20
                  have hji20z : x11_2 ≤ 64 → ((Int.tmod (wrap64 (a1)) (wrap64 (1 + (wrap64 (Int.tmod a0 49))))) / 2 ^ x11_2.toNat) = ji20 := shr_small hji20
                  by_cases c21 : ((rdOf false t481 x11_2) != ((Int.tmod (ji20) 2) == 1)) = true
                  · rw [if_pos c21] at H
                    have c21b0 : ((rdOf false t481 x11_2) != ((Int.tmod (ji20) 2) == 1)) = true := c21
                    (try (have c21b1 : decide ((rdOf false t481 x11_2) = ((Int.tmod (ji20) 2) == 1)) = false := by simpa using c21))
                    (try (have c21b2 : ((rdOf false t481 x11_2) == ((Int.tmod (ji20) 2) == 1)) = false := by simpa using c21))
                    (try (have c21b3 : ¬ ((rdOf false t481 x11_2) = ((Int.tmod (ji20) 2) == 1)) := by simpa using c21))
                    clear c21
                    obtain rfl := Option.some.inj H
                    obtain ⟨Ao22, co22, eo22⟩ := Kd.R_slice HO_9.out
                    subst eo22
                    have p485 : 0 ≤ (x11_2 : Int) := of_decide_eq_true (by first | (with_reducible assumption) | assumption)
                    have q485 : x11_2 < (t481.length : Int) := of_decide_eq_true (by first | (with_reducible assumption) | assumption)
                    obtain ⟨ad485, e485, hx485_0⟩ := Kd.at_bool (Kd.R_reads' HO_9.out).2.2 x11_2 p485 q485
                    cases e485
                    replace p485 := eq_true p485
                    replace q485 := eq_true q485
                    go_wp2
                    repeat (go_quiet (fail); try go_wp2)
                    go_ret
                    exact ⟨by first | rfl | (simp [errW_none, errW_some] <;> rfl) | (simp only [← hji20]; first | rfl | (simp [errW_none, errW_some] <;> rfl)) | (simp [*, errW_none, errW_some] <;> rfl), by repeat (first | (with_reducible first | exact HB.out | apply below_alloc | apply pw_below_drewN | apply below_drew1) | exact HB.out)⟩
                  · rw [if_neg c21] at H
                    have c21b0 : ((rdOf false t481 x11_2) != ((Int.tmod (ji20) 2) == 1)) = false := by simpa using c21
                    (try (have c21b1 : decide ((rdOf false t481 x11_2) = ((Int.tmod (ji20) 2) == 1)) = true := by simpa using c21))
                    (try (have c21b2 : ((rdOf false t481 x11_2) == ((Int.tmod (ji20) 2) == 1)) = true := by simpa using c21))
                    clear c21
                    have H' := Aside0.mk H
                    clear H
                    obtain ⟨Ao23, co23, eo23⟩ := Kd.R_slice HO_9.out
                    subst eo23
                    have p485 : 0 ≤ (x11_2 : Int) := of_decide_eq_true (by first | (with_reducible assumption) | assumption)
                    have q485 : x11_2 < (t481.length : Int) := of_decide_eq_true (by first | (with_reducible assumption) | assumption)
                    obtain ⟨ad485, e485, hx485_0⟩ := Kd.at_bool (Kd.R_reads' HO_9.out).2.2 x11_2 p485 q485
                    cases e485
                    replace p485 := eq_true p485
                    replace q485 := eq_true q485
                    go_wp2
                    repeat (go_quiet (fail); try go_wp2)
                    go_roundg k2
                    case measure => have := HJ5.out; have := HK2.out; omega
                    case rel => exact ⟨(wrap64 (x11_2 + 1)), (by first | rfl | (simp; done) | (simp [*]; done)), H', ⟨by have := HJ5.out; have := HK2.out; omega⟩, ⟨by (with_reducible repeat (first | apply Kd.S_alloc | apply Kd.S_drewN | apply Kd.S_drew)); first | exact HO_7.out | exact Kd.R_mono HO_7.out (fun k_ h_ => ne_own_len h_)⟩, ⟨by (with_reducible repeat (first | apply Kd.R_alloc | apply Kd.R_drewN | apply Kd.R_drew)); first | exact HO_9.out | exact Kd.R_mono HO_9.out (fun k_ h_ => ne_own_len h_)⟩, ⟨by repeat (first | (with_reducible first | exact HB.out | apply below_alloc | apply pw_below_drewN | apply below_drew1) | exact HB.out)⟩⟩
                · rw [if_neg c18] at H
                  exact absurd H (by simp)
              · rw [if_neg c17] at H
                have c17b0 : decide (x11_2 < (t481.length : Int)) = false := decide_eq_false c17
                clear c17
                replace H := Option.bind_eq_some_iff.mp H
                obtain ⟨⟨t486, t487⟩, A240, H⟩ := H
                replace H : (if t487 = 0 then (neonwrightlaw05_FindOne.l1 k2 (wrap64 (1 + (wrap64 (Int.tmod a0 49)))) (Int.tmod (wrap64 (a1)) (wrap64 (1 + (wrap64 (Int.tmod a0 49))))) t474 t486 0 0) else (some false)) = some r := H
                have A24 := Aside0.mk A240
                clear A240
                by_cases c25 : t487 = 0
                · rw [if_pos c25] at H
                  have c25b0 : (t487 == 0) = true := beq_iff_eq.mpr c25
                  have c25b1 : (t487 != 0) = false := bne_eq_false_iff_eq.mpr c25
                  clear c25
                  have H' := Aside0.mk H
                  clear H
                  obtain ⟨Ao26, co26, eo26⟩ := Kd.R_slice HO_9.out
                  subst eo26
                  go_wp2_with (first | (go_at_call 37; (with_reducible refine (find_Sets.calls (wrap64 (1 + (wrap64 (Int.tmod a0 49)))) _ _ t474 _ _ t481 1 t486 t487 _ ?side1 ?side2 ?side3 ?side4 A24.out).mono ?_); (case side1 => repeat (first | exact (Kd.S_reads' HO_7.out).2.2 | (with_reducible refine Kd.C_alloc ?_ _) | (with_reducible refine Kd.C_drewN ?_ _) | (with_reducible refine Kd.C_drew ?_))); (case side2 => exact (Kd.S_reads' HO_7.out).2.1); (case side3 => repeat (first | exact (Kd.R_reads' HO_9.out).2.2 | (with_reducible refine Kd.C_alloc ?_ _) | (with_reducible refine Kd.C_drewN ?_ _) | (with_reducible refine Kd.C_drew ?_))); (case side4 => exact (Kd.R_reads' HO_9.out).2.1); rintro e w27 ⟨v488, rfl, ho0, hb⟩; have n0_ := Aside0.mk (Kd.S_elder' (by (with_reducible repeat (first | apply Kd.S_alloc | apply Kd.S_drewN | apply Kd.S_drew)); exact HO_7.out) (Kd.S_base ho0) hb); have n1_ := Aside0.mk (Kd.R_below (by (with_reducible repeat (first | apply Kd.R_alloc | apply Kd.R_drewN | apply Kd.R_drew)); exact HO_9.out) hb); have n2_ := Aside0.mk (Kd.S_lower (Kd.S_new' ho0 (Kd.S_lt (by (with_reducible repeat (first | apply Kd.S_alloc | apply Kd.S_drewN | apply Kd.S_drew)); exact HO_7.out))) (below_size (by repeat (first | (with_reducible first | exact HB.out | apply below_alloc | apply pw_below_drewN | apply below_drew1) | exact HB.out)))); have n3_ := Aside0.mk (below_step (by repeat (first | (with_reducible first | exact HB.out | apply below_alloc | apply pw_below_drewN | apply below_drew1) | exact HB.out)) hb); clear HO_7; clear HO_9; clear HB; have HO_7 := n0_; have HO_9 := n1_; have HO489 := n2_; have HB := n3_; clear n0_ n1_ n2_ n3_; (try clear hb); (try clear hb2); (try clear hk); (try clear hi); (try clear ho0)))
                  repeat (go_quiet (first | (go_at_call 37; (with_reducible refine (find_Sets.calls (wrap64 (1 + (wrap64 (Int.tmod a0 49)))) _ _ t474 _ _ t481 1 t486 t487 _ ?side1 ?side2 ?side3 ?side4 A24.out).mono ?_); (case side1 => repeat (first | exact (Kd.S_reads' HO_7.out).2.2 | (with_reducible refine Kd.C_alloc ?_ _) | (with_reducible refine Kd.C_drewN ?_ _) | (with_reducible refine Kd.C_drew ?_))); (case side2 => exact (Kd.S_reads' HO_7.out).2.1); (case side3 => repeat (first | exact (Kd.R_reads' HO_9.out).2.2 | (with_reducible refine Kd.C_alloc ?_ _) | (with_reducible refine Kd.C_drewN ?_ _) | (with_reducible refine Kd.C_drew ?_))); (case side4 => exact (Kd.R_reads' HO_9.out).2.1); rintro e w27 ⟨v488, rfl, ho0, hb⟩; have n0_ := Aside0.mk (Kd.S_elder' (by (with_reducible repeat (first | apply Kd.S_alloc | apply Kd.S_drewN | apply Kd.S_drew)); exact HO_7.out) (Kd.S_base ho0) hb); have n1_ := Aside0.mk (Kd.R_below (by (with_reducible repeat (first | apply Kd.R_alloc | apply Kd.R_drewN | apply Kd.R_drew)); exact HO_9.out) hb); have n2_ := Aside0.mk (Kd.S_lower (Kd.S_new' ho0 (Kd.S_lt (by (with_reducible repeat (first | apply Kd.S_alloc | apply Kd.S_drewN | apply Kd.S_drew)); exact HO_7.out))) (below_size (by repeat (first | (with_reducible first | exact HB.out | apply below_alloc | apply pw_below_drewN | apply below_drew1) | exact HB.out)))); have n3_ := Aside0.mk (below_step (by repeat (first | (with_reducible first | exact HB.out | apply below_alloc | apply pw_below_drewN | apply below_drew1) | exact HB.out)) hb); clear HO_7; clear HO_9; clear HB; have HO_7 := n0_; have HO_9 := n1_; have HO489 := n2_; have HB := n3_; clear n0_ n1_ n2_ n3_; (try clear hb); (try clear hb2); (try clear hk); (try clear hi); (try clear ho0))); try go_wp2_with (first | (go_at_call 37; (with_reducible refine (find_Sets.calls (wrap64 (1 + (wrap64 (Int.tmod a0 49)))) _ _ t474 _ _ t481 1 t486 t487 _ ?side1 ?side2 ?side3 ?side4 A24.out).mono ?_); (case side1 => repeat (first | exact (Kd.S_reads' HO_7.out).2.2 | (with_reducible refine Kd.C_alloc ?_ _) | (with_reducible refine Kd.C_drewN ?_ _) | (with_reducible refine Kd.C_drew ?_))); (case side2 => exact (Kd.S_reads' HO_7.out).2.1); (case side3 => repeat (first | exact (Kd.R_reads' HO_9.out).2.2 | (with_reducible refine Kd.C_alloc ?_ _) | (with_reducible refine Kd.C_drewN ?_ _) | (with_reducible refine Kd.C_drew ?_))); (case side4 => exact (Kd.R_reads' HO_9.out).2.1); rintro e w27 ⟨v488, rfl, ho0, hb⟩; have n0_ := Aside0.mk (Kd.S_elder' (by (with_reducible repeat (first | apply Kd.S_alloc | apply Kd.S_drewN | apply Kd.S_drew)); exact HO_7.out) (Kd.S_base ho0) hb); have n1_ := Aside0.mk (Kd.R_below (by (with_reducible repeat (first | apply Kd.R_alloc | apply Kd.R_drewN | apply Kd.R_drew)); exact HO_9.out) hb); have n2_ := Aside0.mk (Kd.S_lower (Kd.S_new' ho0 (Kd.S_lt (by (with_reducible repeat (first | apply Kd.S_alloc | apply Kd.S_drewN | apply Kd.S_drew)); exact HO_7.out))) (below_size (by repeat (first | (with_reducible first | exact HB.out | apply below_alloc | apply pw_below_drewN | apply below_drew1) | exact HB.out)))); have n3_ := Aside0.mk (below_step (by repeat (first | (with_reducible first | exact HB.out | apply below_alloc | apply pw_below_drewN | apply below_drew1) | exact HB.out)) hb); clear HO_7; clear HO_9; clear HB; have HO_7 := n0_; have HO_9 := n1_; have HO489 := n2_; have HB := n3_; clear n0_ n1_ n2_ n3_; (try clear hb); (try clear hb2); (try clear hk); (try clear hi); (try clear ho0))))
                  go_loopg [13, 14] k2 (fun kq v13 v14 w' => ∃ (x13_3 : Int) (x14_3 : Int), v13 = .int .i64 x13_3 ∧ v14 = .int .i64 x14_3 ∧ Aside0 (neonwrightlaw05_FindOne.l1 kq (wrap64 (1 + (wrap64 (Int.tmod a0 49)))) (Int.tmod (wrap64 (a1)) (wrap64 (1 + (wrap64 (Int.tmod a0 49))))) t474 t486 x13_3 x14_3 = some r) ∧ Aside0 (kq ≤ k2) ∧ Aside0 (Kd.S (Kd.slice 3 (Kd.int .i64)) 25 w' w.heap.size (fun k_ => some k_ ≠ (v488 : Value).ownBlock) (.slice Ao10 t474.length co10) t474) ∧ Aside0 (Kd.S (Kd.slice 3 (Kd.int .i64)) 25 w' w.heap.size (fun k_ => some k_ ≠ ((.slice Ao10 t474.length co10) : Value).ownBlock) v488 t486) ∧ Aside0 (Below w.heap.size w w'))
                  case atStart => exact ⟨(0), (0), (by first | rfl | (simp; done) | (simp [*]; done)), (by first | rfl | (simp; done) | (simp [*]; done)), H', ⟨Nat.le_refl _⟩, ⟨by (with_reducible repeat (first | apply Kd.S_alloc | apply Kd.S_drewN | apply Kd.S_drew)); exact Kd.S_mono HO_7.out (fun _ hk => hk.2)⟩, ⟨by (with_reducible repeat (first | apply Kd.S_alloc | apply Kd.S_drewN | apply Kd.S_drew)); exact Kd.S_mono HO489.out (fun _ hk => hk.2)⟩, ⟨by repeat (first | (with_reducible first | exact HB.out | apply below_alloc | apply pw_below_drewN | apply below_drew1) | exact HB.out)⟩⟩
                  case round =>
                    clear H'
                    try clear c1
                    try clear c2
                    try clear p2
                    try clear c3
                    try clear c3b0
                    try clear c3b1
                    try clear p4
                    try clear q4
                    try clear hx4
                    try clear p6
                    try clear c13
                    try clear c13b0
                    try clear c13b1
                    try clear c14
                    try clear c14b0
                    try clear c14b1
                    try clear c16
                    try clear c17
                    try clear c17b0
                    try clear c18
                    try clear c18b0
                    try clear c19
                    try clear c19b0
                    try clear c21
                    try clear c21b0
                    try clear c21b1
                    try clear c21b2
                    try clear c25
                    try clear c25b0
                    try clear c25b1
                    try clear hx485_0
                    try clear p2
                    try clear p485
                    try clear p6
                    try clear q485
                    obtain ⟨x13_3, x14_3, rfl, rfl, HA, HK3, HO_7, HO_12, HB⟩ := hrel
                    cases gk with
                    | zero => exact absurd HA.out (by simp [neonwrightlaw05_FindOne.l1])
                    | succ k3 =>
                      have H := HA.out
                      clear HA
                      simp only [neonwrightlaw05_FindOne.l1] at H
                      by_cases c28 : x14_3 < (t486.length : Int)
                      · rw [if_pos c28] at H
                        have c28b0 : decide (x14_3 < (t486.length : Int)) = true := decide_eq_true c28
                        clear c28
                        by_cases c29 : 0 ≤ x14_3
                        · rw [if_pos c29] at H
                          have c29b0 : decide (0 ≤ x14_3) = true := decide_eq_true c29
                          clear c29
                          by_cases c30 : ((rd_L1 t486 x14_3).length : Int) = 1
                          · rw [if_pos c30] at H
                            have c30b0 : (((rd_L1 t486 x14_3).length : Int) == 1) = true := beq_iff_eq.mpr c30
                            have c30b1 : (((rd_L1 t486 x14_3).length : Int) != 1) = false := bne_eq_false_iff_eq.mpr c30
                            clear c30
                            by_cases c31 : 0 < ((rd_L1 t486 x14_3).length : Int)
                            · rw [if_pos c31] at H
                              have c31b0 : decide (0 < ((rd_L1 t486 x14_3).length : Int)) = true := decide_eq_true c31
                              have c31b1 : decide (0 < (rd_L1 t486 x14_3).length) = true := decide_eq_true (by omega)
                              clear c31
                              by_cases c32 : (rd (rd_L1 t486 x14_3) 0) = (Int.tmod (wrap64 (a1)) (wrap64 (1 + (wrap64 (Int.tmod a0 49)))))
                              · rw [if_pos c32] at H
                                have c32b0 : ((rd (rd_L1 t486 x14_3) 0) == (Int.tmod (wrap64 (a1)) (wrap64 (1 + (wrap64 (Int.tmod a0 49)))))) = true := beq_iff_eq.mpr c32
                                have c32b1 : ((rd (rd_L1 t486 x14_3) 0) != (Int.tmod (wrap64 (a1)) (wrap64 (1 + (wrap64 (Int.tmod a0 49)))))) = false := bne_eq_false_iff_eq.mpr c32
                                clear c32
                                have H' := Aside0.mk H
                                clear H
                                obtain ⟨Ao33, co33, eo33⟩ := Kd.S_slice HO_12.out
                                subst eo33
                                have p491 : 0 ≤ (x14_3 : Int) := of_decide_eq_true (by first | (with_reducible assumption) | assumption)
                                have q491 : x14_3 < (t486.length : Int) := of_decide_eq_true (by first | (with_reducible assumption) | assumption)
                                obtain ⟨ad491, A491_0, c491_0, e491, hx491_0, hl491_0, hi491_0⟩ := at_L1 (Kd.S_reads' HO_12.out).2.2 x14_3 p491 q491
                                cases e491
                                obtain ⟨ce491, hce491, hMe491, hcc491⟩ := Kd.S_get HO_12.out [] x14_3 p491 (by first | exact q491 | exact of_decide_eq_true (by first | (with_reducible assumption) | assumption) | (have e_ := (Kd.S_reads' HO_12.out).1; omega))
                                obtain ⟨ve491_0, rfl, ge491_0⟩ := hMe491
                                have hv491_0 := hcc491 0 _ rfl
                                rw [Nat.add_zero, show ((Kd.slice 3 (Kd.int .i64))).sz = 1 from rfl, Nat.mul_one] at hv491_0
                                replace hv491_0 := Option.some.inj (hv491_0.symm.trans hx491_0)
                                rw [hv491_0] at ge491_0
                                have HL491_0 := Aside0.mk (show Kd.R (Kd.int .i64) 3 _ _ _ _ (rd_L1 t486 x14_3) from ge491_0)
                                clear hv491_0 ge491_0
                                clear hcc491 hce491
                                have HR491_0 := Aside0.mk hi491_0
                                have HC491_0 := Aside0.mk hl491_0
                                clear hi491_0 hl491_0
                                replace p491 := eq_true p491
                                replace q491 := eq_true q491
                                have p492 : 0 ≤ (x14_3 : Int) := of_decide_eq_true (by first | (with_reducible assumption) | assumption)
                                have q492 : x14_3 < (t486.length : Int) := of_decide_eq_true (by first | (with_reducible assumption) | assumption)
                                obtain ⟨ad492, A492_0, c492_0, e492, hx492_0, hl492_0, hi492_0⟩ := at_L1 (Kd.S_reads' HO_12.out).2.2 x14_3 p492 q492
                                obtain rfl : ad491 = ad492 := (by injection e492)
                                obtain ⟨ce492, hce492, hMe492, hcc492⟩ := Kd.S_get HO_12.out [] x14_3 p492 (by first | exact q492 | exact of_decide_eq_true (by first | (with_reducible assumption) | assumption) | (have e_ := (Kd.S_reads' HO_12.out).1; omega))
                                obtain ⟨ve492_0, rfl, ge492_0⟩ := hMe492
                                have hv492_0 := hcc492 0 _ rfl
                                rw [Nat.add_zero, show ((Kd.slice 3 (Kd.int .i64))).sz = 1 from rfl, Nat.mul_one] at hv492_0
                                replace hv492_0 := Option.some.inj (hv492_0.symm.trans hx492_0)
                                rw [hv492_0] at ge492_0
                                have HL492_0 := Aside0.mk (show Kd.R (Kd.int .i64) 3 _ _ _ _ (rd_L1 t486 x14_3) from ge492_0)
                                clear hv492_0 ge492_0
                                clear hcc492 hce492
                                have HR492_0 := Aside0.mk hi492_0
                                have HC492_0 := Aside0.mk hl492_0
                                clear hi492_0 hl492_0
                                replace p492 := eq_true p492
                                replace q492 := eq_true q492
                                have ea_ := Option.some.inj (hx491_0.symm.trans hx492_0)
                                injection ea_ with ea_ en_ ec_
                                subst ea_
                                subst ec_
                                clear en_
                                have p493 : 0 ≤ (0 : Int) := (by omega)
                                have q493 : 0 < ((rd_L1 t486 x14_3).length : Int) := of_decide_eq_true (by first | (with_reducible assumption) | assumption)
                                obtain ⟨ad493, e493, hx493_0⟩ := Kd.at_int (by repeat (first | (with_reducible exact HR492_0.out) | (with_reducible refine Kd.C_alloc ?_ _) | (with_reducible refine Kd.C_drewN ?_ _) | (with_reducible refine Kd.C_drew ?_) | exact HR492_0.out)) 0 p493 q493
                                cases e493
                                have qi493 : (0 < (rd_L1 t486 x14_3).length) = True := eq_true (by omega)
                                (try rw [show ((0 : Int)).toNat = 0 from rfl] at hx493_0)
                                (try rw [Addr.add_zero'] at hx493_0)
                                replace p493 := eq_true p493
                                replace q493 := eq_true q493
                                go_wp2
                                repeat (go_quiet (fail); try go_wp2)
                                go_roundg k3
                                case measure => have := HJ5.out; have := HK2.out; have := HK3.out; omega
                                case rel => exact ⟨(wrap64 (x13_3 + 1)), (wrap64 (x14_3 + 1)), (by first | rfl | (simp; done) | (simp [*]; done)), (by first | rfl | (simp; done) | (simp [*]; done)), H', ⟨by have := HJ5.out; have := HK2.out; have := HK3.out; omega⟩, ⟨by (with_reducible repeat (first | apply Kd.S_alloc | apply Kd.S_drewN | apply Kd.S_drew)); first | exact HO_7.out | exact Kd.R_mono HO_7.out (fun k_ h_ => ne_own_len h_)⟩, ⟨by (with_reducible repeat (first | apply Kd.S_alloc | apply Kd.S_drewN | apply Kd.S_drew)); first | exact HO_12.out | exact Kd.R_mono HO_12.out (fun k_ h_ => ne_own_len h_)⟩, ⟨by repeat (first | (with_reducible first | exact HB.out | apply below_alloc | apply pw_below_drewN | apply below_drew1) | exact HB.out)⟩⟩
                              · rw [if_neg c32] at H
                                have c32b0 : ((rd (rd_L1 t486 x14_3) 0) == (Int.tmod (wrap64 (a1)) (wrap64 (1 + (wrap64 (Int.tmod a0 49)))))) = false := beq_eq_false_iff_ne.mpr c32
                                have c32b1 : ((rd (rd_L1 t486 x14_3) 0) != (Int.tmod (wrap64 (a1)) (wrap64 (1 + (wrap64 (Int.tmod a0 49)))))) = true := bne_iff_ne.mpr c32
                                obtain rfl := Option.some.inj H
                                obtain ⟨Ao34, co34, eo34⟩ := Kd.S_slice HO_12.out
                                subst eo34
                                have p491 : 0 ≤ (x14_3 : Int) := of_decide_eq_true (by first | (with_reducible assumption) | assumption)
                                have q491 : x14_3 < (t486.length : Int) := of_decide_eq_true (by first | (with_reducible assumption) | assumption)
                                obtain ⟨ad491, A491_0, c491_0, e491, hx491_0, hl491_0, hi491_0⟩ := at_L1 (Kd.S_reads' HO_12.out).2.2 x14_3 p491 q491
                                cases e491
                                obtain ⟨ce491, hce491, hMe491, hcc491⟩ := Kd.S_get HO_12.out [] x14_3 p491 (by first | exact q491 | exact of_decide_eq_true (by first | (with_reducible assumption) | assumption) | (have e_ := (Kd.S_reads' HO_12.out).1; omega))
                                obtain ⟨ve491_0, rfl, ge491_0⟩ := hMe491
                                have hv491_0 := hcc491 0 _ rfl
                                rw [Nat.add_zero, show ((Kd.slice 3 (Kd.int .i64))).sz = 1 from rfl, Nat.mul_one] at hv491_0
                                replace hv491_0 := Option.some.inj (hv491_0.symm.trans hx491_0)
                                rw [hv491_0] at ge491_0
                                have HL491_0 := Aside0.mk (show Kd.R (Kd.int .i64) 3 _ _ _ _ (rd_L1 t486 x14_3) from ge491_0)
                                clear hv491_0 ge491_0
                                clear hcc491 hce491
                                have HR491_0 := Aside0.mk hi491_0
                                have HC491_0 := Aside0.mk hl491_0
                                clear hi491_0 hl491_0
                                replace p491 := eq_true p491
                                replace q491 := eq_true q491
                                have p492 : 0 ≤ (x14_3 : Int) := of_decide_eq_true (by first | (with_reducible assumption) | assumption)
                                have q492 : x14_3 < (t486.length : Int) := of_decide_eq_true (by first | (with_reducible assumption) | assumption)
                                obtain ⟨ad492, A492_0, c492_0, e492, hx492_0, hl492_0, hi492_0⟩ := at_L1 (Kd.S_reads' HO_12.out).2.2 x14_3 p492 q492
                                obtain rfl : ad491 = ad492 := (by injection e492)
                                obtain ⟨ce492, hce492, hMe492, hcc492⟩ := Kd.S_get HO_12.out [] x14_3 p492 (by first | exact q492 | exact of_decide_eq_true (by first | (with_reducible assumption) | assumption) | (have e_ := (Kd.S_reads' HO_12.out).1; omega))
                                obtain ⟨ve492_0, rfl, ge492_0⟩ := hMe492
                                have hv492_0 := hcc492 0 _ rfl
                                rw [Nat.add_zero, show ((Kd.slice 3 (Kd.int .i64))).sz = 1 from rfl, Nat.mul_one] at hv492_0
                                replace hv492_0 := Option.some.inj (hv492_0.symm.trans hx492_0)
                                rw [hv492_0] at ge492_0
                                have HL492_0 := Aside0.mk (show Kd.R (Kd.int .i64) 3 _ _ _ _ (rd_L1 t486 x14_3) from ge492_0)
                                clear hv492_0 ge492_0
                                clear hcc492 hce492
                                have HR492_0 := Aside0.mk hi492_0
                                have HC492_0 := Aside0.mk hl492_0
                                clear hi492_0 hl492_0
                                replace p492 := eq_true p492
                                replace q492 := eq_true q492
                                have ea_ := Option.some.inj (hx491_0.symm.trans hx492_0)
                                injection ea_ with ea_ en_ ec_
                                subst ea_
                                subst ec_
                                clear en_
                                have p493 : 0 ≤ (0 : Int) := (by omega)
                                have q493 : 0 < ((rd_L1 t486 x14_3).length : Int) := of_decide_eq_true (by first | (with_reducible assumption) | assumption)
                                obtain ⟨ad493, e493, hx493_0⟩ := Kd.at_int (by repeat (first | (with_reducible exact HR492_0.out) | (with_reducible refine Kd.C_alloc ?_ _) | (with_reducible refine Kd.C_drewN ?_ _) | (with_reducible refine Kd.C_drew ?_) | exact HR492_0.out)) 0 p493 q493
                                cases e493
                                have qi493 : (0 < (rd_L1 t486 x14_3).length) = True := eq_true (by omega)
                                (try rw [show ((0 : Int)).toNat = 0 from rfl] at hx493_0)
                                (try rw [Addr.add_zero'] at hx493_0)
                                replace p493 := eq_true p493
                                replace q493 := eq_true q493
                                go_wp2
                                repeat (go_quiet (fail); try go_wp2)
                                go_ret
                                exact ⟨by first | rfl | (simp [errW_none, errW_some] <;> rfl) | (simp [*, errW_none, errW_some] <;> rfl), by repeat (first | (with_reducible first | exact HB.out | apply below_alloc | apply pw_below_drewN | apply below_drew1) | exact HB.out)⟩
                            · rw [if_neg c31] at H
                              exact absurd H (by simp)
                          · rw [if_neg c30] at H
                            have c30b0 : (((rd_L1 t486 x14_3).length : Int) == 1) = false := beq_eq_false_iff_ne.mpr c30
                            have c30b1 : (((rd_L1 t486 x14_3).length : Int) != 1) = true := bne_iff_ne.mpr c30
                            have H' := Aside0.mk H
                            clear H
                            obtain ⟨Ao35, co35, eo35⟩ := Kd.S_slice HO_12.out
                            subst eo35
                            have p491 : 0 ≤ (x14_3 : Int) := of_decide_eq_true (by first | (with_reducible assumption) | assumption)
                            have q491 : x14_3 < (t486.length : Int) := of_decide_eq_true (by first | (with_reducible assumption) | assumption)
                            obtain ⟨ad491, A491_0, c491_0, e491, hx491_0, hl491_0, hi491_0⟩ := at_L1 (Kd.S_reads' HO_12.out).2.2 x14_3 p491 q491
                            cases e491
                            obtain ⟨ce491, hce491, hMe491, hcc491⟩ := Kd.S_get HO_12.out [] x14_3 p491 (by first | exact q491 | exact of_decide_eq_true (by first | (with_reducible assumption) | assumption) | (have e_ := (Kd.S_reads' HO_12.out).1; omega))
                            obtain ⟨ve491_0, rfl, ge491_0⟩ := hMe491
                            have hv491_0 := hcc491 0 _ rfl
                            rw [Nat.add_zero, show ((Kd.slice 3 (Kd.int .i64))).sz = 1 from rfl, Nat.mul_one] at hv491_0
                            replace hv491_0 := Option.some.inj (hv491_0.symm.trans hx491_0)
                            rw [hv491_0] at ge491_0
                            have HL491_0 := Aside0.mk (show Kd.R (Kd.int .i64) 3 _ _ _ _ (rd_L1 t486 x14_3) from ge491_0)
                            clear hv491_0 ge491_0
                            clear hcc491 hce491
                            have HR491_0 := Aside0.mk hi491_0
                            have HC491_0 := Aside0.mk hl491_0
                            clear hi491_0 hl491_0
                            replace p491 := eq_true p491
                            replace q491 := eq_true q491
                            go_wp2
                            repeat (go_quiet (fail); try go_wp2)
                            go_roundg k3
                            case measure => have := HJ5.out; have := HK2.out; have := HK3.out; omega
                            case rel => exact ⟨(x13_3), (wrap64 (x14_3 + 1)), (by first | rfl | (simp; done) | (simp [*]; done)), (by first | rfl | (simp; done) | (simp [*]; done)), H', ⟨by have := HJ5.out; have := HK2.out; have := HK3.out; omega⟩, ⟨by (with_reducible repeat (first | apply Kd.S_alloc | apply Kd.S_drewN | apply Kd.S_drew)); first | exact HO_7.out | exact Kd.R_mono HO_7.out (fun k_ h_ => ne_own_len h_)⟩, ⟨by (with_reducible repeat (first | apply Kd.S_alloc | apply Kd.S_drewN | apply Kd.S_drew)); first | exact HO_12.out | exact Kd.R_mono HO_12.out (fun k_ h_ => ne_own_len h_)⟩, ⟨by repeat (first | (with_reducible first | exact HB.out | apply below_alloc | apply pw_below_drewN | apply below_drew1) | exact HB.out)⟩⟩
                        · rw [if_neg c29] at H
                          exact absurd H (by simp)
                      · rw [if_neg c28] at H
                        have c28b0 : decide (x14_3 < (t486.length : Int)) = false := decide_eq_false c28
                        clear c28
                        by_cases c36 : x13_3 = 1
                        · rw [if_pos c36] at H
                          have c36b0 : (x13_3 == 1) = true := beq_iff_eq.mpr c36
                          have c36b1 : (x13_3 != 1) = false := bne_eq_false_iff_eq.mpr c36
                          clear c36
                          obtain ⟨ji37, hji37⟩ : ∃ j_ : Int, (shr .i64 (wrap64 ((wrap64 (1 + (wrap64 (Int.tmod a0 49)))) - 1)) (t474.length : Int)) = j_ := ⟨_, rfl⟩
                          replace H : (if (ji37) = 0 then ((neonwrightlaw05_alive.f k3).bind fun t490 => (some t490)) else (some false)) = some r := by first | (rw [hji37] at H; exact H) | (simp only [hji37] at H ⊢; exact H)
                          have hji37_ : ((wrap64 ((wrap64 (1 + (wrap64 (Int.tmod a0 49)))) - 1)) / 2 ^ min (t474.length : Int).toNat 64) = ji37 := hji37
                          have hji37z : (t474.length : Int) ≤ 64 → ((wrap64 ((wrap64 (1 + (wrap64 (Int.tmod a0 49)))) - 1)) / 2 ^ (t474.length : Int).toNat) = ji37 := shr_small hji37
                          have hji37p : ((wrap64 ((wrap64 (1 + (wrap64 (Int.tmod a0 49)))) - 1)) / 2 ^ min t474.length 64) = ji37 := hji37_
                          have hji37q : (t474.length : Int) ≤ 64 → ((wrap64 ((wrap64 (1 + (wrap64 (Int.tmod a0 49)))) - 1)) / 2 ^ t474.length) = ji37 := hji37z
                          by_cases c38 : (ji37) = 0
                          · rw [if_pos c38] at H
                            have c38b0 : ((ji37) == 0) = true := beq_iff_eq.mpr c38
                            have c38b1 : ((ji37) != 0) = false := bne_eq_false_iff_eq.mpr c38
                            clear c38
                            replace H := Option.bind_eq_some_iff.mp H
                            obtain ⟨t490, A390, H⟩ := H
                            replace H : (some t490) = some r := H
                            have A39 := Aside0.mk A390
                            clear A390
                            obtain rfl := Option.some.inj H
                            obtain ⟨Ao40, co40, eo40⟩ := Kd.S_slice HO_12.out
                            subst eo40
                            go_wp2_with (first | (go_at_call 17; (with_reducible refine (neonwrightlaw05_alive.calls k3  t490 _ (HTab.out.below (by repeat (first | (with_reducible first | exact HB.out | apply below_alloc | apply pw_below_drewN | apply below_drew1) | exact HB.out))) A39.out).mono ?_); rintro e w41 ⟨rfl, hb⟩; have n0_ := Aside0.mk (Kd.S_below (by (with_reducible repeat (first | apply Kd.S_alloc | apply Kd.S_drewN | apply Kd.S_drew)); exact HO_7.out) hb); have n1_ := Aside0.mk (Kd.S_below (by (with_reducible repeat (first | apply Kd.S_alloc | apply Kd.S_drewN | apply Kd.S_drew)); exact HO_12.out) hb); have n2_ := Aside0.mk (below_step (by repeat (first | (with_reducible first | exact HB.out | apply below_alloc | apply pw_below_drewN | apply below_drew1) | exact HB.out)) hb); clear HO_7; clear HO_12; clear HB; have HO_7 := n0_; have HO_12 := n1_; have HB := n2_; clear n0_ n1_ n2_; (try clear hb); (try clear hb2); (try clear hk); (try clear hi)))
                            repeat (go_quiet (first | (go_at_call 17; (with_reducible refine (neonwrightlaw05_alive.calls k3  t490 _ (HTab.out.below (by repeat (first | (with_reducible first | exact HB.out | apply below_alloc | apply pw_below_drewN | apply below_drew1) | exact HB.out))) A39.out).mono ?_); rintro e w41 ⟨rfl, hb⟩; have n0_ := Aside0.mk (Kd.S_below (by (with_reducible repeat (first | apply Kd.S_alloc | apply Kd.S_drewN | apply Kd.S_drew)); exact HO_7.out) hb); have n1_ := Aside0.mk (Kd.S_below (by (with_reducible repeat (first | apply Kd.S_alloc | apply Kd.S_drewN | apply Kd.S_drew)); exact HO_12.out) hb); have n2_ := Aside0.mk (below_step (by repeat (first | (with_reducible first | exact HB.out | apply below_alloc | apply pw_below_drewN | apply below_drew1) | exact HB.out)) hb); clear HO_7; clear HO_12; clear HB; have HO_7 := n0_; have HO_12 := n1_; have HB := n2_; clear n0_ n1_ n2_; (try clear hb); (try clear hb2); (try clear hk); (try clear hi))); try go_wp2_with (first | (go_at_call 17; (with_reducible refine (neonwrightlaw05_alive.calls k3  t490 _ (HTab.out.below (by repeat (first | (with_reducible first | exact HB.out | apply below_alloc | apply pw_below_drewN | apply below_drew1) | exact HB.out))) A39.out).mono ?_); rintro e w41 ⟨rfl, hb⟩; have n0_ := Aside0.mk (Kd.S_below (by (with_reducible repeat (first | apply Kd.S_alloc | apply Kd.S_drewN | apply Kd.S_drew)); exact HO_7.out) hb); have n1_ := Aside0.mk (Kd.S_below (by (with_reducible repeat (first | apply Kd.S_alloc | apply Kd.S_drewN | apply Kd.S_drew)); exact HO_12.out) hb); have n2_ := Aside0.mk (below_step (by repeat (first | (with_reducible first | exact HB.out | apply below_alloc | apply pw_below_drewN | apply below_drew1) | exact HB.out)) hb); clear HO_7; clear HO_12; clear HB; have HO_7 := n0_; have HO_12 := n1_; have HB := n2_; clear n0_ n1_ n2_; (try clear hb); (try clear hb2); (try clear hk); (try clear hi))))
                            go_ret
                            exact ⟨by first | rfl | (simp [errW_none, errW_some] <;> rfl) | (simp only [← hji37]; first | rfl | (simp [errW_none, errW_some] <;> rfl)) | (simp [*, errW_none, errW_some] <;> rfl), by repeat (first | (with_reducible first | exact HB.out | apply below_alloc | apply pw_below_drewN | apply below_drew1) | exact HB.out)⟩
                          · rw [if_neg c38] at H
                            have c38b0 : ((ji37) == 0) = false := beq_eq_false_iff_ne.mpr c38
                            have c38b1 : ((ji37) != 0) = true := bne_iff_ne.mpr c38
                            obtain rfl := Option.some.inj H
                            obtain ⟨Ao42, co42, eo42⟩ := Kd.S_slice HO_12.out
                            subst eo42
                            go_wp2
                            repeat (go_quiet (fail); try go_wp2)
                            go_ret
                            exact ⟨by first | rfl | (simp [errW_none, errW_some] <;> rfl) | (simp only [← hji37]; first | rfl | (simp [errW_none, errW_some] <;> rfl)) | (simp [*, errW_none, errW_some] <;> rfl), by repeat (first | (with_reducible first | exact HB.out | apply below_alloc | apply pw_below_drewN | apply below_drew1) | exact HB.out)⟩
                        · rw [if_neg c36] at H
                          have c36b0 : (x13_3 == 1) = false := beq_eq_false_iff_ne.mpr c36
                          have c36b1 : (x13_3 != 1) = true := bne_iff_ne.mpr c36
                          obtain rfl := Option.some.inj H
                          obtain ⟨Ao43, co43, eo43⟩ := Kd.S_slice HO_12.out
                          subst eo43
                          go_wp2
                          repeat (go_quiet (fail); try go_wp2)
                          go_ret
                          exact ⟨by first | rfl | (simp [errW_none, errW_some] <;> rfl) | (simp [*, errW_none, errW_some] <;> rfl), by repeat (first | (with_reducible first | exact HB.out | apply below_alloc | apply pw_below_drewN | apply below_drew1) | exact HB.out)⟩
                · rw [if_neg c25] at H
                  have c25b0 : (t487 == 0) = false := beq_eq_false_iff_ne.mpr c25
                  have c25b1 : (t487 != 0) = true := bne_iff_ne.mpr c25
                  obtain rfl := Option.some.inj H
                  obtain ⟨Ao44, co44, eo44⟩ := Kd.R_slice HO_9.out
                  subst eo44
                  go_wp2_with (first | (go_at_call 37; (with_reducible refine (find_Sets.calls (wrap64 (1 + (wrap64 (Int.tmod a0 49)))) _ _ t474 _ _ t481 1 t486 t487 _ ?side1 ?side2 ?side3 ?side4 A24.out).mono ?_); (case side1 => repeat (first | exact (Kd.S_reads' HO_7.out).2.2 | (with_reducible refine Kd.C_alloc ?_ _) | (with_reducible refine Kd.C_drewN ?_ _) | (with_reducible refine Kd.C_drew ?_))); (case side2 => exact (Kd.S_reads' HO_7.out).2.1); (case side3 => repeat (first | exact (Kd.R_reads' HO_9.out).2.2 | (with_reducible refine Kd.C_alloc ?_ _) | (with_reducible refine Kd.C_drewN ?_ _) | (with_reducible refine Kd.C_drew ?_))); (case side4 => exact (Kd.R_reads' HO_9.out).2.1); rintro e w45 ⟨v488, rfl, ho0, hb⟩; have n0_ := Aside0.mk (Kd.S_elder' (by (with_reducible repeat (first | apply Kd.S_alloc | apply Kd.S_drewN | apply Kd.S_drew)); exact HO_7.out) (Kd.S_base ho0) hb); have n1_ := Aside0.mk (Kd.R_below (by (with_reducible repeat (first | apply Kd.R_alloc | apply Kd.R_drewN | apply Kd.R_drew)); exact HO_9.out) hb); have n2_ := Aside0.mk (Kd.S_lower (Kd.S_new' ho0 (Kd.S_lt (by (with_reducible repeat (first | apply Kd.S_alloc | apply Kd.S_drewN | apply Kd.S_drew)); exact HO_7.out))) (below_size (by repeat (first | (with_reducible first | exact HB.out | apply below_alloc | apply pw_below_drewN | apply below_drew1) | exact HB.out)))); have n3_ := Aside0.mk (below_step (by repeat (first | (with_reducible first | exact HB.out | apply below_alloc | apply pw_below_drewN | apply below_drew1) | exact HB.out)) hb); clear HO_7; clear HO_9; clear HB; have HO_7 := n0_; have HO_9 := n1_; have HO489 := n2_; have HB := n3_; clear n0_ n1_ n2_ n3_; (try clear hb); (try clear hb2); (try clear hk); (try clear hi); (try clear ho0)))
                  repeat (go_quiet (first | (go_at_call 37; (with_reducible refine (find_Sets.calls (wrap64 (1 + (wrap64 (Int.tmod a0 49)))) _ _ t474 _ _ t481 1 t486 t487 _ ?side1 ?side2 ?side3 ?side4 A24.out).mono ?_); (case side1 => repeat (first | exact (Kd.S_reads' HO_7.out).2.2 | (with_reducible refine Kd.C_alloc ?_ _) | (with_reducible refine Kd.C_drewN ?_ _) | (with_reducible refine Kd.C_drew ?_))); (case side2 => exact (Kd.S_reads' HO_7.out).2.1); (case side3 => repeat (first | exact (Kd.R_reads' HO_9.out).2.2 | (with_reducible refine Kd.C_alloc ?_ _) | (with_reducible refine Kd.C_drewN ?_ _) | (with_reducible refine Kd.C_drew ?_))); (case side4 => exact (Kd.R_reads' HO_9.out).2.1); rintro e w45 ⟨v488, rfl, ho0, hb⟩; have n0_ := Aside0.mk (Kd.S_elder' (by (with_reducible repeat (first | apply Kd.S_alloc | apply Kd.S_drewN | apply Kd.S_drew)); exact HO_7.out) (Kd.S_base ho0) hb); have n1_ := Aside0.mk (Kd.R_below (by (with_reducible repeat (first | apply Kd.R_alloc | apply Kd.R_drewN | apply Kd.R_drew)); exact HO_9.out) hb); have n2_ := Aside0.mk (Kd.S_lower (Kd.S_new' ho0 (Kd.S_lt (by (with_reducible repeat (first | apply Kd.S_alloc | apply Kd.S_drewN | apply Kd.S_drew)); exact HO_7.out))) (below_size (by repeat (first | (with_reducible first | exact HB.out | apply below_alloc | apply pw_below_drewN | apply below_drew1) | exact HB.out)))); have n3_ := Aside0.mk (below_step (by repeat (first | (with_reducible first | exact HB.out | apply below_alloc | apply pw_below_drewN | apply below_drew1) | exact HB.out)) hb); clear HO_7; clear HO_9; clear HB; have HO_7 := n0_; have HO_9 := n1_; have HO489 := n2_; have HB := n3_; clear n0_ n1_ n2_ n3_; (try clear hb); (try clear hb2); (try clear hk); (try clear hi); (try clear ho0))); try go_wp2_with (first | (go_at_call 37; (with_reducible refine (find_Sets.calls (wrap64 (1 + (wrap64 (Int.tmod a0 49)))) _ _ t474 _ _ t481 1 t486 t487 _ ?side1 ?side2 ?side3 ?side4 A24.out).mono ?_); (case side1 => repeat (first | exact (Kd.S_reads' HO_7.out).2.2 | (with_reducible refine Kd.C_alloc ?_ _) | (with_reducible refine Kd.C_drewN ?_ _) | (with_reducible refine Kd.C_drew ?_))); (case side2 => exact (Kd.S_reads' HO_7.out).2.1); (case side3 => repeat (first | exact (Kd.R_reads' HO_9.out).2.2 | (with_reducible refine Kd.C_alloc ?_ _) | (with_reducible refine Kd.C_drewN ?_ _) | (with_reducible refine Kd.C_drew ?_))); (case side4 => exact (Kd.R_reads' HO_9.out).2.1); rintro e w45 ⟨v488, rfl, ho0, hb⟩; have n0_ := Aside0.mk (Kd.S_elder' (by (with_reducible repeat (first | apply Kd.S_alloc | apply Kd.S_drewN | apply Kd.S_drew)); exact HO_7.out) (Kd.S_base ho0) hb); have n1_ := Aside0.mk (Kd.R_below (by (with_reducible repeat (first | apply Kd.R_alloc | apply Kd.R_drewN | apply Kd.R_drew)); exact HO_9.out) hb); have n2_ := Aside0.mk (Kd.S_lower (Kd.S_new' ho0 (Kd.S_lt (by (with_reducible repeat (first | apply Kd.S_alloc | apply Kd.S_drewN | apply Kd.S_drew)); exact HO_7.out))) (below_size (by repeat (first | (with_reducible first | exact HB.out | apply below_alloc | apply pw_below_drewN | apply below_drew1) | exact HB.out)))); have n3_ := Aside0.mk (below_step (by repeat (first | (with_reducible first | exact HB.out | apply below_alloc | apply pw_below_drewN | apply below_drew1) | exact HB.out)) hb); clear HO_7; clear HO_9; clear HB; have HO_7 := n0_; have HO_9 := n1_; have HO489 := n2_; have HB := n3_; clear n0_ n1_ n2_ n3_; (try clear hb); (try clear hb2); (try clear hk); (try clear hi); (try clear ho0))))
                  go_ret
                  exact ⟨by first | rfl | (simp [errW_none, errW_some] <;> rfl) | (simp [*, errW_none, errW_some] <;> rfl), by repeat (first | (with_reducible first | exact HB.out | apply below_alloc | apply pw_below_drewN | apply below_drew1) | exact HB.out)⟩

/-- THE ONE PURE STATEMENT of neonwrightlaw05_FindOne: yours. -/
def neonwrightlaw05_FindOne.Pure : Prop := ∀ (a0 : Int) (a1 : Int), (Lit.int .u8 a0).wf = true → (Lit.int .u8 a1).wf = true → ∃ k, neonwrightlaw05_FindOne.f k a0 a1 = some true

end Go.Proofs.YtglajokjiphafaaDoor.P

set_option linter.unusedSimpArgs false
set_option linter.unusedVariables false
namespace Go.Proofs.YtglajokjiphafaaDoor.P
open Go.Lib Go.RowKit Go.Proofs.YtglajokjiphafaaDoorW.PrintWords Go.Proofs.YtglajokjiphafaaDoorW.PrintLast Go.Proofs.YtglajokjiphafaaDoorW.PrintMore Go.Proofs.YtglajokjiphafaaDoor.Kit
attribute [local go_sem] max2_int min2_int max_two min_two max_three min_three max_four min_four

def clrP (n : Int) (d : List (List Int)) (o : List Bool) : List Int × List Int × Int :=
  if ofN n d = 0 then (if o.length = d.length then (clL n.toNat d o, Lib.compact (isort (aloneL d o (clL n.toNat d o))), 0) else ([], [], 2)) else ([], [], ofN n d)
def ClrPost (n : Int) (ls : List (List Int)) (o : List Bool) (w : World) (e : Ending) (w' : World) : Prop :=
  ∃ v0_ v1_ : Value, e = .returned (.tuple #[v0_, v1_, .int .i64 (clrP n ls o).2.2]) ∧ Kd.R (Kd.int .i64) 3 w' w.heap.size (fun k_ => some k_ ≠ (v1_ : Value).ownBlock) v0_ (clrP n ls o).1 ∧ Kd.R (Kd.int .i64) 3 w' w.heap.size (fun k_ => some k_ ≠ (v0_ : Value).ownBlock) v1_ (clrP n ls o).2.1 ∧ Below w.heap.size w w'
theorem clL_succ (t : Nat) (d : List (List Int)) (o : List Bool) : clL (t + 1) d o = if clB d o (t : Int) = true then clL t d o ++ [(t : Int)] else clL t d o := by
  unfold clL
  rw [List.range_succ, List.map_append, List.filter_append]
  cases h : clB d o (t : Int) <;> simp [h]
theorem clL_length (t : Nat) (d : List (List Int)) (o : List Bool) : (clL t d o).length ≤ t := by
  unfold clL
  refine Nat.le_trans (List.length_filter_le _ _) ?_
  simp
theorem aloneL_take (d : List (List Int)) (o : List Bool) (c : List Int) (i : Nat) (h1 : i < d.length) (h2 : i < o.length) :
    aloneL (d.take (i + 1)) (o.take (i + 1)) c = aloneL (d.take i) (o.take i) c ++ (aloneF c (d[i], o[i])).toList := by
  unfold aloneL
  rw [List.take_succ_eq_append_getElem h1, List.take_succ_eq_append_getElem h2, List.zip_append (by rw [List.length_take, List.length_take]; omega), List.filterMap_append]
  simp [List.filterMap_cons]
  cases aloneF c (d[i], o[i]) <;> rfl
theorem aloneL_length (d : List (List Int)) (o : List Bool) (c : List Int) : (aloneL d o c).length ≤ d.length := by
  unfold aloneL
  refine Nat.le_trans (List.length_filterMap_le _ _) ?_
  rw [List.length_zip]; omega
theorem C_block {w : World} {A : Option Addr} {l : List Bool} (h : Kd.C Kd.bool w A l.length l) : ∀ ad, A = some ad → 0 < l.length → ad.block < w.heap.size := by
  rintro ad rfl h0
  obtain ⟨ad', e, hc⟩ := h.2.2 h0
  injection e with e
  subst e
  obtain ⟨c, hs, hr, hcell⟩ := hc 0 _ (List.getElem?_eq_getElem h0)
  have h1 : 0 < c.length := by rw [hs]; exact Nat.zero_lt_one
  have h2 := hcell 0 _ (List.getElem?_eq_getElem h1)
  have hadd : ad.add 0 = ad := by simp [Addr.add]
  rw [show 0 * Kd.bool.sz + 0 = 0 by omega, hadd] at h2
  exact World.block_lt_of_cell? w _ h2
set_option maxHeartbeats 4000000
set_option maxRecDepth 100000
theorem clr_no (n : Int) (A1 : Option Addr) (c1 : Nat) (ls : List (List Int)) (A2 : Option Addr) (c2 : Nat) (o : List Bool) (w : World) (hr1 : Kd.C (Kd.slice 3 (Kd.int .i64)) w A1 ls.length ls) (hr2 : Kd.C Kd.bool w A2 o.length o) (hc2 : o.length ≤ c2) (h : ofN n ls ≠ 0 ∨ ¬ o.length = ls.length) :
    Calls Tryd.prog 38 #[.int .i64 n, .slice A1 ls.length c1, .slice A2 o.length c2] w (ClrPost n ls o w) := by
  by_cases h0 : ofN n ls = 0
  · have hD : ¬ o.length = ls.length := by rcases h with h | h; exact absurd h0 h; exact h
    have HP := Aside0.mk (show clrP n ls o = ([], [], 2) by unfold clrP; rw [if_pos h0, if_neg hD])
    have ht := told_ev ls o (ofN_ok h0).2.1 n
    rw [if_neg hD] at ht
    obtain ⟨k, hk⟩ := ht.rounds
    have HT := Aside0.mk hk
    have HO := Aside0.mk (of_ok n A1 c1 ls w hr1 h0)
    have HR2 := Aside0.mk hr2
    have HC2 := Aside0.mk hc2
    have HBk := Aside0.mk (C_block hr2)
    clear h h0 hD hr1 hr2 hc2 ht hk
    go_enter Tryd.func38, Tryd.ntmps38
    go_wp2_with (first | (go_at_call 42; (with_reducible refine (HO.out).mono ?_); rintro e w1 ⟨g, rfl, hI, hb⟩; have HB := Aside0.mk hb; have HI := Aside0.mk hI; clear hI hb) | (go_at_call 63; (refine (find_design_told.calls k g n ls A2 c2 o 0 false n w _ (by first | exact HI.out | exact HI.out.drewN _) (by first | exact HB.out | exact pw_below_drewN HB.out _) (by repeat (first | exact (Kd.C_below HR2.out HB.out) | (with_reducible refine Kd.C_alloc ?_ _) | (with_reducible refine Kd.C_drewN ?_ _) | (with_reducible refine Kd.C_drew ?_))) HC2.out (fun ad e h => by have := HBk.out ad e h; have := HI.out.ge; omega) HT.out).mono ?_); rintro e w2 ⟨rfl, _, hb2, _⟩; have HB2 := Aside0.mk hb2; clear hb2))
    go_ret3
    exact ⟨_, _, by rw [HP.out]; rfl, by rw [HP.out]; exact Kd.R_nil _ _ _ _ _, by rw [HP.out]; exact Kd.R_nil _ _ _ _ _, by repeat (first | exact HB2.out | apply pw_below_drewN | apply below_drew1)⟩
  · have e0 : (ofN n ls != 0) = true := by simpa using h0
    have e1 : (ofN n ls == 0) = false := by simpa using h0
    have HP := Aside0.mk (show clrP n ls o = ([], [], ofN n ls) by unfold clrP; rw [if_neg h0])
    have HO := Aside0.mk (of_no n A1 c1 ls _ w hr1 rfl h0)
    clear h h0 hr1 hr2 hc2
    go_enter Tryd.func38, Tryd.ntmps38
    go_wp2_with (first | (go_at_call 42; (with_reducible refine (HO.out).mono ?_); rintro e w1 ⟨rfl, hb⟩; have HB := Aside0.mk hb; clear hb))
    go_ret3
    exact ⟨_, _, by rw [HP.out]; rfl, by rw [HP.out]; exact Kd.R_nil _ _ _ _ _, by rw [HP.out]; exact Kd.R_nil _ _ _ _ _, by repeat (first | exact HB.out | apply pw_below_drewN | apply below_drew1)⟩
theorem R_moved {W W1 : World} {b : Nat} {ok : Nat → Prop} {v : Value} {xs : List Int} (h : Kd.R (Kd.int .i64) 3 W b ok v xs) (hm : ∀ k, v.ownBlock = some k → W1.heap[k]? = W.heap[k]?) : Kd.R (Kd.int .i64) 3 W1 b ok v xs := R_int_mk (R_int_own h).1 (own_move (R_int_own h).2 hm)
theorem box_put {W : World} {B : Nat} {u v : Value} {T : TypeId} (h : W.heap[B]? = some (.cells #[u] T (0, 0))) : (W.setCell ⟨B, 0, none⟩ v).heap[B]? = some (.cells #[v] T (0, 0)) := blk_put h 0 v rfl
theorem clr_yes (n : Nat) (A1 : Option Addr) (c1 : Nat) (ls : List (List Int)) (A2 : Option Addr) (c2 : Nat) (o : List Bool) (w : World) (hr1 : Kd.C (Kd.slice 3 (Kd.int .i64)) w A1 ls.length ls) (hr2 : Kd.C Kd.bool w A2 o.length o) (hc2 : o.length ≤ c2) (h0 : ofN (n : Int) ls = 0) (hol : o.length = ls.length) :
    Calls Tryd.prog 38 #[.int .i64 (n : Int), .slice A1 ls.length c1, .slice A2 o.length c2] w (ClrPost (n : Int) ls o w) := by
  have hn := (ofN_ok h0).1
  have hd := (ofN_ok h0).2.1
  have hn100 : n ≤ 100 := by omega
  have HN := Aside0.mk hn100
  have HD := Aside0.mk hd
  have HOL := Aside0.mk hol
  have HP := Aside0.mk (show clrP (n : Int) ls o = (clL n ls o, Lib.compact (isort (aloneL ls o (clL n ls o))), 0) by unfold clrP; rw [if_pos h0, if_pos hol]; rfl)
  have ht := told_ev ls o hd (n : Int)
  rw [if_pos hol] at ht
  obtain ⟨kt, hkt⟩ := ht.rounds
  have HT := Aside0.mk hkt
  have HRL := Aside0.mk (show ∀ r ∈ ls, r.length ≤ 1000 from fun r hr => by have := ris_length ((ofN_ok h0).2.2 r hr) (by omega); omega)
  have HO := Aside0.mk (of_ok (n : Int) A1 c1 ls w hr1 h0)
  have HCe := Aside0.mk (cols_ev n hn100 ls hd (ofN_rows h0) (ofN_lens h0)).rounds
  obtain ⟨k, hk⟩ := HCe.out
  have HK := Aside0.mk hk
  have HR1 := Aside0.mk hr1
  have HR2 := Aside0.mk hr2
  have HC2 := Aside0.mk hc2
  have HBk := Aside0.mk (C_block hr2)
  clear h0 hr1 hr2 hc2 hn hd hn100 HCe hk ht hkt hol
  go_enter Tryd.func38, Tryd.ntmps38
  go_wp2_with (first | (go_at_call 42; (with_reducible refine (HO.out).mono ?_); rintro e w1 ⟨g, rfl, hI, hb⟩; have HB := Aside0.mk hb; have HI := Aside0.mk hI; clear hI hb) | (go_at_call 63; (refine (find_design_told.calls kt g (n : Int) ls A2 c2 o (toldN o : Int) true (n : Int) w _ (by first | exact HI.out | exact HI.out.drewN _) (by first | exact HB.out | exact pw_below_drewN HB.out _) (by repeat (first | exact (Kd.C_below HR2.out HB.out) | (with_reducible refine Kd.C_alloc ?_ _) | (with_reducible refine Kd.C_drewN ?_ _) | (with_reducible refine Kd.C_drew ?_))) HC2.out (fun ad e h => by have := HBk.out ad e h; have := HI.out.ge; omega) HT.out).mono ?_); rintro e wt ⟨rfl, hIt, hbt, _⟩; have HIt := Aside0.mk hIt; have HBt := Aside0.mk hbt; clear hIt hbt) | (go_at_call 44; (refine (find_design_columns.calls k g (n : Int) ls (colsOf n ls) (n : Int) w _ (by repeat (first | exact HIt.out | apply IsS98.alloc | apply IsS98.drewN)) (by repeat (first | exact HBt.out | apply below_alloc | apply pw_below_drewN)) HK.out).mono ?_); rintro e w2 ⟨v0, rfl, hR2, _, hb2, hk2⟩; obtain ⟨A3, c3, rfl, hc3, hW3⟩ := Kd.R_reads hR2; have hbx := (hk2.2 wt.heap.size (by have := (Array.size_push (xs := wt.heap) (v := Obj.cells #[Value.slice none 0 0] 25)); first | exact Nat.lt_of_lt_of_le (Nat.lt_succ_self _) (Nat.le_of_eq this.symm) | omega) (by obtain ⟨_, _, hg, _⟩ := HIt.out; have := blk_lt hg; omega) (by simp)).trans (heap_alloc_new wt _); have HBX := Aside0.mk hbx; have HRC := Aside0.mk (Kd.R_lower (base' := w.heap.size) hR2 (by have h1 := HBt.out.size; have h2 := (Array.size_push (xs := wt.heap) (v := Obj.cells #[Value.slice none 0 0] 25)); first | exact Nat.le_trans h1 (Nat.le_trans (Nat.le_succ _) (Nat.le_of_eq h2.symm)) | omega)); have HC3 := Aside0.mk hc3; have HB2 := Aside0.mk hb2; have HGE := Aside0.mk HBt.out.size; clear hW3 hb2 hR2 hc3 hbx hk2))
  have HGX := Aside0.mk (show w.heap.size ≤ wt.heap.size from HGE.out)
  generalize wt.heap.size = Bc at *
  clear HIt HBt HGE HI HB HO HT HK
  go_loopw [40] (fun v40 w' => ∃ t : Nat, v40 = .int .i64 (t : Int) ∧ Aside0 (t ≤ n) ∧ Aside0 (∃ vc, w'.heap[Bc]? = some (.cells #[vc] 25 (0, 0)) ∧ Kd.R (Kd.int .i64) 3 w' w.heap.size (fun k => k ≠ Bc) vc (clL t ls o)) ∧ Aside0 (Kd.R (Kd.int .u64) 70 w' w.heap.size (fun _ => True) (.slice A3 (colsOf n ls).length c3) (colsOf n ls)) ∧ Aside0 (Below w.heap.size w w')) (fun v _ => n - (intOf v).toNat)
  case atStart => exact ⟨0, rfl, ⟨Nat.zero_le _⟩, ⟨⟨_, HBX.out, Kd.R_nil _ _ _ _ _⟩⟩, HRC, HB2⟩
  case round =>
    clear HBX HRC HB2
    obtain ⟨t, rfl, Ht, HV, HRC, HB⟩ := hrel
    obtain ⟨vc, hbx, hRv⟩ := HV.out
    clear HV
    have hcell : wr.cell? ⟨Bc, 0, none⟩ = some vc := (blk_cell hbx 0).trans rfl
    have HBX := Aside0.mk hbx
    have HRV := Aside0.mk hRv
    have hcl : (colsOf n ls).length = n := colsOf_length n ls
    by_cases ct : (t : Int) < ((colsOf n ls).length : Int)
    · have c1b : decide ((t : Int) < ((colsOf n ls).length : Int)) = true := decide_eq_true ct
      have htn : t < n := by omega
      have Hct := Aside0.mk htn
      have c1c : decide (t < n) = true := decide_eq_true htn
      have c1d : decide (t < (colsOf n ls).length) = true := decide_eq_true (by omega)
      have q1 := eq_true ct
      have q2 := eq_true (show t < (colsOf n ls).length by omega)
      obtain ⟨ad, eA, hx⟩ := Kd.at_int (Kd.R_reads' HRC.out).2.2 (t : Int) (by omega) ct
      subst eA
      rw [rd_colsOf n ls t htn, Int.toNat_natCast] at hx
      have hiff := clB_iff ls o HOL.out (t : Int)
      have hsu := clL_succ t ls o
      have hlen : (clL t ls o).length ≤ 100 := by have := clL_length t ls o; have := HN.out; omega
      have HLen := Aside0.mk hlen
      have hbit : (Go.bits .andNot .u64 (fam (t : Int) ls : Int) (toldN o : Int) != 0) = clB ls o (t : Int) := by
        rw [andnu _ _ (fam_lt64 _ (by have := HD.out; omega)) (toldN_lt64 (by have := HD.out; have := HOL.out; omega))]
        cases hb : clB ls o (t : Int) with
        | true => exact bne_iff_ne.2 (by have := hiff.1 hb; omega)
        | false =>
          have : andn (fam (t : Int) ls) (toldN o) = 0 := by
            rcases Nat.eq_zero_or_pos (andn (fam (t : Int) ls) (toldN o)) with h | h
            · exact h
            · have := hiff.2 (by omega); rw [hb] at this; cases this
          rw [this]; rfl
      clear hiff hlen hRv
      cases hb : clB ls o (t : Int) with
      | true =>
        rw [hb] at hbit
        rw [hb, if_pos rfl] at hsu
        have HSU := Aside0.mk hsu
        clear ct htn hsu hb hbx hcl
        go_wp2_with (first | ((with_reducible refine gate_builtin (b := .append) (xs := #[.tmp 49, .tmp 51]) rfl ?_); at_builtin; refine Kd.R_append (Kd.int .i64) (w0 := w) w.heap.size rfl (.tmp 49) (.tmp 51) 25 3 (.int .i64 0) 8 rfl Tryd.underlying25 info3 rfl (by decide) (by omega) vc (clL t ls o) (t : Int) [.int .i64 (t : Int)] (fun k => k ≠ Bc) (fun _ => False) rfl rfl ?aP (fun _ hk => hk.elim) ?aF ?aO ?aB ?aS ?aL ?_; (case aP => exact rfl); (case aB => exact (by repeat (first | (with_reducible first | exact HB.out | apply below_alloc | apply pw_below_drewN | apply below_drew1) | exact HB.out))); (case aF => exact (fun k hk => by have := blk_lt HBX.out; first | omega | exact fun e => absurd hk (by rw [e]; exact Nat.not_le_of_lt this))); (case aO => exact (by (with_reducible repeat (first | apply Kd.R_alloc | apply Kd.R_drewN | apply Kd.R_drew)); exact HRV.out)); (case aS => exact (below_size (by repeat (first | (with_reducible first | exact HB.out | apply below_alloc | apply pw_below_drewN | apply below_drew1) | exact HB.out)))); (case aL => have := HLen.out; omega); intro v7 w7 ho hb hg hat; rw [← HSU.out] at ho; have hbx7 := (hg.block Bc (blk_lt HBX.out) (Kd.R_away HRV.out (fun _ hk => hk))).trans HBX.out; have hc7 : w7.cell? ⟨Bc, 0, none⟩ = some vc := (blk_cell hbx7 0).trans rfl; have hf7 := blk_frozen hbx7 0; obtain ⟨A7, c7, rfl⟩ := Kd.R_slice ho; have HBX7 := Aside0.mk hbx7; have HRV7 := Aside0.mk ho; have HRC7 := Aside0.mk (Kd.R_over' (by (with_reducible repeat (first | apply Kd.R_alloc | apply Kd.R_drewN | apply Kd.R_drew)); exact HRC.out) (Kd.R_typed HRV.out) (by decide) hg); have HB7 := Aside0.mk hb; clear ho hb hg hat hbx7))
        go_roundw
        case rel => exact ⟨t + 1, by rw [wrap1 (by have := Hct.out; have := HN.out; omega)], ⟨by have := Hct.out; omega⟩, ⟨⟨_, box_put HBX7.out, Kd.R_far HRV7.out (p := ⟨Bc, 0, none⟩) (fun k hk => hk) _⟩⟩, ⟨Kd.R_set HRC7.out HBX7.out (by decide) 0 _⟩, ⟨below_set HB7.out HGX.out⟩⟩
        case measure => rw [wrap1 (by have := Hct.out; have := HN.out; omega)]; have := Hct.out; simp [intOf]; omega
      | false =>
        rw [hb] at hbit
        rw [hb, if_neg (by decide)] at hsu
        have HSU := Aside0.mk hsu
        clear ct htn hsu hb hbx hcl
        go_wp2
        go_roundw
        case rel => exact ⟨t + 1, by rw [wrap1 (by have := Hct.out; have := HN.out; omega)], ⟨by have := Hct.out; omega⟩, ⟨⟨vc, HBX.out, by rw [HSU.out]; exact HRV.out⟩⟩, HRC, HB⟩
        case measure => rw [wrap1 (by have := Hct.out; have := HN.out; omega)]; have := Hct.out; simp [intOf]; omega
    · have c1b : decide ((t : Int) < ((colsOf n ls).length : Int)) = false := decide_eq_false ct
      have c1c : decide (t < n) = false := decide_eq_false (by omega)
      have c1d : decide (t < (colsOf n ls).length) = false := decide_eq_false (by omega)
      have he : n = t := by have := Ht.out; omega
      subst he
      have HNV := Aside0.mk (Kd.R_away hRv (fun _ hk => hk))
      have HGV := Aside0.mk (Kd.R_lt hRv)
      clear ct hRv hbx HRC hcl
      go_wp2
      go_loopw [14, 56] (fun v14 v56 w' => ∃ i : Nat, v56 = .int .i64 (i : Int) ∧ Aside0 (i ≤ ls.length) ∧ Aside0 (w'.heap[Bc]? = some (.cells #[vc] 25 (0, 0)) ∧ Kd.R (Kd.int .i64) 3 w' w.heap.size (fun k => k ≠ Bc) vc (clL n ls o)) ∧ Aside0 (Kd.R (Kd.int .i64) 3 w' w.heap.size (fun k => k ≠ Bc ∧ some k ≠ vc.ownBlock) v14 (aloneL (ls.take i) (o.take i) (clL n ls o))) ∧ Aside0 (Below w.heap.size w w')) (fun _ v _ => ls.length - (intOf v).toNat)
      case atStart => exact ⟨0, rfl, ⟨Nat.zero_le _⟩, ⟨HBX.out, HRV.out⟩, ⟨Kd.R_nil _ _ _ _ _⟩, HB⟩
      case round =>
        clear HBX HRV HB hcell HNV HGV
        obtain ⟨i, rfl, Hi, HV, HRF, HB⟩ := hrel
        obtain ⟨hbx, hRv⟩ := HV.out
        clear HV
        have hcell : wr.cell? ⟨Bc, 0, none⟩ = some vc := (blk_cell hbx 0).trans rfl
        have HBX := Aside0.mk hbx
        have HRV := Aside0.mk hRv
        clear hbx hRv c1b c1c c1d
        by_cases ct : (i : Int) < (ls.length : Int)
        · have c1b : decide ((i : Int) < (ls.length : Int)) = true := decide_eq_true ct
          have hil : i < ls.length := by omega
          have Hct := Aside0.mk hil
          have c1c : decide (i < ls.length) = true := decide_eq_true hil
          have q1 := eq_true ct
          have q2 := eq_true hil
          have q3 := eq_true (show 0 ≤ (i : Int) by omega)
          obtain ⟨ad, A0, c0, eA, hx, hle, hok⟩ := at_L1 HR1.out (i : Int) (by omega) ct
          cases eA
          replace hx := (HB.out.cell (World.block_lt_of_cell? w _ hx)).trans hx
          rw [rdL_get ls i hil, Int.toNat_natCast] at hx
          rw [rdL_get ls i hil] at hok
          have HRW := Aside0.mk (Kd.C_below hok HB.out)
          have HRl := Aside0.mk (HRL.out ls[i] (List.getElem_mem hil))
          have hsu := aloneL_take ls o (clL n ls o) i hil (by have := HOL.out; omega)
          have hlen : (aloneL (ls.take i) (o.take i) (clL n ls o)).length ≤ 100 := by
            have := aloneL_length (ls.take i) (o.take i) (clL n ls o)
            rw [List.length_take] at this
            have := HD.out
            omega
          have HLen := Aside0.mk hlen
          have hbit : (Go.bits .and .u64 (toldN o : Int) (IntKind.u64.wrap (2 ^ min i 64)) != 0) = o[i]'(by have := HOL.out; omega) := by
            rw [← shl_form, andu_bit _ _ (toldN_lt64 (by have := HD.out; have := HOL.out; omega)) (by have := HD.out; omega), testBit_told]
            simp [List.getD_eq_getElem?_getD, show i < o.length by have := HOL.out; omega]
          have haf : aloneF (clL n ls o) (ls[i], o[i]'(by have := HOL.out; omega)) = if o[i]'(by have := HOL.out; omega) = true ∧ (leftL (clL n ls o) ls[i]).length = 1 then some ((leftL (clL n ls o) ls[i]).getD 0 0) else none := rfl
          clear hle hok hlen
          cases hb : o[i]'(by have := HOL.out; omega) with
          | true =>
            rw [hb] at hbit hsu haf
            by_cases hl : (leftL (clL n ls o) ls[i]).length = 1
            · rw [if_pos ⟨rfl, hl⟩] at haf
              rw [haf] at hsu
              have HSU := Aside0.mk (show aloneL (ls.take (i + 1)) (o.take (i + 1)) (clL n ls o) = aloneL (ls.take i) (o.take i) (clL n ls o) ++ [rd (leftL (clL n ls o) ls[i]) 0] from hsu)
              have hl1 : (((leftL (clL n ls o) ls[i]).length : Int) == 1) = true := beq_iff_eq.2 (by omega)
              have hl1' : ((leftL (clL n ls o) ls[i]).length == 1) = true := beq_iff_eq.2 (by omega)
              have HL0 := Aside0.mk (show (0 : Int) < ((leftL (clL n ls o) ls[i]).length : Int) by omega)
              have q4 := eq_true (show (0 : Int) < ((leftL (clL n ls o) ls[i]).length : Int) by omega)
              have q5 := eq_true (show 0 < (leftL (clL n ls o) ls[i]).length by omega)
              clear ct hb haf hsu hl
              go_wp2_with (first | (go_at_call 69; (refine (clone_calls A0 c0 ls[i] _ (by repeat (first | exact HRW.out | (with_reducible refine Kd.C_alloc ?_ _) | (with_reducible refine Kd.C_drewN ?_ _) | (with_reducible refine Kd.C_drew ?_))) HRl.out).mono ?_); rintro e w5 ⟨v5, rfl, hR5, hb5⟩; have HR5 := Aside0.mk hR5; have HB5 := Aside0.mk hb5; clear hR5 hb5) | (go_at_call 68; (refine (del_calls Bc (clL n ls o) vc w.heap.size (fun k => k ≠ Bc) _ ls[i] _ _ HB5.out HR5.out hcell HRV.out HRl.out).mono ?_); rintro e w6 ⟨v6, rfl, hR6, hb6⟩; obtain ⟨A6, c6, rfl, hle6, hC6⟩ := Kd.R_reads hR6; have hbx6 := (hb6.block Bc (blk_lt HBX.out)).trans HBX.out; have HBX6 := Aside0.mk hbx6; have HRV6 := Aside0.mk (Kd.R_below HRV.out hb6); have HRF6 := Aside0.mk (Kd.R_below HRF.out hb6); have HS6 := Aside0.mk hb6.size; have HB6 := Aside0.mk (below_step HB.out hb6); obtain ⟨ad6, e6, hx6⟩ := Kd.at_int hC6 0 (by omega) HL0.out; cases e6; simp only [Int.toNat_zero] at hx6; have hx6' := hx6; rw [show ad6.add 0 = ad6 by simp [Addr.add]] at hx6';  clear hR6 hb6 hle6 hC6 hbx6) | ((with_reducible refine gate_builtin (b := .append) (xs := #[.tmp 75, .tmp 79]) rfl ?_); at_builtin; refine Kd.R_append (Kd.int .i64) (w0 := w) w.heap.size rfl (.tmp 75) (.tmp 79) 25 3 (.int .i64 0) 8 rfl Tryd.underlying25 info3 rfl (by decide) (by omega) _ (aloneL (ls.take i) (o.take i) (clL n ls o)) (rd (leftL (clL n ls o) ls[i]) 0) [.int .i64 (rd (leftL (clL n ls o) ls[i]) 0)] (fun k => k ≠ Bc ∧ some k ≠ vc.ownBlock) (fun _ => False) rfl rfl ?aP (fun _ hk => hk.elim) ?aF ?aO ?aB ?aS ?aL ?_; (case aP => exact rfl); (case aB => exact (by repeat (first | (with_reducible first | exact HB6.out | apply below_alloc | apply pw_below_drewN | apply below_drew1) | exact HB6.out))); (case aF => exact (fun k hk => ⟨by have := blk_lt HBX6.out; first | omega | exact fun e => absurd hk (by rw [e]; exact Nat.not_le_of_lt this), fun e => by have := Kd.R_lt HRV6.out k e.symm; first | omega | exact absurd hk (Nat.not_le_of_lt this)⟩)); (case aO => exact (by (with_reducible repeat (first | apply Kd.R_alloc | apply Kd.R_drewN | apply Kd.R_drew)); exact HRF6.out)); (case aS => exact (below_size (by repeat (first | (with_reducible first | exact HB6.out | apply below_alloc | apply pw_below_drewN | apply below_drew1) | exact HB6.out)))); (case aL => have := HLen.out; omega); intro v7 w7 ho hb hg hat; rw [← HSU.out] at ho; have hbx7 := (hg.block Bc (blk_lt HBX6.out) (Kd.R_away HRF6.out (fun _ hk => hk.1))).trans HBX6.out; have HBX7 := Aside0.mk hbx7; have HRF7 := Aside0.mk ho; have HRV7 := Aside0.mk (R_moved HRV6.out (fun k hk => hg.block k (Kd.R_lt HRV6.out k hk) (fun e => (HRF6.out.1 k e.symm).2 hk.symm))); have HB7 := Aside0.mk hb; clear ho hb hg hat hbx7))
              go_roundw
              case rel => exact ⟨i + 1, by rw [wrap1 (by have := Hct.out; have := HD.out; omega)], ⟨by have := Hct.out; omega⟩, ⟨HBX7.out, HRV7.out⟩, HRF7, HB7⟩
              case measure => rw [wrap1 (by have := Hct.out; have := HD.out; omega)]; have := Hct.out; simp [intOf]; omega
            · rw [if_neg (fun h => hl h.2)] at haf
              rw [haf] at hsu
              have HSU := Aside0.mk (show aloneL (ls.take (i + 1)) (o.take (i + 1)) (clL n ls o) = aloneL (ls.take i) (o.take i) (clL n ls o) by rw [hsu]; simp)
              have hl1 : (((leftL (clL n ls o) ls[i]).length : Int) == 1) = false := beq_eq_false_iff_ne.2 (by omega)
              have hl1' : ((leftL (clL n ls o) ls[i]).length == 1) = false := beq_eq_false_iff_ne.2 (by omega)
              clear ct hb haf hsu hl
              go_wp2_with (first | (go_at_call 69; (refine (clone_calls A0 c0 ls[i] _ (by repeat (first | exact HRW.out | (with_reducible refine Kd.C_alloc ?_ _) | (with_reducible refine Kd.C_drewN ?_ _) | (with_reducible refine Kd.C_drew ?_))) HRl.out).mono ?_); rintro e w5 ⟨v5, rfl, hR5, hb5⟩; have HR5 := Aside0.mk hR5; have HB5 := Aside0.mk hb5; clear hR5 hb5) | (go_at_call 68; (refine (del_calls Bc (clL n ls o) vc w.heap.size (fun k => k ≠ Bc) _ ls[i] _ _ HB5.out HR5.out hcell HRV.out HRl.out).mono ?_); rintro e w6 ⟨v6, rfl, hR6, hb6⟩; obtain ⟨A6, c6, rfl, hle6, hC6⟩ := Kd.R_reads hR6; have hbx6 := (hb6.block Bc (blk_lt HBX.out)).trans HBX.out; have HBX6 := Aside0.mk hbx6; have HRV6 := Aside0.mk (Kd.R_below HRV.out hb6); have HRF6 := Aside0.mk (Kd.R_below HRF.out hb6); have HS6 := Aside0.mk hb6.size; have HB6 := Aside0.mk (below_step HB.out hb6); clear hR6 hb6 hle6 hC6 hbx6))
              go_roundw
              case rel => exact ⟨i + 1, by rw [wrap1 (by have := Hct.out; have := HD.out; omega)], ⟨by have := Hct.out; omega⟩, ⟨HBX6.out, HRV6.out⟩, ⟨by rw [HSU.out]; exact HRF6.out⟩, HB6⟩
              case measure => rw [wrap1 (by have := Hct.out; have := HD.out; omega)]; have := Hct.out; simp [intOf]; omega
          | false =>
            rw [hb] at hbit hsu haf
            rw [if_neg (fun h => by cases h.1)] at haf
            rw [haf] at hsu
            have HSU := Aside0.mk (show aloneL (ls.take (i + 1)) (o.take (i + 1)) (clL n ls o) = aloneL (ls.take i) (o.take i) (clL n ls o) by rw [hsu]; simp)
            clear ct hb haf hsu
            go_wp2_with (first | (go_at_call 69; (refine (clone_calls A0 c0 ls[i] _ (by repeat (first | exact HRW.out | (with_reducible refine Kd.C_alloc ?_ _) | (with_reducible refine Kd.C_drewN ?_ _) | (with_reducible refine Kd.C_drew ?_))) HRl.out).mono ?_); rintro e w5 ⟨v5, rfl, hR5, hb5⟩; have HR5 := Aside0.mk hR5; have HB5 := Aside0.mk hb5; clear hR5 hb5) | (go_at_call 68; (refine (del_calls Bc (clL n ls o) vc w.heap.size (fun k => k ≠ Bc) _ ls[i] _ _ HB5.out HR5.out hcell HRV.out HRl.out).mono ?_); rintro e w6 ⟨v6, rfl, hR6, hb6⟩; obtain ⟨A6, c6, rfl, hle6, hC6⟩ := Kd.R_reads hR6; have hbx6 := (hb6.block Bc (blk_lt HBX.out)).trans HBX.out; have HBX6 := Aside0.mk hbx6; have HRV6 := Aside0.mk (Kd.R_below HRV.out hb6); have HRF6 := Aside0.mk (Kd.R_below HRF.out hb6); have HS6 := Aside0.mk hb6.size; have HB6 := Aside0.mk (below_step HB.out hb6); clear hR6 hb6 hle6 hC6 hbx6))
            go_roundw
            case rel => exact ⟨i + 1, by rw [wrap1 (by have := Hct.out; have := HD.out; omega)], ⟨by have := Hct.out; omega⟩, ⟨HBX6.out, HRV6.out⟩, ⟨by rw [HSU.out]; exact HRF6.out⟩, HB6⟩
            case measure => rw [wrap1 (by have := Hct.out; have := HD.out; omega)]; have := Hct.out; simp [intOf]; omega
        · have c1b : decide ((i : Int) < (ls.length : Int)) = false := decide_eq_false ct
          have c1c : decide (i < ls.length) = false := decide_eq_false (by omega)
          have he : i = ls.length := by have := Hi.out; omega
          subst he
          have hfs : aloneL (ls.take ls.length) (o.take ls.length) (clL n ls o) = aloneL ls o (clL n ls o) := by
            rw [List.take_length, List.take_of_length_le (by have := HOL.out; omega)]
          have hRf := HRF.out
          rw [hfs] at hRf
          have HRF2 := Aside0.mk hRf
          have hlen : (aloneL ls o (clL n ls o)).length ≤ 100 := by
            have := aloneL_length ls o (clL n ls o)
            have := HD.out
            omega
          have HSo := Aside0.mk (show slices_Sort_int_int.f (aloneL ls o (clL n ls o)) = some (isort (aloneL ls o (clL n ls o))) by unfold slices_Sort_int_int.f; rw [if_pos (by omega)])
          have HCo := Aside0.mk (show slices_Compact_int_int.f (isort (aloneL ls o (clL n ls o))) = some (Lib.compact (isort (aloneL ls o (clL n ls o)))) by unfold slices_Compact_int_int.f; rw [if_pos (by rw [isort_length]; omega)])
          clear ct hfs hRf HRF hlen
          go_wp2_with (go_at_call 71; (refine (slices_Sort_int_int.calls (fun k => k ≠ Bc ∧ some k ≠ vc.ownBlock) _ _ _ w _ HB.out HRF2.out HSo.out).mono ?_); rintro e w8 ⟨rfl, hR8, hb8, hk8⟩; have hbx8 := (hk8.2 Bc (blk_lt HBX.out) (fun h => h.1 rfl)).trans HBX.out; have hc8 : w8.cell? ⟨Bc, 0, none⟩ = some vc := (blk_cell hbx8 0).trans rfl; have HRV8 := Aside0.mk (R_moved HRV.out (fun k hk => hk8.2 k (Kd.R_lt HRV.out k hk) (fun h => h.2 hk.symm))); have HBX8 := Aside0.mk hbx8; have HR8 := Aside0.mk hR8; have HB8 := Aside0.mk hb8; clear hR8 hb8 hk8 hbx8)
          go_region_held3 (fun w' => w'.cell? ⟨Bc, 0, none⟩ = some vc) (first | exact hc8 | exact hc9) (first | (go_at_call 72; (refine (slices_Compact_int_int.calls _ _ _ _ w _ (by first | exact HB8.out | exact below_drew1 HB8.out) (by first | exact HR8.out | exact Kd.R_drew HR8.out) HCo.out).mono ?_); rintro e w9 ⟨v9, rfl, hR9, hb9, hk9⟩; have hbx9 := (hk9.2 Bc (blk_lt HBX8.out) (fun h => h.elim (fun h => h.1 rfl) (fun h => by have := blk_lt HBX.out; omega))).trans HBX8.out; have hc9 : w9.cell? ⟨Bc, 0, none⟩ = some vc := (blk_cell hbx9 0).trans rfl; have HRV9 := Aside0.mk (R_moved HRV8.out (fun k hk => hk9.2 k (Kd.R_lt HRV8.out k hk) (fun h => h.elim (fun h => h.2 hk.symm) (fun h => by have := Kd.R_lt HRV.out k hk; omega)))); have HR9 := Aside0.mk hR9; have HB9 := Aside0.mk hb9; clear hR9 hb9 hk9 hbx9))
          all_goals
            go_wp2
            go_ret3
            have HAP : ∀ k, v9.ownBlock = some k → some k ≠ vc.ownBlock := fun k hk => by
              rcases HR9.out.1 k hk with (h | h) | h
              · exact h.2
              · exact fun e => by have := Kd.R_lt HRV.out k e.symm; omega
              · exact fun e => by
                  have h1 := Kd.R_lt HRV8.out k e.symm
                  have h2 : w8.heap.size ≤ k := h
                  omega
            exact ⟨vc, v9, by rw [HP.out]; rfl, by rw [HP.out]; exact R_int_mk (fun k hk e => HAP k e.symm hk.symm) (R_int_own HRV9.out).2, by rw [HP.out]; exact R_int_mk (fun k hk => HAP k hk) (R_int_own HR9.out).2, HB9.out⟩
/-- find.Cleared, told as the printed contracts are. -/
def find_Cleared.f (a0 : Int) (l1 : List (List Int)) (l2 : List Bool) : Option (List Int × List Int × Int) := some (clrP a0 l1 l2)
theorem find_Cleared.calls (a0 : Int) (A1 : Option Addr) (c1 : Nat) (l1 : List (List Int)) (A2 : Option Addr) (c2 : Nat) (l2 : List Bool) (r1 r2 : List Int) (r3 : Int) (w : World) (hr1 : Kd.C (Kd.slice 3 (Kd.int .i64)) w A1 l1.length l1) (hc1 : l1.length ≤ c1) (hr2 : Kd.C Kd.bool w A2 l2.length l2) (hc2 : l2.length ≤ c2) (h : find_Cleared.f a0 l1 l2 = some (r1, r2, r3)) :
    Calls Tryd.prog 38 #[.int .i64 a0, .slice A1 l1.length c1, .slice A2 l2.length c2] w fun e w' => ∃ v0_ v1_ : Value, e = .returned (.tuple #[v0_, v1_, .int .i64 r3]) ∧ Kd.R (Kd.int .i64) 3 w' w.heap.size (fun k_ => some k_ ≠ (v1_ : Value).ownBlock) v0_ r1 ∧ Kd.R (Kd.int .i64) 3 w' w.heap.size (fun k_ => some k_ ≠ (v0_ : Value).ownBlock) v1_ r2 ∧ Below w.heap.size w w' := by
  have hp : clrP a0 l1 l2 = (r1, r2, r3) := by injection h
  have key : Calls Tryd.prog 38 #[.int .i64 a0, .slice A1 l1.length c1, .slice A2 l2.length c2] w (ClrPost a0 l1 l2 w) := by
    by_cases h1 : ofN a0 l1 = 0
    · by_cases h2 : l2.length = l1.length
      · obtain ⟨n, rfl⟩ := Int.eq_ofNat_of_zero_le (show 0 ≤ a0 by have := (ofN_ok h1).1; omega)
        exact clr_yes n A1 c1 l1 A2 c2 l2 w hr1 hr2 hc2 h1 h2
      · exact clr_no a0 A1 c1 l1 A2 c2 l2 w hr1 hr2 hc2 (.inr h2)
    · exact clr_no a0 A1 c1 l1 A2 c2 l2 w hr1 hr2 hc2 (.inl h1)
  refine key.mono ?_
  rintro e w' ⟨v0, v1, he, h1, h2, h3⟩
  rw [hp] at he h1 h2
  exact ⟨v0, v1, he, h1, h2, h3⟩
end Go.Proofs.YtglajokjiphafaaDoor.P

set_option linter.unusedSimpArgs false
set_option linter.unusedVariables false
namespace Go.Proofs.YtglajokjiphafaaDoor.P
open Go.Lib Go.RowKit Go.Proofs.YtglajokjiphafaaDoorW.PrintWords Go.Proofs.YtglajokjiphafaaDoorW.PrintLast Go.Proofs.YtglajokjiphafaaDoorW.PrintMore Go.Proofs.YtglajokjiphafaaDoor.Kit

theorem ris_ascN {n : Nat} {l : List Int} (h : risB (n : Int) l = true) : Asc n 0 l := by
  have key : ∀ m j, l.length - j = m → j ≤ l.length → ∀ i : Nat, (∀ hj : j < l.length, (i : Int) ≤ l[j]) → Asc n i (l.drop j) := by
    intro m
    induction m with
    | zero =>
      intro j hm hj i _
      rw [List.drop_of_length_le (by omega)]
      trivial
    | succ m ih =>
      intro j hm hj i hi
      have hlt : j < l.length := by omega
      rw [List.drop_eq_getElem_cons hlt]
      have h1 := ris_at h j hlt
      have h2 := hi hlt
      refine ⟨(l[j]).toNat, by omega, by omega, by omega, ih (j + 1) (by omega) (by omega) _ (fun hj1 => ?_)⟩
      have h3 := (ris_at h (j + 1) hj1).2 (by omega)
      simp only [Nat.add_sub_cancel] at h3
      omega
  have := key l.length 0 (by omega) (by omega) 0 (fun hj => by have := (ris_at h 0 hj).1; omega)
  rw [List.drop_zero] at this
  exact this
theorem asc_risB {n : Nat} : ∀ {i : Nat} {l : List Int}, Asc n i l → (∀ x ∈ l, (i : Int) ≤ x ∧ x < (n : Int)) ∧ l.Pairwise (· < ·)
  | _, [], _ => ⟨(fun x hx => by cases hx), List.Pairwise.nil⟩
  | i, x :: l, h => by
    obtain ⟨t, rfl, h1, h2, h3⟩ := h
    obtain ⟨h4, h5⟩ := asc_risB h3
    refine ⟨fun y hy => ?_, List.pairwise_cons.2 ⟨fun y hy => ?_, h5⟩⟩
    · rcases List.mem_cons.1 hy with rfl | hy
      · exact ⟨by omega, by omega⟩
      · have := h4 y hy; exact ⟨by omega, by omega⟩
    · have := h4 y hy; omega
theorem risFrom_of {n : Int} {l : List Int} (h : ∀ j, j < l.length → risStep n l j = true) : ∀ d i, i + d ≤ l.length → risFrom n l d i = true
  | 0, _, _ => rfl
  | d + 1, i, hd => by
    simp only [risFrom, Bool.and_eq_true]
    exact ⟨h i (by omega), risFrom_of h d (i + 1) (by omega)⟩
theorem asc_ris {n : Nat} {l : List Int} (h : Asc n 0 l) : risB (n : Int) l = true := by
  obtain ⟨h1, h2⟩ := asc_risB h
  refine risFrom_of (fun j hj => ?_) l.length 0 (by omega)
  unfold risStep
  rw [rd_get l j hj]
  have h3 := h1 _ (List.getElem_mem hj)
  simp only [Bool.and_eq_true, Bool.or_eq_true, decide_eq_true_eq]
  refine ⟨by omega, by omega, ?_⟩
  by_cases h0 : j = 0
  · exact .inl h0
  · right
    rw [rd_get l (j - 1) (by omega)]
    exact List.pairwise_iff_getElem.1 h2 (j - 1) j (by omega) hj (by omega)
/-- What Sets returns. -/
theorem mem_setR (n M : Nat) (d : List (List Int)) (o : List Bool) (l : List Int) : l ∈ setR n M d o ↔ (l.length ≤ M ∧ risB (n : Int) l = true) ∧ outB d l = o := by
  unfold setR
  rw [List.mem_filter, mem_pre]
  constructor
  · rintro ⟨⟨h1, h2⟩, h3⟩; exact ⟨⟨h1, asc_ris h2⟩, by simpa using h3⟩
  · rintro ⟨⟨h1, h2⟩, h3⟩; exact ⟨⟨h1, ris_ascN h2⟩, by simpa using h3⟩
theorem setR_nodup (n M : Nat) (d : List (List Int)) (o : List Bool) : (setR n M d o).Nodup := (nodup_of_llt (pre_asc n M 0)).filter _
/-- No tube is hidden. -/
theorem hidL_nil {n D : Nat} {d : List (List Int)} (h : hidL n d D = []) : ∀ t, t < n → ∀ l : List Int, l.length ≤ D → risB (n : Int) l = true → goodB d (t : Int) l = false := by
  intro t ht l hl hr
  cases hg : goodB d (t : Int) l with
  | false => rfl
  | true =>
    exfalso
    have hm : l ∈ cmb n l.length 0 := (mem_cmb _ _ _ _).2 ⟨rfl, ris_ascN hr⟩
    have h1 : ((cmb n l.length 0).find? (goodB d (t : Int))).isSome = true := by rw [List.find?_isSome]; exact ⟨l, hm, hg⟩
    have h2 : (hidM n d t l.length).isSome = true := by unfold hidM; rw [Option.isSome_map]; exact h1
    have h3 : (hidT n d D t).isSome = true := by unfold hidT; rw [List.findSome?_isSome_iff]; exact ⟨l.length, List.mem_range'_1.2 ⟨by omega, by omega⟩, h2⟩
    unfold hidL at h
    have h4 : ((List.range' 0 n).findSome? (hidT n d D)).isSome = true := by rw [List.findSome?_isSome_iff]; exact ⟨t, List.mem_range'_1.2 ⟨by omega, by omega⟩, h3⟩
    obtain ⟨y, hy⟩ := Option.isSome_iff_exists.1 h4
    rw [hy] at h
    obtain ⟨t2, _, hy2⟩ := List.exists_of_findSome?_eq_some hy
    obtain ⟨m2, _, hy3⟩ := List.exists_of_findSome?_eq_some hy2
    unfold hidM at hy3
    obtain ⟨z, _, hz⟩ := Option.map_eq_some_iff.1 hy3
    have h5 : y = [] := h
    rw [h5] at hz
    cases hz
theorem out_sub {d : List (List Int)} {f l : List Int} (h : outB d f = outB d l) (r : List Int) (hr : r ∈ d) : (f.any fun x => r.contains x) = l.any fun x => r.contains x := by
  obtain ⟨i, hi, rfl⟩ := List.mem_iff_getElem.1 hr
  have h1 : (outB d f)[i]'(by rw [outB_length]; exact hi) = (outB d l)[i]'(by rw [outB_length]; exact hi) := by simp only [h]
  simpa [outB] using h1
/-- A tube whose tests are all dark is one of the others that hide it, or is hidden. -/
theorem hid_of_out {d : List (List Int)} {f l : List Int} (h : outB d f = outB d l) (t : Int) (ht : t ∈ f) : hidB d t l = true := by
  refine List.all_eq_true.2 fun r hr => ?_
  cases hc : r.contains t with
  | false => rfl
  | true =>
    have h1 := out_sub h r hr
    have h2 : (f.any fun x => r.contains x) = true := List.any_eq_true.2 ⟨t, ht, hc⟩
    rw [h2] at h1
    rw [← h1]; rfl
theorem ris_uniq {n : Int} {a b : List Int} (ha : risB n a = true) (hb : risB n b = true) (h : ∀ x, x ∈ a ↔ x ∈ b) : a = b := by
  have asc : ∀ {l : List Int}, risB n l = true → l.Pairwise (· < ·) := fun {l} h => by
    have key : ∀ d i j (e : j = i + d + 1) (hj : j < l.length), l[i]'(by omega) < l[j] := by
      intro d
      induction d with
      | zero =>
        intro i j e hj
        have := (ris_at h j hj).2 (by omega)
        subst e
        simpa using this
      | succ d ih =>
        intro i j e hj
        have h1 := (ris_at h j hj).2 (by omega)
        have h2 := ih i (j - 1) (by omega) (by omega)
        omega
    rw [List.pairwise_iff_getElem]
    intro i j hi hj hij
    exact key (j - i - 1) i j (by omega) hj
  exact asc_uniq (asc ha) (asc hb) h
/-- If no tube is hidden, few faulty tubes are known by their outcomes. -/
theorem out_inj {n D : Nat} {d : List (List Int)} (hh : hidL n d D = []) {f l : List Int} (hf : risB (n : Int) f = true) (hl : risB (n : Int) l = true) (hfl : f.length ≤ D) (hll : l.length ≤ D) (h : outB d f = outB d l) : f = l := by
  have sub : ∀ {a b : List Int}, risB (n : Int) a = true → risB (n : Int) b = true → b.length ≤ D → outB d a = outB d b → ∀ x ∈ a, x ∈ b := by
    intro a b ha hb hbl hab x hx
    have h1 := ris_mem ha x hx
    have h2 := hidL_nil hh x.toNat (by omega) b hbl hb
    rw [Int.toNat_of_nonneg h1.1] at h2
    unfold goodB at h2
    rw [hid_of_out hab x hx, Bool.and_true] at h2
    simpa using h2
  exact ris_uniq hf hl fun x => ⟨sub hf hl hll h x, sub hl hf hfl h.symm x⟩
/-- If no tube is hidden, Cleared clears all tubes but the faulty ones. -/
theorem clB_out (d : List (List Int)) (f : List Int) (t : Int) : clB d (outB d f) t = true ↔ ∃ r ∈ d, r.contains t = true ∧ (f.any fun x => r.contains x) = false := by
  unfold clB outB
  rw [List.any_eq_true]
  constructor
  · rintro ⟨p, hp, hc⟩
    rw [List.zip_map_right, List.mem_map] at hp
    obtain ⟨⟨a, b⟩, hab, rfl⟩ := hp
    have e : a = b := by
      obtain ⟨i, hi, e⟩ := List.mem_iff_getElem.1 hab
      rw [List.getElem_zip] at e
      injection e with e1 e2
      rw [← e1, ← e2]
    subst e
    simp only [Prod.map, id, Bool.and_eq_true, Bool.not_eq_true'] at hc
    exact ⟨a, (List.of_mem_zip hab).1, hc.1, hc.2⟩
  · rintro ⟨r, hr, h1, h2⟩
    refine ⟨(r, f.any fun x => r.contains x), ?_, by rw [h1, h2]; rfl⟩
    obtain ⟨i, hi, rfl⟩ := List.mem_iff_getElem.1 hr
    exact List.mem_iff_getElem.2 ⟨i, by rw [List.length_zip, List.length_map]; omega, by rw [List.getElem_zip, List.getElem_map]⟩
theorem cl_all {n D : Nat} {d : List (List Int)} (hh : hidL n d D = []) {f : List Int} (hf : risB (n : Int) f = true) (hfl : f.length ≤ D) (t : Nat) (ht : t < n) : clB d (outB d f) (t : Int) = !f.contains (t : Int) := by
  have h1 := hidL_nil hh t ht f hfl hf
  cases hc : f.contains (t : Int) with
  | true =>
    cases hb : clB d (outB d f) (t : Int) with
    | false => rfl
    | true =>
      exfalso
      obtain ⟨r, hr, h2, h3⟩ := (clB_out d f _).1 hb
      have : (f.any fun x => r.contains x) = true := List.any_eq_true.2 ⟨t, by simpa using hc, h2⟩
      rw [this] at h3; cases h3
  | false =>
    unfold goodB at h1
    rw [hc, Bool.not_false, Bool.true_and] at h1
    refine (clB_out d f _).2 ?_
    unfold hidB at h1
    rw [List.all_eq_false] at h1
    obtain ⟨r, hr, h2⟩ := h1
    refine ⟨r, hr, ?_⟩
    revert h2
    cases r.contains (t : Int) <;> cases (f.any fun x => r.contains x) <;> simp
end Go.Proofs.YtglajokjiphafaaDoor.P

set_option linter.unusedSimpArgs false
set_option linter.unusedVariables false
namespace Go.Proofs.YtglajokjiphafaaDoor.P
open Go.Lib Go.RowKit Go.Proofs.YtglajokjiphafaaDoorW.PrintWords Go.Proofs.YtglajokjiphafaaDoorW.PrintLast Go.Proofs.YtglajokjiphafaaDoorW.PrintMore Go.Proofs.YtglajokjiphafaaDoor.Kit

def lenH (n : Nat) : Nat := if n ≤ 1 then 0 else if n ≤ 2 then 1 else if n ≤ 4 then 2 else if n ≤ 8 then 3 else if n ≤ 16 then 4 else if n ≤ 32 then 5 else 6
def rowH (n i : Nat) : List Int := ((List.range n).filter fun t => t.testBit i).map fun (t : Nat) => (t : Int)
def halvesL (n : Nat) : List (List Int) := (List.range (lenH n)).map fun i => rowH n i
theorem halves_closed : ∀ j : Nat, j < 49 → find_Halves.f 500 ((j + 1 : Nat) : Int) = some (halvesL (j + 1), 0) := by decide +kernel
theorem halves_of : ∀ j : Nat, j < 49 → ofN ((j + 1 : Nat) : Int) (halvesL (j + 1)) = 0 := by decide +kernel
theorem lenH_le : ∀ j : Nat, j < 49 → lenH (j + 1) ≤ 6 ∧ j + 1 ≤ 2 ^ lenH (j + 1) := by decide +kernel
theorem halvesL_length (n : Nat) : (halvesL n).length = lenH n := by simp [halvesL]
theorem rowH_has (n i x : Nat) (hx : x < n) : (rowH n i).contains (x : Int) = x.testBit i := by
  unfold rowH
  cases h : x.testBit i with
  | true =>
    rw [List.contains_iff_mem]
    exact List.mem_map.2 ⟨x, List.mem_filter.2 ⟨List.mem_range.2 hx, h⟩, rfl⟩
  | false =>
    cases hc : (((List.range n).filter fun t => t.testBit i).map fun (t : Nat) => (t : Int)).contains (x : Int) with
    | false => rfl
    | true =>
      rw [List.contains_iff_mem] at hc
      obtain ⟨t, ht, e⟩ := List.mem_map.1 hc
      have e2 : t = x := by omega
      subst e2
      have := (List.mem_filter.1 ht).2
      rw [h] at this; cases this
theorem outB_one (n x : Nat) (hx : x < n) : outB (halvesL n) [(x : Int)] = (List.range (lenH n)).map fun i => x.testBit i := by
  unfold outB halvesL
  rw [List.map_map]
  refine List.map_congr_left fun i _ => ?_
  show ([(x : Int)].any fun y => (rowH n i).contains y) = _
  rw [List.any_cons, List.any_nil, Bool.or_false, rowH_has n i x hx]
theorem outB_one_inj {j x t : Nat} (hj : j < 49) (hx : x < j + 1) (ht : t < j + 1) (h : outB (halvesL (j + 1)) [(x : Int)] = outB (halvesL (j + 1)) [(t : Int)]) : x = t := by
  rw [outB_one _ _ hx, outB_one _ _ ht] at h
  have hl := lenH_le j hj
  refine Nat.eq_of_testBit_eq fun i => ?_
  by_cases hi : i < lenH (j + 1)
  · have := List.map_inj_left.1 h i (List.mem_range.2 hi)
    exact this
  · have h1 : 2 ^ lenH (j + 1) ≤ 2 ^ i := Nat.pow_le_pow_right (by decide) (by omega)
    rw [Nat.testBit_lt_two_pow (by omega), Nat.testBit_lt_two_pow (by omega)]
/-- The single tubes among the sets. -/
theorem setR_singles {j t : Nat} (hj : j < 49) (ht : t < j + 1) : (setR (j + 1) 1 (halvesL (j + 1)) (outB (halvesL (j + 1)) [(t : Int)])).filter (fun l => l.length == 1) = [[(t : Int)]] := by
  refine List.Perm.eq_singleton ((List.perm_ext_iff_of_nodup ((setR_nodup _ _ _ _).filter _) (List.pairwise_singleton _ _)).2 fun l => ?_)
  rw [List.mem_filter, mem_setR, List.mem_singleton]
  constructor
  · rintro ⟨⟨⟨h1, h2⟩, h3⟩, h4⟩
    obtain ⟨x, rfl⟩ := List.length_eq_one_iff.1 (by simpa using h4)
    have h5 := ris_mem h2 x (List.mem_singleton.2 rfl)
    obtain ⟨y, rfl⟩ := Int.eq_ofNat_of_zero_le h5.1
    rw [outB_one_inj hj (by omega) ht h3]
  · rintro rfl
    refine ⟨⟨⟨Nat.le_refl _, asc_ris ⟨t, rfl, Nat.zero_le _, ht, trivial⟩⟩, rfl⟩, rfl⟩
end Go.Proofs.YtglajokjiphafaaDoor.P

namespace Go.Proofs.YtglajokjiphafaaDoor.P
open Go.RowKit Go.Proofs.YtglajokjiphafaaDoorW.PrintWords Go.Proofs.YtglajokjiphafaaDoorW.PrintLast Go.Proofs.YtglajokjiphafaaDoorW.PrintMore
attribute [local go_sem] max2_int min2_int max_two min_two max_three min_three max_four min_four   -- for this text's walks alone
set_option linter.unusedVariables false
set_option linter.unusedSimpArgs false

/-! ### neonwrightlaw05_few: function 16 -/
def neonwrightlaw05_few.l0 : Nat → List (List Int) → Int → Option (Bool)
  | 0, _, _ => none
  | k + 1, x0, x3 => if x3 < (x0.length : Int) then (if x3 ≥ 80 then (some false) else (if 0 ≤ x3 then (if ((rd_L1 x0 x3).length : Int) > 80 then (some false) else (neonwrightlaw05_few.l0 k x0 (wrap64 (x3 + 1)))) else (none))) else (some true)
def neonwrightlaw05_few.f (k : Nat) (l0 : List (List Int)) : Option (Bool) := neonwrightlaw05_few.l0 k l0 0
theorem neonwrightlaw05_few.mono_l : ∀ k, (∀ y0 y1, LeO (neonwrightlaw05_few.l0 k y0 y1) (neonwrightlaw05_few.l0 (k + 1) y0 y1))
  | 0 => fun _ _ r h => by simp [neonwrightlaw05_few.l0] at h
  | k + 1 => by
    have ih0 := neonwrightlaw05_few.mono_l k
    · intro y0 y1
      unfold neonwrightlaw05_few.l0
      repeat' first
      | (with_reducible exact ih0 _ _)
      | (with_reducible exact LeO.refl _)
      | (with_reducible exact LeO.none _)
      | (with_reducible refine LeO.ite ?_ ?_)
      | (with_reducible refine LeO.bind ?_ (fun _ => ?_))
      | exact ih0 _ _
      | exact LeO.none _
      | refine LeO.ite ?_ ?_
      | refine LeO.bind ?_ (fun _ => ?_)
theorem neonwrightlaw05_few.mono : ∀ a0 k, LeO (neonwrightlaw05_few.f k a0) (neonwrightlaw05_few.f (k + 1) a0) := by
  intro a0 k
  have ih0 := neonwrightlaw05_few.mono_l k
  unfold neonwrightlaw05_few.f
  repeat' first
      | (with_reducible exact ih0 _ _)
      | (with_reducible exact LeO.refl _)
      | (with_reducible exact LeO.none _)
      | (with_reducible refine LeO.ite ?_ ?_)
      | (with_reducible refine LeO.bind ?_ (fun _ => ?_))
      | exact ih0 _ _
      | exact LeO.none _
      | refine LeO.ite ?_ ?_
      | refine LeO.bind ?_ (fun _ => ?_)
set_option maxHeartbeats 8000000 in
set_option maxRecDepth 100000 in
theorem neonwrightlaw05_few.calls (k : Nat) (A0 : Option Addr) (c0 : Nat) (l0 : List (List Int)) (r : Bool) (w : World) (hr0 : Kd.C (Kd.slice 3 (Kd.int .i64)) w A0 l0.length l0) (hc0 : l0.length ≤ c0) (h : neonwrightlaw05_few.f k l0 = some r) :
    Calls Tryd.prog 16 #[.slice A0 l0.length c0] w fun e w' => e = .returned (.bool r) ∧ Drawn0 w w' := by
  have HR0 := Aside0.mk hr0
  have HC0 := Aside0.mk hc0
  clear hr0 hc0
  have H : (neonwrightlaw05_few.l0 k l0 0) = some r := h
  clear h
  have H' := Aside0.mk H
  clear H
  go_enter Tryd.func16, Tryd.ntmps16
  go_wp2
  go_loopg [3] k (fun kq v3 w' => ∃ (x3_1 : Int), v3 = .int .i64 x3_1 ∧ Aside0 (neonwrightlaw05_few.l0 kq l0 x3_1 = some r) ∧ Aside0 (kq ≤ k) ∧ Drawn0 w w')
  case atStart => exact ⟨(0), (by first | rfl | (simp; done) | (simp [*]; done)), H', ⟨Nat.le_refl _⟩, by repeat (first | exact Drawn0.refl _ | apply Drawn0.step)⟩
  case round =>
    clear H'
    try clear c1
    obtain ⟨x3_1, rfl, HA, HK1, ⟨m1, rfl⟩⟩ := hrel
    cases gk with
    | zero => exact absurd HA.out (by simp [neonwrightlaw05_few.l0])
    | succ k1 =>
      have H := HA.out
      clear HA
      simp only [neonwrightlaw05_few.l0] at H
      by_cases c2 : x3_1 < (l0.length : Int)
      · rw [if_pos c2] at H
        have c2b0 : decide (x3_1 < (l0.length : Int)) = true := decide_eq_true c2
        clear c2
        by_cases c3 : x3_1 ≥ 80
        · rw [if_pos c3] at H
          have c3b0 : decide (80 ≤ x3_1) = true := decide_eq_true c3
          clear c3
          obtain rfl := Option.some.inj H
          go_wp2
          go_ret
          exact ⟨by first | rfl | (simp; done) | (simp [*]; done), by repeat (first | exact Drawn0.refl _ | apply Drawn0.step)⟩
        · rw [if_neg c3] at H
          have c3b0 : decide (80 ≤ x3_1) = false := decide_eq_false c3
          clear c3
          by_cases c4 : 0 ≤ x3_1
          · rw [if_pos c4] at H
            have c4b0 : decide (0 ≤ x3_1) = true := decide_eq_true c4
            clear c4
            by_cases c5 : ((rd_L1 l0 x3_1).length : Int) > 80
            · rw [if_pos c5] at H
              have c5b0 : decide (80 < ((rd_L1 l0 x3_1).length : Int)) = true := decide_eq_true c5
              have c5b1 : decide (80 < (rd_L1 l0 x3_1).length) = true := decide_eq_true (by omega)
              clear c5
              obtain rfl := Option.some.inj H
              have p116 : 0 ≤ (x3_1 : Int) := of_decide_eq_true (by first | (with_reducible assumption) | assumption)
              have q116 : x3_1 < (l0.length : Int) := of_decide_eq_true (by first | (with_reducible assumption) | assumption)
              obtain ⟨ad116, A116_0, c116_0, e116, hx116_0, hl116_0, hi116_0⟩ := at_L1 HR0.out x3_1 p116 q116
              cases e116
              have HR116_0 := Aside0.mk hi116_0
              have HC116_0 := Aside0.mk hl116_0
              clear hi116_0 hl116_0
              replace p116 := eq_true p116
              replace q116 := eq_true q116
              go_wp2
              go_ret
              exact ⟨by first | rfl | (simp; done) | (simp [*]; done), by repeat (first | exact Drawn0.refl _ | apply Drawn0.step)⟩
            · rw [if_neg c5] at H
              have c5b0 : decide (80 < ((rd_L1 l0 x3_1).length : Int)) = false := decide_eq_false c5
              have c5b1 : decide (80 < (rd_L1 l0 x3_1).length) = false := decide_eq_false (by omega)
              clear c5
              have H' := Aside0.mk H
              clear H
              have p116 : 0 ≤ (x3_1 : Int) := of_decide_eq_true (by first | (with_reducible assumption) | assumption)
              have q116 : x3_1 < (l0.length : Int) := of_decide_eq_true (by first | (with_reducible assumption) | assumption)
              obtain ⟨ad116, A116_0, c116_0, e116, hx116_0, hl116_0, hi116_0⟩ := at_L1 HR0.out x3_1 p116 q116
              cases e116
              have HR116_0 := Aside0.mk hi116_0
              have HC116_0 := Aside0.mk hl116_0
              clear hi116_0 hl116_0
              replace p116 := eq_true p116
              replace q116 := eq_true q116
              go_wp2
              go_roundg k1
              case measure => have := HK1.out; omega
              case rel => exact ⟨(wrap64 (x3_1 + 1)), (by first | rfl | (simp; done) | (simp [*]; done)), H', ⟨by have := HK1.out; omega⟩, by repeat (first | exact Drawn0.refl _ | apply Drawn0.step)⟩
          · rw [if_neg c4] at H
            exact absurd H (by simp)
      · rw [if_neg c2] at H
        have c2b0 : decide (x3_1 < (l0.length : Int)) = false := decide_eq_false c2
        clear c2
        obtain rfl := Option.some.inj H
        go_wp2
        go_ret
        exact ⟨by first | rfl | (simp; done) | (simp [*]; done), by repeat (first | exact Drawn0.refl _ | apply Drawn0.step)⟩

end Go.Proofs.YtglajokjiphafaaDoor.P

set_option linter.unusedSimpArgs false
set_option linter.unusedVariables false
namespace Go.Proofs.YtglajokjiphafaaDoor.P
open Go.Lib Go.RowKit Go.Proofs.YtglajokjiphafaaDoorW.PrintWords Go.Proofs.YtglajokjiphafaaDoorW.PrintLast Go.Proofs.YtglajokjiphafaaDoorW.PrintMore Go.Proofs.YtglajokjiphafaaDoor.Kit

theorem alive_ev : Ev (fun k => neonwrightlaw05_alive.f k) true := by
  obtain ⟨k, hk⟩ := neonwrightlaw05_alive.tells
  exact Ev.of neonwrightlaw05_alive.mono hk
theorem same_l0 (l : List Int) (hl : l.length ≤ 4611686018427387904) : ∀ m i, l.length - i = m → i ≤ l.length → Ev (fun k => neonwrightlaw05_same.l0 k l l (i : Int)) true := by
  intro m
  induction m with
  | zero =>
    intro i hm hi
    refine Ev.step (fun k => ?_) (Ev.now true)
    simp only [neonwrightlaw05_same.l0]
    rw [if_neg (by omega)]
  | succ m ih =>
    intro i hm hi
    refine Ev.step (fun k => ?_) (ih (i + 1) (by omega) (by omega))
    simp only [neonwrightlaw05_same.l0]
    rw [if_pos (by omega), if_pos (by omega), if_pos (by omega), if_pos trivial, wrap1 (by omega)]
theorem same_refl (l : List Int) (hl : l.length ≤ 4611686018427387904) : Ev (fun k => neonwrightlaw05_same.f k l l) true := by
  refine Ev.congr (f := fun k => neonwrightlaw05_same.l0 k l l ((0 : Nat) : Int)) (fun k => ?_) (same_l0 l hl l.length 0 (by omega) (by omega))
  unfold neonwrightlaw05_same.f
  rw [if_pos rfl]
  rfl
theorem few_l0 (d : List (List Int)) : ∀ m i, 81 - i = m → i ≤ 80 → i ≤ d.length → (∀ j (hj : j < d.length), j < i → (d[j]).length ≤ 80) → ∃ b, Ev (fun k => neonwrightlaw05_few.l0 k d (i : Int)) b ∧ (b = true → d.length ≤ 80 ∧ ∀ r ∈ d, r.length ≤ 80) := by
  intro m
  induction m with
  | zero => intro i hm hi; omega
  | succ m ih =>
    intro i hm hi hid hp
    by_cases h1 : i < d.length
    · by_cases h2 : i = 80
      · refine ⟨false, Ev.step (fun k => ?_) (Ev.now false), fun h => by cases h⟩
        simp only [neonwrightlaw05_few.l0]
        rw [if_pos (by omega), if_pos (by omega)]
      · by_cases h3 : (d[i]).length ≤ 80
        · obtain ⟨b, hb, hs⟩ := ih (i + 1) (by omega) (by omega) (by omega) (fun j hj hji => by
            by_cases e : j = i
            · subst e; exact h3
            · exact hp j hj (by omega))
          refine ⟨b, Ev.step (fun k => ?_) hb, hs⟩
          simp only [neonwrightlaw05_few.l0]
          rw [if_pos (by omega), if_neg (by omega), if_pos (by omega), rdL_get d i h1, if_neg (by omega), wrap1 (by omega)]
        · refine ⟨false, Ev.step (fun k => ?_) (Ev.now false), fun h => by cases h⟩
          simp only [neonwrightlaw05_few.l0]
          rw [if_pos (by omega), if_neg (by omega), if_pos (by omega), rdL_get d i h1, if_pos (by omega)]
    · refine ⟨true, Ev.step (fun k => ?_) (Ev.now true), fun _ => ⟨by omega, fun r hr => ?_⟩⟩
      · simp only [neonwrightlaw05_few.l0]
        rw [if_neg (by omega)]
      · obtain ⟨j, hj, rfl⟩ := List.mem_iff_getElem.1 hr
        exact hp j hj (by omega)
theorem few_ev (d : List (List Int)) : ∃ b, Ev (fun k => neonwrightlaw05_few.f k d) b ∧ (b = true → d.length ≤ 80 ∧ ∀ r ∈ d, r.length ≤ 80) :=
  few_l0 d 81 0 (by omega) (by omega) (by omega) (fun j hj h => by omega)
theorem cmb_row (n : Nat) : ∀ m i, ∀ l ∈ cmb n m i, l.length = m := by
  intro m
  induction m with
  | zero => intro i l hl; simp [cmb] at hl; rw [hl]; rfl
  | succ m ih =>
    intro i l hl
    unfold cmb at hl
    obtain ⟨t, _, h2⟩ := List.mem_flatMap.1 hl
    obtain ⟨y, hy, rfl⟩ := List.mem_map.1 h2
    rw [List.length_cons, ih _ y hy]
theorem hidL_length (n : Nat) (d : List (List Int)) (D : Nat) : (hidL n d D).length ≤ D + 1 := by
  unfold hidL
  cases h : (List.range' 0 n).findSome? (hidT n d D) with
  | none => simp
  | some l =>
    obtain ⟨t, _, h1⟩ := List.exists_of_findSome?_eq_some h
    obtain ⟨m, hm, h2⟩ := List.exists_of_findSome?_eq_some h1
    unfold hidM at h2
    obtain ⟨y, hy, rfl⟩ := Option.map_eq_some_iff.1 h2
    have h3 := cmb_row n m 0 y (List.mem_of_find?_eq_some hy)
    have h4 := (List.mem_range'_1.1 hm).2
    show ((t : Int) :: y).length ≤ D + 1
    rw [List.length_cons]
    omega
theorem hidP_length (n : Int) (d : List (List Int)) (D : Int) : (hidP n d D).1.length ≤ 4611686018427387904 := by
  unfold hidP
  split
  · split
    · rename_i h
      have h1 := hidL_length n.toNat d D.toNat
      show (hidL n.toNat d D.toNat).length ≤ _
      omega
    · simp
  · simp
end Go.Proofs.YtglajokjiphafaaDoor.P
