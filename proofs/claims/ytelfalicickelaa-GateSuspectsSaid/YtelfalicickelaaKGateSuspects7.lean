/- Texts of this claim, merged by a program (shake.py): what the last theorems reach of Pf10, RCirc, RRep, RBase, RSus, PureGateSuspects. -/
import Derived.Test.YtelfalicickelaaKB1
import Derived.Test.YtelfalicickelaaKGateSuspects1
import Derived.Test.YtelfalicickelaaKB8
import Derived.Test.YtelfalicickelaaKGateSuspects5
import Derived.Test.YtelfalicickelaaKGateSuspects6
import Derived.Test.YtelfalicickelaaKB2
import Derived.Test.YtelfalicickelaaKB3
import Derived.Test.YtelfalicickelaaKGateSuspects2
import Derived.Test.YtelfalicickelaaKGateSuspects3
import Derived.Test.YtelfalicickelaaKGateSuspects4
namespace Go.Proofs.Ytelfalicickelaa.P
open Go.RowKit Go.Proofs.YtelfalicickelaaW.PrintWords Go.Proofs.YtelfalicickelaaW.PrintLast Go.Proofs.YtelfalicickelaaW.PrintMore
attribute [local go_sem] max2_int max_two
set_option linter.unusedVariables false
set_option linter.unusedSimpArgs false
def neonwrightlaw07_GateSuspects.j0 : Nat → List Int → List Int → Bool → Int → List (S40) → List Int → Option (Bool)
  | 0, _, _, _, _, _, _ => none
  | k + 1, x1, x2, x23, x561000, x561001, x561002 => if x23 = true then ((neonwrightlaw07_alive.f).bind fun t562 => (some t562)) else ((gate_Suspects.f x561000 x561001 x561002 x1 x2).bind fun bt563 => ((neonwrightref07_Suspects.f k x561000 x561001 x561002 x1 x2).bind fun bt567 => ((neonwrightlaw07_same.f k bt563.1 bt567.1).bind fun t571 => (if t571 = true then (if bt563.2 = bt567.2 then ((neonwrightlaw07_alive.f).bind fun t572 => (some t572)) else (some false)) else (some false)))))
def neonwrightlaw07_GateSuspects.f (k : Nat) (a0_0 : Int) (l0_1 : List (S40)) (l0_2 : List Int) (l1 : List Int) (l2 : List Int) : Option (Bool) := (neonwrightlaw07_few.f a0_0 l0_1 l0_2).bind fun t561 => (if t561 = true then (if (l1.length : Int) > 100 then (neonwrightlaw07_GateSuspects.j0 k l1 l2 true a0_0 l0_1 l0_2) else (neonwrightlaw07_GateSuspects.j0 k l1 l2 (decide ((l2.length : Int) > 100)) a0_0 l0_1 l0_2)) else (neonwrightlaw07_GateSuspects.j0 k l1 l2 true a0_0 l0_1 l0_2))
set_option maxHeartbeats 8000000 in
set_option maxRecDepth 100000 in
theorem neonwrightlaw07_GateSuspects.calls (k : Nat) (a0_0 : Int) (A0_1 : Option Addr) (c0_1 : Nat) (l0_1 : List (S40)) (A0_2 : Option Addr) (c0_2 : Nat) (l0_2 : List Int) (A1 : Option Addr) (c1 : Nat) (l1 : List Int) (A2 : Option Addr) (c2 : Nat) (l2 : List Int) (r : Bool) (w : World) (hr0_1 : Kd.C k40 w A0_1 l0_1.length l0_1) (hc0_1 : l0_1.length ≤ c0_1) (hr0_2 : Kd.C (Kd.int .i64) w A0_2 l0_2.length l0_2) (hc0_2 : l0_2.length ≤ c0_2) (hr1 : Kd.C (Kd.int .i64) w A1 l1.length l1) (hc1 : l1.length ≤ c1) (hr2 : Kd.C (Kd.int .i64) w A2 l2.length l2) (hc2 : l2.length ≤ c2) (h : neonwrightlaw07_GateSuspects.f k a0_0 l0_1 l0_2 l1 l2 = some r) :
    Calls Try.prog 10 #[.agg #[.int .i64 a0_0, .slice A0_1 l0_1.length c0_1, .slice A0_2 l0_2.length c0_2], .slice A1 l1.length c1, .slice A2 l2.length c2] w fun e w' => e = .returned (.bool r) ∧ Below w.heap.size w w' := by
  have hu25 := Try.underlying25
  have HR0_1 := Aside0.mk hr0_1
  have HC0_1 := Aside0.mk hc0_1
  clear hr0_1 hc0_1
  have HR0_2 := Aside0.mk hr0_2
  have HC0_2 := Aside0.mk hc0_2
  clear hr0_2 hc0_2
  have HR1 := Aside0.mk hr1
  have HC1 := Aside0.mk hc1
  clear hr1 hc1
  have HR2 := Aside0.mk hr2
  have HC2 := Aside0.mk hc2
  clear hr2 hc2
  have HB := Aside0.mk (Below.refl w.heap.size w)
  have H : ((neonwrightlaw07_few.f a0_0 l0_1 l0_2).bind fun t561 => (if t561 = true then (if (l1.length : Int) > 100 then (neonwrightlaw07_GateSuspects.j0 k l1 l2 true a0_0 l0_1 l0_2) else (neonwrightlaw07_GateSuspects.j0 k l1 l2 (decide ((l2.length : Int) > 100)) a0_0 l0_1 l0_2)) else (neonwrightlaw07_GateSuspects.j0 k l1 l2 true a0_0 l0_1 l0_2))) = some r := h
  clear h
  have HC4 := Aside0.mk H
  clear H
  go_enter Try.func10, Try.ntmps10
  go_upto_region 1 with (first | ((with_reducible refine gate_dst (N := 3) rfl ?_); (try (refine gate_guard (by rfl) ?_; dsimp only)); refine box_event ?hg (N := 3) ?hd (cs := #[.int .i64 a0_0, .slice A0_1 l0_1.length c0_1, .slice A0_2 l0_2.length c0_2]) (t := 25) ?hr ?_; (case hd => rfl); (case hg => rfl); (case hr => first | (go_simp; done) | (go_simp; rfl)); intro gb560 hg w5 hbox hb; have n0_ := Aside0.mk (below_step (by repeat (first | (with_reducible first | exact HB.out | apply below_alloc | apply pw_below_drewN | apply below_drew1) | exact HB.out)) hb); have n1_ := Aside0.mk (hbox); have n2_ := Aside0.mk ((by rw [hg]; exact (below_size (by repeat (first | (with_reducible first | exact HB.out | apply below_alloc | apply pw_below_drewN | apply below_drew1) | exact HB.out))) : w.heap.size ≤ gb560)); have n3_ := Aside0.mk ((by rw [hg]; exact (below_size (by repeat (first | (with_reducible first | exact HB.out | apply below_alloc | apply pw_below_drewN | apply below_drew1) | exact HB.out))) : w.heap.size ≤ gb560)); clear HB; have HB := n0_; have BK560 := n1_; have GW560 := n2_; have GE560 := n3_; clear n0_ n1_ n2_ n3_; clear hb hbox hg))
  (try simp only [Act.put, List.setIfInBounds_toArray, List.set_cons_zero, List.set_cons_succ])
  go_cut [23] (fun v23 wc => ∃ (kq : Nat) (x23_3 : Bool), v23 = .bool x23_3 ∧ Aside0 (neonwrightlaw07_GateSuspects.j0 kq l1 l2 x23_3 a0_0 l0_1 l0_2 = some r) ∧ Aside0 (kq ≤ k) ∧ Aside0 (wc.heap[gb560]? = some (.cells #[.int .i64 a0_0, (.slice A0_1 l0_1.length c0_1), (.slice A0_2 l0_2.length c0_2)] 25 (0, 0))) ∧ Aside0 (Below w.heap.size w wc))
  case first =>
    have H := HC4.out
    clear HC4
    replace H := Option.bind_eq_some_iff.mp H
    obtain ⟨t561, A60, H⟩ := H
    replace H : (if t561 = true then (if (l1.length : Int) > 100 then (neonwrightlaw07_GateSuspects.j0 k l1 l2 true a0_0 l0_1 l0_2) else (neonwrightlaw07_GateSuspects.j0 k l1 l2 (decide ((l2.length : Int) > 100)) a0_0 l0_1 l0_2)) else (neonwrightlaw07_GateSuspects.j0 k l1 l2 true a0_0 l0_1 l0_2)) = some r := H
    have A6 := Aside0.mk A60
    clear A60
    by_cases c7 : t561 = true
    · subst c7
      have H1 : (if (l1.length : Int) > 100 then (neonwrightlaw07_GateSuspects.j0 k l1 l2 true a0_0 l0_1 l0_2) else (neonwrightlaw07_GateSuspects.j0 k l1 l2 (decide ((l2.length : Int) > 100)) a0_0 l0_1 l0_2)) = some r := by rw [if_pos rfl] at H; exact H
      clear H
      have H := H1
      clear H1
      by_cases c8 : (l1.length : Int) > 100
      · rw [if_pos c8] at H
        have c8b0 : decide (100 < (l1.length : Int)) = true := decide_eq_true c8
        have c8b1 : decide (100 < l1.length) = true := decide_eq_true (by omega)
        clear c8
        (first | rw [c8b0] | (simp only [i64_w, i32_w]; rw [c8b0]) | skip)
        have H' := Aside0.mk H
        clear H
        have hcz9_0 : w5.cell? ⟨gb560, 0, none⟩ = some (.int .i64 a0_0) := (blk_cell BK560.out 0).trans rfl
        have hcz9_1 : w5.cell? ⟨gb560, 1, none⟩ = some (.slice A0_1 l0_1.length c0_1) := (blk_cell BK560.out 1).trans rfl
        have hcz9_2 : w5.cell? ⟨gb560, 2, none⟩ = some (.slice A0_2 l0_2.length c0_2) := (blk_cell BK560.out 2).trans rfl
        have hfz9_0 := blk_frozen BK560.out 0
        have hfz9_1 := blk_frozen BK560.out 1
        have hfz9_2 := blk_frozen BK560.out 2
        go_wp2_with (first | ((with_reducible refine gate_callee (f := 15) rfl ?_); refine goesL_ (some 12) rfl rfl Try.func15 (by kernel_rfl) rfl #[.agg #[.int .i64 a0_0, .slice A0_1 l0_1.length c0_1, .slice A0_2 l0_2.length c0_2]] rfl (by (try simp only [List.map_toArray, List.map_cons, List.map_nil]); first | done | rfl | (simp only [List.length_drop, List.length_take]; rfl)) ?_; (with_reducible refine (neonwrightlaw07_few.calls a0_0 _ _ l0_1 _ _ l0_2 true _ ?side1 ?side2 ?side3 ?side4 A6.out).mono ?_); (case side1 => repeat (first | exact (Kd.C_below HR0_1.out HB.out) | (with_reducible refine Kd.C_alloc ?_ _) | (with_reducible refine Kd.C_drewN ?_ _) | (with_reducible refine Kd.C_drew ?_))); (case side2 => exact HC0_1.out); (case side3 => repeat (first | exact (Kd.C_below HR0_2.out HB.out) | (with_reducible refine Kd.C_alloc ?_ _) | (with_reducible refine Kd.C_drewN ?_ _) | (with_reducible refine Kd.C_drew ?_))); (case side4 => exact HC0_2.out); rintro e w10 ⟨rfl, hb⟩; refine ⟨_, rfl, ?_⟩; have n0_ := Aside0.mk (blk_below (g := gb560) (o := .cells #[.int .i64 a0_0, .slice A0_1 l0_1.length c0_1, .slice A0_2 l0_2.length c0_2] 25 (0, 0)) (by (with_reducible repeat (first | refine blk_drewN ?_ _ | refine blk_drew ?_ | refine blk_alloc ?_ _)); exact BK560.out) hb); have n1_ := Aside0.mk (below_step (by repeat (first | (with_reducible first | exact HB.out | apply below_alloc | apply pw_below_drewN | apply below_drew1 | refine below_set ?_ GE560.out) | exact HB.out)) hb); clear BK560; clear HB; have BK560 := n0_; have HB := n1_; clear n0_ n1_; (try clear hb); (try clear hb2); (try clear hk); (try clear hi)))
        go_meet
        case rel => exact ⟨_, (true), (by first | rfl | (simp; done) | (simp [*]; done)), H', ⟨by first | omega | exact Nat.le_refl _⟩, ⟨by (with_reducible repeat (first | refine blk_drewN ?_ _ | refine blk_drew ?_ | refine blk_alloc ?_ _)); exact BK560.out⟩, ⟨by repeat (first | (with_reducible first | exact HB.out | apply below_alloc | apply pw_below_drewN | apply below_drew1 | refine below_set ?_ GE560.out) | exact HB.out)⟩⟩
      · rw [if_neg c8] at H
        have c8b0 : decide (100 < (l1.length : Int)) = false := decide_eq_false c8
        have c8b1 : decide (100 < l1.length) = false := decide_eq_false (by omega)
        clear c8
        (first | rw [c8b0] | (simp only [i64_w, i32_w]; rw [c8b0]) | skip)
        have H' := Aside0.mk H
        clear H
        have hcz11_0 : w5.cell? ⟨gb560, 0, none⟩ = some (.int .i64 a0_0) := (blk_cell BK560.out 0).trans rfl
        have hcz11_1 : w5.cell? ⟨gb560, 1, none⟩ = some (.slice A0_1 l0_1.length c0_1) := (blk_cell BK560.out 1).trans rfl
        have hcz11_2 : w5.cell? ⟨gb560, 2, none⟩ = some (.slice A0_2 l0_2.length c0_2) := (blk_cell BK560.out 2).trans rfl
        have hfz11_0 := blk_frozen BK560.out 0
        have hfz11_1 := blk_frozen BK560.out 1
        have hfz11_2 := blk_frozen BK560.out 2
        go_wp2_with (first | ((with_reducible refine gate_callee (f := 15) rfl ?_); refine goesL_ (some 12) rfl rfl Try.func15 (by kernel_rfl) rfl #[.agg #[.int .i64 a0_0, .slice A0_1 l0_1.length c0_1, .slice A0_2 l0_2.length c0_2]] rfl (by (try simp only [List.map_toArray, List.map_cons, List.map_nil]); first | done | rfl | (simp only [List.length_drop, List.length_take]; rfl)) ?_; (with_reducible refine (neonwrightlaw07_few.calls a0_0 _ _ l0_1 _ _ l0_2 true _ ?side1 ?side2 ?side3 ?side4 A6.out).mono ?_); (case side1 => repeat (first | exact (Kd.C_below HR0_1.out HB.out) | (with_reducible refine Kd.C_alloc ?_ _) | (with_reducible refine Kd.C_drewN ?_ _) | (with_reducible refine Kd.C_drew ?_))); (case side2 => exact HC0_1.out); (case side3 => repeat (first | exact (Kd.C_below HR0_2.out HB.out) | (with_reducible refine Kd.C_alloc ?_ _) | (with_reducible refine Kd.C_drewN ?_ _) | (with_reducible refine Kd.C_drew ?_))); (case side4 => exact HC0_2.out); rintro e w12 ⟨rfl, hb⟩; refine ⟨_, rfl, ?_⟩; have n0_ := Aside0.mk (blk_below (g := gb560) (o := .cells #[.int .i64 a0_0, .slice A0_1 l0_1.length c0_1, .slice A0_2 l0_2.length c0_2] 25 (0, 0)) (by (with_reducible repeat (first | refine blk_drewN ?_ _ | refine blk_drew ?_ | refine blk_alloc ?_ _)); exact BK560.out) hb); have n1_ := Aside0.mk (below_step (by repeat (first | (with_reducible first | exact HB.out | apply below_alloc | apply pw_below_drewN | apply below_drew1 | refine below_set ?_ GE560.out) | exact HB.out)) hb); clear BK560; clear HB; have BK560 := n0_; have HB := n1_; clear n0_ n1_; (try clear hb); (try clear hb2); (try clear hk); (try clear hi)))
        go_meet
        case rel => exact ⟨_, (decide ((l2.length : Int) > 100)), (by first | rfl | (simp; done) | (simp [*]; done)), H', ⟨by first | omega | exact Nat.le_refl _⟩, ⟨by (with_reducible repeat (first | refine blk_drewN ?_ _ | refine blk_drew ?_ | refine blk_alloc ?_ _)); exact BK560.out⟩, ⟨by repeat (first | (with_reducible first | exact HB.out | apply below_alloc | apply pw_below_drewN | apply below_drew1 | refine below_set ?_ GE560.out) | exact HB.out)⟩⟩
    · replace c7 := Bool.eq_false_iff.mpr c7
      subst c7
      have H1 : (neonwrightlaw07_GateSuspects.j0 k l1 l2 true a0_0 l0_1 l0_2) = some r := by rw [if_neg (show ¬ (false = true) by decide)] at H; exact H
      clear H
      have H := H1
      clear H1
      have H' := Aside0.mk H
      clear H
      have hcz13_0 : w5.cell? ⟨gb560, 0, none⟩ = some (.int .i64 a0_0) := (blk_cell BK560.out 0).trans rfl
      have hcz13_1 : w5.cell? ⟨gb560, 1, none⟩ = some (.slice A0_1 l0_1.length c0_1) := (blk_cell BK560.out 1).trans rfl
      have hcz13_2 : w5.cell? ⟨gb560, 2, none⟩ = some (.slice A0_2 l0_2.length c0_2) := (blk_cell BK560.out 2).trans rfl
      have hfz13_0 := blk_frozen BK560.out 0
      have hfz13_1 := blk_frozen BK560.out 1
      have hfz13_2 := blk_frozen BK560.out 2
      go_wp2_with (first | ((with_reducible refine gate_callee (f := 15) rfl ?_); refine goesL_ (some 12) rfl rfl Try.func15 (by kernel_rfl) rfl #[.agg #[.int .i64 a0_0, .slice A0_1 l0_1.length c0_1, .slice A0_2 l0_2.length c0_2]] rfl (by (try simp only [List.map_toArray, List.map_cons, List.map_nil]); first | done | rfl | (simp only [List.length_drop, List.length_take]; rfl)) ?_; (with_reducible refine (neonwrightlaw07_few.calls a0_0 _ _ l0_1 _ _ l0_2 false _ ?side1 ?side2 ?side3 ?side4 A6.out).mono ?_); (case side1 => repeat (first | exact (Kd.C_below HR0_1.out HB.out) | (with_reducible refine Kd.C_alloc ?_ _) | (with_reducible refine Kd.C_drewN ?_ _) | (with_reducible refine Kd.C_drew ?_))); (case side2 => exact HC0_1.out); (case side3 => repeat (first | exact (Kd.C_below HR0_2.out HB.out) | (with_reducible refine Kd.C_alloc ?_ _) | (with_reducible refine Kd.C_drewN ?_ _) | (with_reducible refine Kd.C_drew ?_))); (case side4 => exact HC0_2.out); rintro e w14 ⟨rfl, hb⟩; refine ⟨_, rfl, ?_⟩; have n0_ := Aside0.mk (blk_below (g := gb560) (o := .cells #[.int .i64 a0_0, .slice A0_1 l0_1.length c0_1, .slice A0_2 l0_2.length c0_2] 25 (0, 0)) (by (with_reducible repeat (first | refine blk_drewN ?_ _ | refine blk_drew ?_ | refine blk_alloc ?_ _)); exact BK560.out) hb); have n1_ := Aside0.mk (below_step (by repeat (first | (with_reducible first | exact HB.out | apply below_alloc | apply pw_below_drewN | apply below_drew1 | refine below_set ?_ GE560.out) | exact HB.out)) hb); clear BK560; clear HB; have BK560 := n0_; have HB := n1_; clear n0_ n1_; (try clear hb); (try clear hb2); (try clear hk); (try clear hi)))
      go_meet
      case rel => exact ⟨_, (true), (by first | rfl | (simp; done) | (simp [*]; done)), H', ⟨by first | omega | exact Nat.le_refl _⟩, ⟨by (with_reducible repeat (first | refine blk_drewN ?_ _ | refine blk_drew ?_ | refine blk_alloc ?_ _)); exact BK560.out⟩, ⟨by repeat (first | (with_reducible first | exact HB.out | apply below_alloc | apply pw_below_drewN | apply below_drew1 | refine below_set ?_ GE560.out) | exact HB.out)⟩⟩
  case rest =>
    clear HC4
    try clear c1
    try clear c2
    try clear p2
    try clear c7
    try clear c8
    try clear c8b0
    try clear c8b1
    try clear c10
    try clear hcz11_0
    try clear hcz11_1
    try clear hcz11_2
    try clear hcz13_0
    try clear hcz13_1
    try clear hcz13_2
    try clear hcz9_0
    try clear hcz9_1
    try clear hcz9_2
    try clear hfz11_0
    try clear hfz11_1
    try clear hfz11_2
    try clear hfz13_0
    try clear hfz13_1
    try clear hfz13_2
    try clear hfz9_0
    try clear hfz9_1
    try clear hfz9_2
    obtain ⟨kq, x23_3, rfl, HA, HJ3, BK560, HB⟩ := hcut
    cases kq with
    | zero => exact absurd HA.out (by simp [neonwrightlaw07_GateSuspects.j0])
    | succ kj3 =>
      have H := HA.out
      clear HA
      simp only [neonwrightlaw07_GateSuspects.j0] at H
      by_cases c15 : x23_3 = true
      · subst c15
        have H1 : ((neonwrightlaw07_alive.f).bind fun t562 => (some t562)) = some r := by rw [if_pos rfl] at H; exact H
        clear H
        have H := H1
        clear H1
        replace H := Option.bind_eq_some_iff.mp H
        obtain ⟨t562, A160, H⟩ := H
        replace H : (some t562) = some r := H
        have A16 := Aside0.mk A160
        clear A160
        obtain rfl := Option.some.inj H
        go_wp2_with (first | ((with_reducible refine gate_callee (f := 16) rfl ?_); refine goesL_ (some 24) rfl rfl Try.func16 (by kernel_rfl) rfl #[] rfl (by (try simp only [List.map_toArray, List.map_cons, List.map_nil]); first | done | rfl | (simp only [List.length_drop, List.length_take]; rfl)) ?_; (with_reducible refine (neonwrightlaw07_alive.calls  t562 _ A16.out).mono ?_); rintro e w17 ⟨rfl, hb⟩; refine ⟨_, rfl, ?_⟩; have n0_ := Aside0.mk (blk_below (g := gb560) (o := .cells #[.int .i64 a0_0, .slice A0_1 l0_1.length c0_1, .slice A0_2 l0_2.length c0_2] 25 (0, 0)) (by (with_reducible repeat (first | refine blk_drewN ?_ _ | refine blk_drew ?_ | refine blk_alloc ?_ _)); exact BK560.out) hb); have n1_ := Aside0.mk (below_step (by repeat (first | (with_reducible first | exact HB.out | apply below_alloc | apply pw_below_drewN | apply below_drew1 | refine below_set ?_ GE560.out) | exact HB.out)) hb); clear BK560; clear HB; have BK560 := n0_; have HB := n1_; clear n0_ n1_; (try clear hb); (try clear hb2); (try clear hk); (try clear hi)))
        go_ret
        exact ⟨by first | rfl | (simp [errW_none, errW_some] <;> rfl) | (simp [*, errW_none, errW_some] <;> rfl), by repeat (first | (with_reducible first | exact HB.out | apply below_alloc | apply pw_below_drewN | apply below_drew1 | refine below_set ?_ GE560.out) | exact HB.out)⟩
      · replace c15 := Bool.eq_false_iff.mpr c15
        subst c15
        have H1 : ((gate_Suspects.f a0_0 l0_1 l0_2 l1 l2).bind fun bt563 => ((neonwrightref07_Suspects.f kj3 a0_0 l0_1 l0_2 l1 l2).bind fun bt567 => ((neonwrightlaw07_same.f kj3 bt563.1 bt567.1).bind fun t571 => (if t571 = true then (if bt563.2 = bt567.2 then ((neonwrightlaw07_alive.f).bind fun t572 => (some t572)) else (some false)) else (some false))))) = some r := by rw [if_neg (show ¬ (false = true) by decide)] at H; exact H
        clear H
        have H := H1
        clear H1
        replace H := Option.bind_eq_some_iff.mp H
        obtain ⟨⟨t563, t566⟩, A180, H⟩ := H
        replace H : ((neonwrightref07_Suspects.f kj3 a0_0 l0_1 l0_2 l1 l2).bind fun bt567 => ((neonwrightlaw07_same.f kj3 t563 bt567.1).bind fun t571 => (if t571 = true then (if t566 = bt567.2 then ((neonwrightlaw07_alive.f).bind fun t572 => (some t572)) else (some false)) else (some false)))) = some r := H
        have A18 := Aside0.mk A180
        clear A180
        replace H := Option.bind_eq_some_iff.mp H
        obtain ⟨⟨t567, t570⟩, A190, H⟩ := H
        replace H : ((neonwrightlaw07_same.f kj3 t563 t567).bind fun t571 => (if t571 = true then (if t566 = t570 then ((neonwrightlaw07_alive.f).bind fun t572 => (some t572)) else (some false)) else (some false))) = some r := H
        have A19 := Aside0.mk A190
        clear A190
        replace H := Option.bind_eq_some_iff.mp H
        obtain ⟨t571, A200, H⟩ := H
        replace H : (if t571 = true then (if t566 = t570 then ((neonwrightlaw07_alive.f).bind fun t572 => (some t572)) else (some false)) else (some false)) = some r := H
        have A20 := Aside0.mk A200
        clear A200
        by_cases c21 : t571 = true
        · subst c21
          have H1 : (if t566 = t570 then ((neonwrightlaw07_alive.f).bind fun t572 => (some t572)) else (some false)) = some r := by rw [if_pos rfl] at H; exact H
          clear H
          have H := H1
          clear H1
          by_cases c22 : t566 = t570
          · rw [if_pos c22] at H
            have c22b0 : (t566 == t570) = true := beq_iff_eq.mpr c22
            have c22b1 : (t566 != t570) = false := bne_eq_false_iff_eq.mpr c22
            clear c22
            replace H := Option.bind_eq_some_iff.mp H
            obtain ⟨t572, A230, H⟩ := H
            replace H : (some t572) = some r := H
            have A23 := Aside0.mk A230
            clear A230
            obtain rfl := Option.some.inj H
            have hcz24_0 : wc.cell? ⟨gb560, 0, none⟩ = some (.int .i64 a0_0) := (blk_cell BK560.out 0).trans rfl
            have hcz24_1 : wc.cell? ⟨gb560, 1, none⟩ = some (.slice A0_1 l0_1.length c0_1) := (blk_cell BK560.out 1).trans rfl
            have hcz24_2 : wc.cell? ⟨gb560, 2, none⟩ = some (.slice A0_2 l0_2.length c0_2) := (blk_cell BK560.out 2).trans rfl
            have hfz24_0 := blk_frozen BK560.out 0
            have hfz24_1 := blk_frozen BK560.out 1
            have hfz24_2 := blk_frozen BK560.out 2
            go_wp2_with (first | ((with_reducible refine gate_callee (f := 45) rfl ?_); refine goesL_ (some 29) rfl rfl Try.func45 (by kernel_rfl) rfl #[.agg #[.int .i64 a0_0, .slice A0_1 l0_1.length c0_1, .slice A0_2 l0_2.length c0_2], .slice A1 l1.length c1, .slice A2 l2.length c2] rfl (by (try simp only [List.map_toArray, List.map_cons, List.map_nil]); first | done | rfl | (simp only [List.length_drop, List.length_take]; rfl)) ?_; (with_reducible refine (gate_Suspects.calls a0_0 _ _ l0_1 _ _ l0_2 _ _ l1 _ _ l2 t563 t566 _ ?side1 ?side2 ?side3 ?side4 ?side5 ?side6 ?side7 ?side8 A18.out).mono ?_); (case side1 => repeat (first | exact (Kd.C_below HR0_1.out HB.out) | (with_reducible refine Kd.C_alloc ?_ _) | (with_reducible refine Kd.C_drewN ?_ _) | (with_reducible refine Kd.C_drew ?_))); (case side2 => exact HC0_1.out); (case side3 => repeat (first | exact (Kd.C_below HR0_2.out HB.out) | (with_reducible refine Kd.C_alloc ?_ _) | (with_reducible refine Kd.C_drewN ?_ _) | (with_reducible refine Kd.C_drew ?_))); (case side4 => exact HC0_2.out); (case side5 => repeat (first | exact (Kd.C_below HR1.out HB.out) | (with_reducible refine Kd.C_alloc ?_ _) | (with_reducible refine Kd.C_drewN ?_ _) | (with_reducible refine Kd.C_drew ?_))); (case side6 => exact HC1.out); (case side7 => repeat (first | exact (Kd.C_below HR2.out HB.out) | (with_reducible refine Kd.C_alloc ?_ _) | (with_reducible refine Kd.C_drewN ?_ _) | (with_reducible refine Kd.C_drew ?_))); (case side8 => exact HC2.out); rintro e w25 ⟨v564, rfl, ho0, hb⟩; refine ⟨_, rfl, ?_⟩; have n0_ := Aside0.mk (Kd.R_lower ho0 (below_size (by repeat (first | (with_reducible first | exact HB.out | apply below_alloc | apply pw_below_drewN | apply below_drew1 | refine below_set ?_ GE560.out) | exact HB.out)))); have n1_ := Aside0.mk (blk_below (g := gb560) (o := .cells #[.int .i64 a0_0, .slice A0_1 l0_1.length c0_1, .slice A0_2 l0_2.length c0_2] 25 (0, 0)) (by (with_reducible repeat (first | refine blk_drewN ?_ _ | refine blk_drew ?_ | refine blk_alloc ?_ _)); exact BK560.out) hb); have n2_ := Aside0.mk (below_step (by repeat (first | (with_reducible first | exact HB.out | apply below_alloc | apply pw_below_drewN | apply below_drew1 | refine below_set ?_ GE560.out) | exact HB.out)) hb); clear BK560; clear HB; have HO565 := n0_; have BK560 := n1_; have HB := n2_; clear n0_ n1_ n2_; (try clear hb); (try clear hb2); (try clear hk); (try clear hi); (try clear ho0); have hcz26_0 : w25.cell? ⟨gb560, 0, none⟩ = some (.int .i64 a0_0) := (blk_cell BK560.out 0).trans rfl; have hcz26_1 : w25.cell? ⟨gb560, 1, none⟩ = some (.slice A0_1 l0_1.length c0_1) := (blk_cell BK560.out 1).trans rfl; have hcz26_2 : w25.cell? ⟨gb560, 2, none⟩ = some (.slice A0_2 l0_2.length c0_2) := (blk_cell BK560.out 2).trans rfl; have hfz26_0 := blk_frozen BK560.out 0; have hfz26_1 := blk_frozen BK560.out 1; have hfz26_2 := blk_frozen BK560.out 2) | ((with_reducible refine gate_callee (f := 46) rfl ?_); refine goesL_ (some 36) rfl rfl Try.func46 (by kernel_rfl) rfl #[.agg #[.int .i64 a0_0, .slice A0_1 l0_1.length c0_1, .slice A0_2 l0_2.length c0_2], .slice A1 l1.length c1, .slice A2 l2.length c2] rfl (by (try simp only [List.map_toArray, List.map_cons, List.map_nil]); first | done | rfl | (simp only [List.length_drop, List.length_take]; rfl)) ?_; (with_reducible refine (neonwrightref07_Suspects.calls kj3 a0_0 _ _ l0_1 _ _ l0_2 _ _ l1 _ _ l2 t567 t570 _ ?side1 ?side2 ?side3 ?side4 ?side5 ?side6 ?side7 ?side8 A19.out).mono ?_); (case side1 => repeat (first | exact (Kd.C_below HR0_1.out HB.out) | (with_reducible refine Kd.C_alloc ?_ _) | (with_reducible refine Kd.C_drewN ?_ _) | (with_reducible refine Kd.C_drew ?_))); (case side2 => exact HC0_1.out); (case side3 => repeat (first | exact (Kd.C_below HR0_2.out HB.out) | (with_reducible refine Kd.C_alloc ?_ _) | (with_reducible refine Kd.C_drewN ?_ _) | (with_reducible refine Kd.C_drew ?_))); (case side4 => exact HC0_2.out); (case side5 => repeat (first | exact (Kd.C_below HR1.out HB.out) | (with_reducible refine Kd.C_alloc ?_ _) | (with_reducible refine Kd.C_drewN ?_ _) | (with_reducible refine Kd.C_drew ?_))); (case side6 => exact HC1.out); (case side7 => repeat (first | exact (Kd.C_below HR2.out HB.out) | (with_reducible refine Kd.C_alloc ?_ _) | (with_reducible refine Kd.C_drewN ?_ _) | (with_reducible refine Kd.C_drew ?_))); (case side8 => exact HC2.out); rintro e w27 ⟨v568, rfl, ho0, hb⟩; refine ⟨_, rfl, ?_⟩; have n0_ := Aside0.mk (Kd.R_elder' (by (with_reducible repeat (first | apply Kd.R_alloc | apply Kd.R_drewN | apply Kd.R_drew)); exact HO565.out) (Kd.R_base ho0) hb); have n1_ := Aside0.mk (Kd.R_lower (Kd.R_new' ho0 (Kd.R_lt (by (with_reducible repeat (first | apply Kd.R_alloc | apply Kd.R_drewN | apply Kd.R_drew)); exact HO565.out))) (below_size (by repeat (first | (with_reducible first | exact HB.out | apply below_alloc | apply pw_below_drewN | apply below_drew1 | refine below_set ?_ GE560.out) | exact HB.out)))); have n2_ := Aside0.mk (blk_below (g := gb560) (o := .cells #[.int .i64 a0_0, .slice A0_1 l0_1.length c0_1, .slice A0_2 l0_2.length c0_2] 25 (0, 0)) (by (with_reducible repeat (first | refine blk_drewN ?_ _ | refine blk_drew ?_ | refine blk_alloc ?_ _)); exact BK560.out) hb); have n3_ := Aside0.mk (below_step (by repeat (first | (with_reducible first | exact HB.out | apply below_alloc | apply pw_below_drewN | apply below_drew1 | refine below_set ?_ GE560.out) | exact HB.out)) hb); clear HO565; clear BK560; clear HB; have HO565 := n0_; have HO569 := n1_; have BK560 := n2_; have HB := n3_; clear n0_ n1_ n2_ n3_; (try clear hb); (try clear hb2); (try clear hk); (try clear hi); (try clear ho0); obtain ⟨Ao28, co28, eo28⟩ := Kd.R_slice HO565.out; subst eo28; obtain ⟨Ao29, co29, eo29⟩ := Kd.R_slice HO569.out; subst eo29) | ((with_reducible refine gate_callee (f := 22) rfl ?_); refine goesL_ (some 41) rfl rfl Try.func22 (by kernel_rfl) rfl #[.slice Ao28 t563.length co28, .slice Ao29 t567.length co29] rfl (by (try simp only [List.map_toArray, List.map_cons, List.map_nil]); first | done | rfl | (simp only [List.length_drop, List.length_take]; rfl)) ?_; (with_reducible refine (neonwrightlaw07_same.calls kj3 _ _ t563 _ _ t567 true _ ?side1 ?side2 ?side3 ?side4 A20.out).mono ?_); (case side1 => repeat (first | exact (Kd.R_reads' HO565.out).2.2 | (with_reducible refine Kd.C_alloc ?_ _) | (with_reducible refine Kd.C_drewN ?_ _) | (with_reducible refine Kd.C_drew ?_))); (case side2 => exact (Kd.R_reads' HO565.out).2.1); (case side3 => repeat (first | exact (Kd.R_reads' HO569.out).2.2 | (with_reducible refine Kd.C_alloc ?_ _) | (with_reducible refine Kd.C_drewN ?_ _) | (with_reducible refine Kd.C_drew ?_))); (case side4 => exact (Kd.R_reads' HO569.out).2.1); rintro e w' ⟨rfl, ⟨nd, rfl⟩⟩; refine ⟨_, rfl, ?_⟩) | (go_at_call 16; (with_reducible refine (neonwrightlaw07_alive.calls  t572 _ A23.out).mono ?_); rintro e w30 ⟨rfl, hb⟩; have n0_ := Aside0.mk (Kd.R_below (by (with_reducible repeat (first | apply Kd.R_alloc | apply Kd.R_drewN | apply Kd.R_drew)); exact HO565.out) hb); have n1_ := Aside0.mk (Kd.R_below (by (with_reducible repeat (first | apply Kd.R_alloc | apply Kd.R_drewN | apply Kd.R_drew)); exact HO569.out) hb); have n2_ := Aside0.mk (blk_below (g := gb560) (o := .cells #[.int .i64 a0_0, .slice A0_1 l0_1.length c0_1, .slice A0_2 l0_2.length c0_2] 25 (0, 0)) (by (with_reducible repeat (first | refine blk_drewN ?_ _ | refine blk_drew ?_ | refine blk_alloc ?_ _)); exact BK560.out) hb); have n3_ := Aside0.mk (below_step (by repeat (first | (with_reducible first | exact HB.out | apply below_alloc | apply pw_below_drewN | apply below_drew1 | refine below_set ?_ GE560.out) | exact HB.out)) hb); clear HO565; clear HO569; clear BK560; clear HB; have HO565 := n0_; have HO569 := n1_; have BK560 := n2_; have HB := n3_; clear n0_ n1_ n2_ n3_; (try clear hb); (try clear hb2); (try clear hk); (try clear hi)))
            go_ret
            exact ⟨by first | rfl | (simp [errW_none, errW_some] <;> rfl) | (simp [*, errW_none, errW_some] <;> rfl), by repeat (first | (with_reducible first | exact HB.out | apply below_alloc | apply pw_below_drewN | apply below_drew1 | refine below_set ?_ GE560.out) | exact HB.out)⟩
          · rw [if_neg c22] at H
            have c22b0 : (t566 == t570) = false := beq_eq_false_iff_ne.mpr c22
            have c22b1 : (t566 != t570) = true := bne_iff_ne.mpr c22
            obtain rfl := Option.some.inj H
            have hcz31_0 : wc.cell? ⟨gb560, 0, none⟩ = some (.int .i64 a0_0) := (blk_cell BK560.out 0).trans rfl
            have hcz31_1 : wc.cell? ⟨gb560, 1, none⟩ = some (.slice A0_1 l0_1.length c0_1) := (blk_cell BK560.out 1).trans rfl
            have hcz31_2 : wc.cell? ⟨gb560, 2, none⟩ = some (.slice A0_2 l0_2.length c0_2) := (blk_cell BK560.out 2).trans rfl
            have hfz31_0 := blk_frozen BK560.out 0
            have hfz31_1 := blk_frozen BK560.out 1
            have hfz31_2 := blk_frozen BK560.out 2
            go_wp2_with (first | ((with_reducible refine gate_callee (f := 45) rfl ?_); refine goesL_ (some 29) rfl rfl Try.func45 (by kernel_rfl) rfl #[.agg #[.int .i64 a0_0, .slice A0_1 l0_1.length c0_1, .slice A0_2 l0_2.length c0_2], .slice A1 l1.length c1, .slice A2 l2.length c2] rfl (by (try simp only [List.map_toArray, List.map_cons, List.map_nil]); first | done | rfl | (simp only [List.length_drop, List.length_take]; rfl)) ?_; (with_reducible refine (gate_Suspects.calls a0_0 _ _ l0_1 _ _ l0_2 _ _ l1 _ _ l2 t563 t566 _ ?side1 ?side2 ?side3 ?side4 ?side5 ?side6 ?side7 ?side8 A18.out).mono ?_); (case side1 => repeat (first | exact (Kd.C_below HR0_1.out HB.out) | (with_reducible refine Kd.C_alloc ?_ _) | (with_reducible refine Kd.C_drewN ?_ _) | (with_reducible refine Kd.C_drew ?_))); (case side2 => exact HC0_1.out); (case side3 => repeat (first | exact (Kd.C_below HR0_2.out HB.out) | (with_reducible refine Kd.C_alloc ?_ _) | (with_reducible refine Kd.C_drewN ?_ _) | (with_reducible refine Kd.C_drew ?_))); (case side4 => exact HC0_2.out); (case side5 => repeat (first | exact (Kd.C_below HR1.out HB.out) | (with_reducible refine Kd.C_alloc ?_ _) | (with_reducible refine Kd.C_drewN ?_ _) | (with_reducible refine Kd.C_drew ?_))); (case side6 => exact HC1.out); (case side7 => repeat (first | exact (Kd.C_below HR2.out HB.out) | (with_reducible refine Kd.C_alloc ?_ _) | (with_reducible refine Kd.C_drewN ?_ _) | (with_reducible refine Kd.C_drew ?_))); (case side8 => exact HC2.out); rintro e w32 ⟨v564, rfl, ho0, hb⟩; refine ⟨_, rfl, ?_⟩; have n0_ := Aside0.mk (Kd.R_lower ho0 (below_size (by repeat (first | (with_reducible first | exact HB.out | apply below_alloc | apply pw_below_drewN | apply below_drew1 | refine below_set ?_ GE560.out) | exact HB.out)))); have n1_ := Aside0.mk (blk_below (g := gb560) (o := .cells #[.int .i64 a0_0, .slice A0_1 l0_1.length c0_1, .slice A0_2 l0_2.length c0_2] 25 (0, 0)) (by (with_reducible repeat (first | refine blk_drewN ?_ _ | refine blk_drew ?_ | refine blk_alloc ?_ _)); exact BK560.out) hb); have n2_ := Aside0.mk (below_step (by repeat (first | (with_reducible first | exact HB.out | apply below_alloc | apply pw_below_drewN | apply below_drew1 | refine below_set ?_ GE560.out) | exact HB.out)) hb); clear BK560; clear HB; have HO565 := n0_; have BK560 := n1_; have HB := n2_; clear n0_ n1_ n2_; (try clear hb); (try clear hb2); (try clear hk); (try clear hi); (try clear ho0); have hcz33_0 : w32.cell? ⟨gb560, 0, none⟩ = some (.int .i64 a0_0) := (blk_cell BK560.out 0).trans rfl; have hcz33_1 : w32.cell? ⟨gb560, 1, none⟩ = some (.slice A0_1 l0_1.length c0_1) := (blk_cell BK560.out 1).trans rfl; have hcz33_2 : w32.cell? ⟨gb560, 2, none⟩ = some (.slice A0_2 l0_2.length c0_2) := (blk_cell BK560.out 2).trans rfl; have hfz33_0 := blk_frozen BK560.out 0; have hfz33_1 := blk_frozen BK560.out 1; have hfz33_2 := blk_frozen BK560.out 2) | ((with_reducible refine gate_callee (f := 46) rfl ?_); refine goesL_ (some 36) rfl rfl Try.func46 (by kernel_rfl) rfl #[.agg #[.int .i64 a0_0, .slice A0_1 l0_1.length c0_1, .slice A0_2 l0_2.length c0_2], .slice A1 l1.length c1, .slice A2 l2.length c2] rfl (by (try simp only [List.map_toArray, List.map_cons, List.map_nil]); first | done | rfl | (simp only [List.length_drop, List.length_take]; rfl)) ?_; (with_reducible refine (neonwrightref07_Suspects.calls kj3 a0_0 _ _ l0_1 _ _ l0_2 _ _ l1 _ _ l2 t567 t570 _ ?side1 ?side2 ?side3 ?side4 ?side5 ?side6 ?side7 ?side8 A19.out).mono ?_); (case side1 => repeat (first | exact (Kd.C_below HR0_1.out HB.out) | (with_reducible refine Kd.C_alloc ?_ _) | (with_reducible refine Kd.C_drewN ?_ _) | (with_reducible refine Kd.C_drew ?_))); (case side2 => exact HC0_1.out); (case side3 => repeat (first | exact (Kd.C_below HR0_2.out HB.out) | (with_reducible refine Kd.C_alloc ?_ _) | (with_reducible refine Kd.C_drewN ?_ _) | (with_reducible refine Kd.C_drew ?_))); (case side4 => exact HC0_2.out); (case side5 => repeat (first | exact (Kd.C_below HR1.out HB.out) | (with_reducible refine Kd.C_alloc ?_ _) | (with_reducible refine Kd.C_drewN ?_ _) | (with_reducible refine Kd.C_drew ?_))); (case side6 => exact HC1.out); (case side7 => repeat (first | exact (Kd.C_below HR2.out HB.out) | (with_reducible refine Kd.C_alloc ?_ _) | (with_reducible refine Kd.C_drewN ?_ _) | (with_reducible refine Kd.C_drew ?_))); (case side8 => exact HC2.out); rintro e w34 ⟨v568, rfl, ho0, hb⟩; refine ⟨_, rfl, ?_⟩; have n0_ := Aside0.mk (Kd.R_elder' (by (with_reducible repeat (first | apply Kd.R_alloc | apply Kd.R_drewN | apply Kd.R_drew)); exact HO565.out) (Kd.R_base ho0) hb); have n1_ := Aside0.mk (Kd.R_lower (Kd.R_new' ho0 (Kd.R_lt (by (with_reducible repeat (first | apply Kd.R_alloc | apply Kd.R_drewN | apply Kd.R_drew)); exact HO565.out))) (below_size (by repeat (first | (with_reducible first | exact HB.out | apply below_alloc | apply pw_below_drewN | apply below_drew1 | refine below_set ?_ GE560.out) | exact HB.out)))); have n2_ := Aside0.mk (blk_below (g := gb560) (o := .cells #[.int .i64 a0_0, .slice A0_1 l0_1.length c0_1, .slice A0_2 l0_2.length c0_2] 25 (0, 0)) (by (with_reducible repeat (first | refine blk_drewN ?_ _ | refine blk_drew ?_ | refine blk_alloc ?_ _)); exact BK560.out) hb); have n3_ := Aside0.mk (below_step (by repeat (first | (with_reducible first | exact HB.out | apply below_alloc | apply pw_below_drewN | apply below_drew1 | refine below_set ?_ GE560.out) | exact HB.out)) hb); clear HO565; clear BK560; clear HB; have HO565 := n0_; have HO569 := n1_; have BK560 := n2_; have HB := n3_; clear n0_ n1_ n2_ n3_; (try clear hb); (try clear hb2); (try clear hk); (try clear hi); (try clear ho0); obtain ⟨Ao35, co35, eo35⟩ := Kd.R_slice HO565.out; subst eo35; obtain ⟨Ao36, co36, eo36⟩ := Kd.R_slice HO569.out; subst eo36) | ((with_reducible refine gate_callee (f := 22) rfl ?_); refine goesL_ (some 41) rfl rfl Try.func22 (by kernel_rfl) rfl #[.slice Ao35 t563.length co35, .slice Ao36 t567.length co36] rfl (by (try simp only [List.map_toArray, List.map_cons, List.map_nil]); first | done | rfl | (simp only [List.length_drop, List.length_take]; rfl)) ?_; (with_reducible refine (neonwrightlaw07_same.calls kj3 _ _ t563 _ _ t567 true _ ?side1 ?side2 ?side3 ?side4 A20.out).mono ?_); (case side1 => repeat (first | exact (Kd.R_reads' HO565.out).2.2 | (with_reducible refine Kd.C_alloc ?_ _) | (with_reducible refine Kd.C_drewN ?_ _) | (with_reducible refine Kd.C_drew ?_))); (case side2 => exact (Kd.R_reads' HO565.out).2.1); (case side3 => repeat (first | exact (Kd.R_reads' HO569.out).2.2 | (with_reducible refine Kd.C_alloc ?_ _) | (with_reducible refine Kd.C_drewN ?_ _) | (with_reducible refine Kd.C_drew ?_))); (case side4 => exact (Kd.R_reads' HO569.out).2.1); rintro e w' ⟨rfl, ⟨nd, rfl⟩⟩; refine ⟨_, rfl, ?_⟩))
            go_ret
            exact ⟨by first | rfl | (simp [errW_none, errW_some] <;> rfl) | (simp [*, errW_none, errW_some] <;> rfl), by repeat (first | (with_reducible first | exact HB.out | apply below_alloc | apply pw_below_drewN | apply below_drew1 | refine below_set ?_ GE560.out) | exact HB.out)⟩
        · replace c21 := Bool.eq_false_iff.mpr c21
          subst c21
          have H1 : (some false) = some r := by rw [if_neg (show ¬ (false = true) by decide)] at H; exact H
          clear H
          have H := H1
          clear H1
          obtain rfl := Option.some.inj H
          have hcz37_0 : wc.cell? ⟨gb560, 0, none⟩ = some (.int .i64 a0_0) := (blk_cell BK560.out 0).trans rfl
          have hcz37_1 : wc.cell? ⟨gb560, 1, none⟩ = some (.slice A0_1 l0_1.length c0_1) := (blk_cell BK560.out 1).trans rfl
          have hcz37_2 : wc.cell? ⟨gb560, 2, none⟩ = some (.slice A0_2 l0_2.length c0_2) := (blk_cell BK560.out 2).trans rfl
          have hfz37_0 := blk_frozen BK560.out 0
          have hfz37_1 := blk_frozen BK560.out 1
          have hfz37_2 := blk_frozen BK560.out 2
          go_wp2_with (first | ((with_reducible refine gate_callee (f := 45) rfl ?_); refine goesL_ (some 29) rfl rfl Try.func45 (by kernel_rfl) rfl #[.agg #[.int .i64 a0_0, .slice A0_1 l0_1.length c0_1, .slice A0_2 l0_2.length c0_2], .slice A1 l1.length c1, .slice A2 l2.length c2] rfl (by (try simp only [List.map_toArray, List.map_cons, List.map_nil]); first | done | rfl | (simp only [List.length_drop, List.length_take]; rfl)) ?_; (with_reducible refine (gate_Suspects.calls a0_0 _ _ l0_1 _ _ l0_2 _ _ l1 _ _ l2 t563 t566 _ ?side1 ?side2 ?side3 ?side4 ?side5 ?side6 ?side7 ?side8 A18.out).mono ?_); (case side1 => repeat (first | exact (Kd.C_below HR0_1.out HB.out) | (with_reducible refine Kd.C_alloc ?_ _) | (with_reducible refine Kd.C_drewN ?_ _) | (with_reducible refine Kd.C_drew ?_))); (case side2 => exact HC0_1.out); (case side3 => repeat (first | exact (Kd.C_below HR0_2.out HB.out) | (with_reducible refine Kd.C_alloc ?_ _) | (with_reducible refine Kd.C_drewN ?_ _) | (with_reducible refine Kd.C_drew ?_))); (case side4 => exact HC0_2.out); (case side5 => repeat (first | exact (Kd.C_below HR1.out HB.out) | (with_reducible refine Kd.C_alloc ?_ _) | (with_reducible refine Kd.C_drewN ?_ _) | (with_reducible refine Kd.C_drew ?_))); (case side6 => exact HC1.out); (case side7 => repeat (first | exact (Kd.C_below HR2.out HB.out) | (with_reducible refine Kd.C_alloc ?_ _) | (with_reducible refine Kd.C_drewN ?_ _) | (with_reducible refine Kd.C_drew ?_))); (case side8 => exact HC2.out); rintro e w38 ⟨v564, rfl, ho0, hb⟩; refine ⟨_, rfl, ?_⟩; have n0_ := Aside0.mk (Kd.R_lower ho0 (below_size (by repeat (first | (with_reducible first | exact HB.out | apply below_alloc | apply pw_below_drewN | apply below_drew1 | refine below_set ?_ GE560.out) | exact HB.out)))); have n1_ := Aside0.mk (blk_below (g := gb560) (o := .cells #[.int .i64 a0_0, .slice A0_1 l0_1.length c0_1, .slice A0_2 l0_2.length c0_2] 25 (0, 0)) (by (with_reducible repeat (first | refine blk_drewN ?_ _ | refine blk_drew ?_ | refine blk_alloc ?_ _)); exact BK560.out) hb); have n2_ := Aside0.mk (below_step (by repeat (first | (with_reducible first | exact HB.out | apply below_alloc | apply pw_below_drewN | apply below_drew1 | refine below_set ?_ GE560.out) | exact HB.out)) hb); clear BK560; clear HB; have HO565 := n0_; have BK560 := n1_; have HB := n2_; clear n0_ n1_ n2_; (try clear hb); (try clear hb2); (try clear hk); (try clear hi); (try clear ho0); have hcz39_0 : w38.cell? ⟨gb560, 0, none⟩ = some (.int .i64 a0_0) := (blk_cell BK560.out 0).trans rfl; have hcz39_1 : w38.cell? ⟨gb560, 1, none⟩ = some (.slice A0_1 l0_1.length c0_1) := (blk_cell BK560.out 1).trans rfl; have hcz39_2 : w38.cell? ⟨gb560, 2, none⟩ = some (.slice A0_2 l0_2.length c0_2) := (blk_cell BK560.out 2).trans rfl; have hfz39_0 := blk_frozen BK560.out 0; have hfz39_1 := blk_frozen BK560.out 1; have hfz39_2 := blk_frozen BK560.out 2) | ((with_reducible refine gate_callee (f := 46) rfl ?_); refine goesL_ (some 36) rfl rfl Try.func46 (by kernel_rfl) rfl #[.agg #[.int .i64 a0_0, .slice A0_1 l0_1.length c0_1, .slice A0_2 l0_2.length c0_2], .slice A1 l1.length c1, .slice A2 l2.length c2] rfl (by (try simp only [List.map_toArray, List.map_cons, List.map_nil]); first | done | rfl | (simp only [List.length_drop, List.length_take]; rfl)) ?_; (with_reducible refine (neonwrightref07_Suspects.calls kj3 a0_0 _ _ l0_1 _ _ l0_2 _ _ l1 _ _ l2 t567 t570 _ ?side1 ?side2 ?side3 ?side4 ?side5 ?side6 ?side7 ?side8 A19.out).mono ?_); (case side1 => repeat (first | exact (Kd.C_below HR0_1.out HB.out) | (with_reducible refine Kd.C_alloc ?_ _) | (with_reducible refine Kd.C_drewN ?_ _) | (with_reducible refine Kd.C_drew ?_))); (case side2 => exact HC0_1.out); (case side3 => repeat (first | exact (Kd.C_below HR0_2.out HB.out) | (with_reducible refine Kd.C_alloc ?_ _) | (with_reducible refine Kd.C_drewN ?_ _) | (with_reducible refine Kd.C_drew ?_))); (case side4 => exact HC0_2.out); (case side5 => repeat (first | exact (Kd.C_below HR1.out HB.out) | (with_reducible refine Kd.C_alloc ?_ _) | (with_reducible refine Kd.C_drewN ?_ _) | (with_reducible refine Kd.C_drew ?_))); (case side6 => exact HC1.out); (case side7 => repeat (first | exact (Kd.C_below HR2.out HB.out) | (with_reducible refine Kd.C_alloc ?_ _) | (with_reducible refine Kd.C_drewN ?_ _) | (with_reducible refine Kd.C_drew ?_))); (case side8 => exact HC2.out); rintro e w40 ⟨v568, rfl, ho0, hb⟩; refine ⟨_, rfl, ?_⟩; have n0_ := Aside0.mk (Kd.R_elder' (by (with_reducible repeat (first | apply Kd.R_alloc | apply Kd.R_drewN | apply Kd.R_drew)); exact HO565.out) (Kd.R_base ho0) hb); have n1_ := Aside0.mk (Kd.R_lower (Kd.R_new' ho0 (Kd.R_lt (by (with_reducible repeat (first | apply Kd.R_alloc | apply Kd.R_drewN | apply Kd.R_drew)); exact HO565.out))) (below_size (by repeat (first | (with_reducible first | exact HB.out | apply below_alloc | apply pw_below_drewN | apply below_drew1 | refine below_set ?_ GE560.out) | exact HB.out)))); have n2_ := Aside0.mk (blk_below (g := gb560) (o := .cells #[.int .i64 a0_0, .slice A0_1 l0_1.length c0_1, .slice A0_2 l0_2.length c0_2] 25 (0, 0)) (by (with_reducible repeat (first | refine blk_drewN ?_ _ | refine blk_drew ?_ | refine blk_alloc ?_ _)); exact BK560.out) hb); have n3_ := Aside0.mk (below_step (by repeat (first | (with_reducible first | exact HB.out | apply below_alloc | apply pw_below_drewN | apply below_drew1 | refine below_set ?_ GE560.out) | exact HB.out)) hb); clear HO565; clear BK560; clear HB; have HO565 := n0_; have HO569 := n1_; have BK560 := n2_; have HB := n3_; clear n0_ n1_ n2_ n3_; (try clear hb); (try clear hb2); (try clear hk); (try clear hi); (try clear ho0); obtain ⟨Ao41, co41, eo41⟩ := Kd.R_slice HO565.out; subst eo41; obtain ⟨Ao42, co42, eo42⟩ := Kd.R_slice HO569.out; subst eo42) | ((with_reducible refine gate_callee (f := 22) rfl ?_); refine goesL_ (some 41) rfl rfl Try.func22 (by kernel_rfl) rfl #[.slice Ao41 t563.length co41, .slice Ao42 t567.length co42] rfl (by (try simp only [List.map_toArray, List.map_cons, List.map_nil]); first | done | rfl | (simp only [List.length_drop, List.length_take]; rfl)) ?_; (with_reducible refine (neonwrightlaw07_same.calls kj3 _ _ t563 _ _ t567 false _ ?side1 ?side2 ?side3 ?side4 A20.out).mono ?_); (case side1 => repeat (first | exact (Kd.R_reads' HO565.out).2.2 | (with_reducible refine Kd.C_alloc ?_ _) | (with_reducible refine Kd.C_drewN ?_ _) | (with_reducible refine Kd.C_drew ?_))); (case side2 => exact (Kd.R_reads' HO565.out).2.1); (case side3 => repeat (first | exact (Kd.R_reads' HO569.out).2.2 | (with_reducible refine Kd.C_alloc ?_ _) | (with_reducible refine Kd.C_drewN ?_ _) | (with_reducible refine Kd.C_drew ?_))); (case side4 => exact (Kd.R_reads' HO569.out).2.1); rintro e w' ⟨rfl, ⟨nd, rfl⟩⟩; refine ⟨_, rfl, ?_⟩))
          go_ret
          exact ⟨by first | rfl | (simp [errW_none, errW_some] <;> rfl) | (simp [*, errW_none, errW_some] <;> rfl), by repeat (first | (with_reducible first | exact HB.out | apply below_alloc | apply pw_below_drewN | apply below_drew1 | refine below_set ?_ GE560.out) | exact HB.out)⟩
end Go.Proofs.Ytelfalicickelaa.P
set_option linter.unusedSimpArgs false
set_option linter.unusedVariables false
namespace Go.Proofs.Ytelfalicickelaa.P
open Go.Lib Go.RowKit Go.Proofs.YtelfalicickelaaW.PrintWords Go.Proofs.YtelfalicickelaaW.PrintLast Go.Proofs.YtelfalicickelaaW.PrintMore Go.Proofs.Ytelfalicickelaa.Kit
theorem rcirc_l1 (N : Nat) (ls : List S40) (os : List Int) (hN : N ≤ 6) (hl : ls.length ≤ 16) (ho : os.length ≤ 4) : ∀ (d i k : Nat), os.length - i = d → i ≤ os.length → d < k →
    neonwrightref07_Circuit.l1 k (i : Int) (N : Int) ls os = some (!(os.drop i).any (badL (N + ls.length))) := by
  intro d
  induction d with
  | zero =>
    intro i k hd hi hk
    obtain ⟨k, rfl⟩ : ∃ q, k = q + 1 := ⟨k - 1, by omega⟩
    simp only [neonwrightref07_Circuit.l1]
    rw [if_neg (by omega), List.drop_eq_nil_of_le (by omega)]
    rfl
  | succ d ih =>
    intro i k hd hi hk
    obtain ⟨k, rfl⟩ : ∃ q, k = q + 1 := ⟨k - 1, by omega⟩
    have hil : i < os.length := by omega
    have hw : ∀ _ : Unit, wrap64 ((i : Int) + 1) = ((i + 1 : Nat) : Int) := fun _ => by rw [w64 (by omega) (by omega)]; omega
    have hw2 : ∀ _ : Unit, wrap64 ((N : Int) + (ls.length : Int)) = ((N + ls.length : Nat) : Int) := fun _ => by rw [w64 (by omega) (by omega)]; omega
    simp only [neonwrightref07_Circuit.l1, neonwrightref07_Lines.f, Option.bind_some]
    rw [if_pos (by omega), if_pos (by omega), rd_get _ _ hil, hw2 (), hw (), List.drop_eq_getElem_cons hil, List.any_cons]
    by_cases h1 : os[i] < 0
    · rw [if_pos h1]
      simp [badL, h1]
    · rw [if_neg h1]
      by_cases h2 : os[i] ≥ ((N + ls.length : Nat) : Int)
      · rw [if_pos h2]
        have : badL (N + ls.length) os[i] = true := by unfold badL; rw [decide_eq_true (p := ((N + ls.length : Nat) : Int) ≤ os[i]) h2, Bool.or_true]
        rw [this]; rfl
      · rw [if_neg h2, ih (i + 1) k (by omega) (by omega) (by omega)]
        have : badL (N + ls.length) os[i] = false := by unfold badL; rw [decide_eq_false h1, decide_eq_false (p := ((N + ls.length : Nat) : Int) ≤ os[i]) (by omega)]; rfl
        rw [this, Bool.false_or]
theorem rcirc_l0 (N : Nat) (ls : List S40) (os : List Int) (hN1 : 1 ≤ N) (hN : N ≤ 6) (hl : ls.length ≤ 16) (ho : os.length ≤ 4) : ∀ (d i k : Nat), ls.length - i = d → i ≤ ls.length → d + 6 < k →
    neonwrightref07_Circuit.l0 k (i : Int) (N : Int) ls os = some ((List.range' i d).all (fun j => gateOk N j (ls.getD j z40)) && !os.any (badL (N + ls.length))) := by
  intro d
  induction d with
  | zero =>
    intro i k hd hi hk
    obtain ⟨k, rfl⟩ : ∃ q, k = q + 1 := ⟨k - 1, by omega⟩
    simp only [neonwrightref07_Circuit.l0]
    rw [if_neg (by omega)]
    have := rcirc_l1 N ls os hN hl ho os.length 0 k (by omega) (by omega) (by omega)
    rw [List.drop_zero] at this
    refine this.trans ?_
    rfl
  | succ d ih =>
    intro i k hd hi hk
    obtain ⟨k, rfl⟩ : ∃ q, k = q + 1 := ⟨k - 1, by omega⟩
    have hil : i < ls.length := by omega
    have hw : ∀ _ : Unit, wrap64 ((i : Int) + 1) = ((i + 1 : Nat) : Int) := fun _ => by rw [w64 (by omega) (by omega)]; omega
    have hw2 : ∀ _ : Unit, wrap64 ((N : Int) + (i : Int)) = ((N + i : Nat) : Int) := fun _ => by rw [w64 (by omega) (by omega)]; omega
    have hrd : rd_T40 ls (i : Int) = ls.getD i z40 := by unfold rd_T40; rw [Int.toNat_natCast]
    simp only [neonwrightref07_Circuit.l0]
    rw [if_pos (by omega), if_pos (by omega), hrd, hw2 (), hw (), List.range'_succ, List.all_cons]
    have h1 := ih (i + 1) k (by omega) (by omega) (by omega)
    generalize ls.getD i z40 = s at *
    have hno : gateOk N i s = false → some false = some ((gateOk N i s && (List.range' (i + 1) d).all fun j => gateOk N j (ls.getD j z40)) && !os.any (badL (N + ls.length))) := fun h => by rw [h]; rfl
    have hyes : gateOk N i s = true → neonwrightref07_Circuit.l0 k ((i + 1 : Nat) : Int) (N : Int) ls os = some ((gateOk N i s && (List.range' (i + 1) d).all fun j => gateOk N j (ls.getD j z40)) && !os.any (badL (N + ls.length))) := fun h => by rw [h, Bool.true_and]; exact h1
    have hg : gateOk N i s = decide ((0 ≤ s.f0 ∧ s.f0 ≤ 5) ∧ (0 ≤ s.f1 ∧ s.f1 < ((N + i : Nat) : Int)) ∧ (0 ≤ s.f2 ∧ s.f2 < ((N + i : Nat) : Int)) ∧ (s.f0 = 5 → s.f2 = 0)) := by
      unfold gateOk readsL
      by_cases h5 : s.f0 = 5
      · rw [if_pos h5]
        rw [Bool.eq_iff_iff]
        simp [badL, h5] <;> omega
      · rw [if_neg h5]
        rw [Bool.eq_iff_iff]
        simp [badL, h5] <;> omega
    clear ih h1
    repeat' (split <;> first | (refine hno ?_; rw [hg]; exact decide_eq_false (by omega)) | skip)
    all_goals first
      | (refine hyes ?_; rw [hg]; exact decide_eq_true (by omega))
      | (refine hno ?_; rw [hg]; exact decide_eq_false (by omega))
theorem rCircuit_f (n : Int) (ls : List S40) (os : List Int) (k : Nat) (hk : 40 ≤ k) : neonwrightref07_Circuit.f k n ls os = some (okC n ls os) := by
  obtain ⟨k, rfl⟩ : ∃ q, k = q + 1 := ⟨k - 1, by omega⟩
  have hb : ∀ b, b = true → neonwrightref07_Circuit.j0 (k + 1) b n ls os = some false := fun b h => by simp only [neonwrightref07_Circuit.j0]; rw [if_pos h]
  by_cases hs : 1 ≤ n ∧ n ≤ 6 ∧ ls.length ≤ 16 ∧ 1 ≤ os.length ∧ os.length ≤ 4
  · obtain ⟨N, rfl⟩ := Int.eq_ofNat_of_zero_le (show 0 ≤ n by omega)
    unfold neonwrightref07_Circuit.f okC
    rw [if_neg (by omega), if_neg (by omega), if_neg (by omega), if_neg (by omega), decide_eq_true hs, Bool.true_and, Int.toNat_natCast]
    simp only [neonwrightref07_Circuit.j0]
    rw [if_neg (by simp; omega)]
    refine (rcirc_l0 N ls os (by omega) (by omega) (by omega) (by omega) ls.length 0 k (by omega) (by omega) (by omega)).trans ?_
    unfold gatesOk
    rw [List.range_eq_range']
  · have : okC n ls os = false := by unfold okC; rw [decide_eq_false hs]; rfl
    rw [this]
    unfold neonwrightref07_Circuit.f
    by_cases h1 : n < 1
    · rw [if_pos h1, hb true rfl]
    · rw [if_neg h1]
      by_cases h2 : n > 6
      · rw [if_pos h2, hb true rfl]
      · rw [if_neg h2]
        by_cases h3 : (ls.length : Int) > 16
        · rw [if_pos h3, hb true rfl]
        · rw [if_neg h3]
          by_cases h4 : (os.length : Int) < 1
          · rw [if_pos h4, hb true rfl]
          · rw [if_neg h4, hb _ (decide_eq_true (by omega))]
end Go.Proofs.Ytelfalicickelaa.P
set_option linter.unusedSimpArgs false
set_option linter.unusedVariables false
namespace Go.Proofs.Ytelfalicickelaa.P
open Go.Lib Go.RowKit Go.Proofs.YtelfalicickelaaW.PrintWords Go.Proofs.YtelfalicickelaaW.PrintLast Go.Proofs.YtelfalicickelaaW.PrintMore Go.Proofs.Ytelfalicickelaa.Kit
def bI (l : List Bool) : List Int := l.map fun b => ((b.toNat : Nat) : Int)
theorem bI_length (l : List Bool) : (bI l).length = l.length := List.length_map ..
theorem rd_bI (l : List Bool) (i : Nat) : rd (bI l) (i : Int) = (((l.getD i false).toNat : Nat) : Int) := by
  unfold rd bI
  rw [Int.toNat_natCast, List.getD_eq_getElem?_getD, List.getD_eq_getElem?_getD, List.getElem?_map]
  cases l[i]? <;> rfl
theorem rgate_f (k : Nat) (x y : Bool) (hk : k ≤ 5) : neonwrightref07_gate.f (k : Int) ((x.toNat : Nat) : Int) ((y.toNat : Nat) : Int) = some (((GT.gv k x y).toNat : Nat) : Int) := by
  have h : k = 0 ∨ k = 1 ∨ k = 2 ∨ k = 3 ∨ k = 4 ∨ k = 5 := by omega
  rcases h with rfl | rfl | rfl | rfl | rfl | rfl <;> cases x <;> cases y <;> decide +kernel
theorem rbit (V i : Nat) (hi : i ≤ 63) : Int.tmod (shr .i64 (V : Int) (i : Int)) 2 = (((V.testBit i).toNat : Nat) : Int) := by
  have h : shr .i64 (V : Int) (i : Int) = ((V / 2 ^ i : Nat) : Int) := by
    unfold shr
    have hb : IntKind.i64.bits = 64 := rfl
    rw [hb, Int.toNat_natCast, Nat.min_eq_left (by omega)]
    simp
  rw [h]
  have h2 : Int.tmod ((V / 2 ^ i : Nat) : Int) 2 = ((V / 2 ^ i % 2 : Nat) : Int) := rfl
  rw [h2, Nat.testBit_eq_decide_div_mod_eq]
  have := Nat.mod_lt (V / 2 ^ i) (show 0 < 2 by decide)
  by_cases h3 : V / 2 ^ i % 2 = 1
  · rw [h3]; rfl
  · have h4 : V / 2 ^ i % 2 = 0 := by omega
    rw [h4]; rfl
def lineOf : Option Nat → Int
  | none => -1
  | some f => ((f / 2 : Nat) : Int)
def atOf : Option Nat → Int
  | none => 0
  | some f => ((f % 2 : Nat) : Int)
theorem put_ref (F : Option Nat) (i : Nat) (x : Bool) : (((GT.put F i x).toNat : Nat) : Int) = if lineOf F = (i : Int) then atOf F else ((x.toNat : Nat) : Int) := by
  cases F with
  | none => rw [if_neg (by show ¬ ((-1 : Int) = (i : Int)); omega)]; rfl
  | some f =>
    by_cases h : f / 2 = i
    · rw [GT.put_pos x h, if_pos (by show ((f / 2 : Nat) : Int) = _; omega)]
      have h2 : f % 2 = 0 ∨ f % 2 = 1 := by omega
      show _ = ((f % 2 : Nat) : Int)
      rcases h2 with h2 | h2 <;> rw [h2] <;> rfl
    · rw [GT.put_neg x h, if_neg (by show ¬ (((f / 2 : Nat) : Int) = _); omega)]
theorem take_snoc (l : List Bool) (i : Nat) (h : i < l.length) : bI (l.take (i + 1)) = bI (l.take i) ++ [(((l.getD i false).toNat : Nat) : Int)] := by
  rw [List.take_succ_eq_append_getElem h]
  unfold bI
  rw [List.map_append, List.map_cons, List.map_nil, List.getD_eq_getElem?_getD, List.getElem?_eq_getElem h]
  rfl
theorem take_getD (l : List Bool) (i j : Nat) (h : j < i) : (l.take i).getD j false = l.getD j false := by
  rw [List.getD_eq_getElem?_getD, List.getD_eq_getElem?_getD, List.getElem?_take_of_lt h]
theorem shl_bit (b : Bool) (i : Nat) (hi : i ≤ 3) : shl .i64 ((b.toNat : Nat) : Int) (i : Int) = ((b.toNat * 2 ^ i : Nat) : Int) := by
  have h : i = 0 ∨ i = 1 ∨ i = 2 ∨ i = 3 := by omega
  rcases h with rfl | rfl | rfl | rfl <;> cases b <;> decide +kernel
theorem rrep_l1 (N : Nat) (ls : List S40) (os : List Int) (vs : List Bool) (ho : os.length ≤ 4) (hos : ∀ j (h : j < os.length), 0 ≤ os[j] ∧ os[j] < (vs.length : Int)) : ∀ (d i k : Nat), os.length - i = d → i ≤ os.length → d < k →
    neonwrightref07_reply.l1 k (bI vs) ((GT.num ((os.take i).map fun o => vs.getD o.toNat false) : Nat) : Int) (i : Int) (N : Int) ls os = some ((GT.num (os.map fun o => vs.getD o.toNat false) : Nat) : Int) := by
  intro d
  induction d with
  | zero =>
    intro i k hd hi hk
    obtain ⟨k, rfl⟩ : ∃ q, k = q + 1 := ⟨k - 1, by omega⟩
    simp only [neonwrightref07_reply.l1]
    rw [if_neg (by omega), List.take_of_length_le (by omega)]
  | succ d ih =>
    intro i k hd hi hk
    obtain ⟨k, rfl⟩ : ∃ q, k = q + 1 := ⟨k - 1, by omega⟩
    have hil : i < os.length := by omega
    have hw : ∀ _ : Unit, wrap64 ((i : Int) + 1) = ((i + 1 : Nat) : Int) := fun _ => by rw [w64 (by omega) (by omega)]; omega
    obtain ⟨h0, h1⟩ := hos i hil
    obtain ⟨o, ho'⟩ := Int.eq_ofNat_of_zero_le h0
    have hnl := GT.num_lt ((os.take (i + 1)).map fun o => vs.getD o.toNat false)
    have htk : (os.take (i + 1)).map (fun o => vs.getD o.toNat false) = (os.take i).map (fun o => vs.getD o.toNat false) ++ [vs.getD o false] := by
      rw [List.take_succ_eq_append_getElem hil, List.map_append, List.map_cons, List.map_nil, ho', Int.toNat_natCast]
    have hln : ((os.take i).map fun o => vs.getD o.toNat false).length = i := by rw [List.length_map, List.length_take]; omega
    have h2 := ih (i + 1) k (by omega) (by omega) (by omega)
    have hnum : GT.num ((os.take (i + 1)).map fun o => vs.getD o.toNat false) = GT.num ((os.take i).map fun o => vs.getD o.toNat false) + (vs.getD o false).toNat * 2 ^ i := by rw [htk, GT.num_append, hln]
    have hlt : GT.num ((os.take (i + 1)).map fun o => vs.getD o.toNat false) < 16 := by
      refine Nat.lt_of_lt_of_le hnl ?_
      rw [List.length_map, List.length_take, Nat.min_eq_left (by omega)]
      exact Nat.pow_le_pow_right (by decide) (show i + 1 ≤ 4 by omega)
    simp only [neonwrightref07_reply.l1]
    rw [if_pos (by omega), if_pos (by omega), rd_get _ _ hil, if_pos h0, bI_length, if_pos h1, hw (), ho', rd_bI, shl_bit _ _ (by omega)]
    have hs : ∀ _ : Unit, wrap64 (((GT.num ((os.take i).map fun o => vs.getD o.toNat false) : Nat) : Int) + (((vs.getD o false).toNat * 2 ^ i : Nat) : Int)) = ((GT.num ((os.take (i + 1)).map fun o => vs.getD o.toNat false) : Nat) : Int) := fun _ => by
      rw [w64 (by omega) (by omega), hnum]; omega
    rw [hs ()]
    exact h2
theorem rrep_l0 (N : Nat) (ls : List S40) (os : List Int) (hok : okC (N : Int) ls os = true) (F : Option Nat) (V : Nat) : ∀ (d i k : Nat), (N + ls.length) - i = d → i ≤ N + ls.length → d + 6 < k →
    neonwrightref07_reply.l0 k (V : Int) (bI ((GT.vals (toC N ls os) F V).take i)) (i : Int) (N : Int) ls os (lineOf F) (atOf F) = some ((GT.reply (toC N ls os) F V : Nat) : Int) := by
  have hs := okC_small hok
  have hc := okC_ok hok
  have hlen : (GT.vals (toC N ls os) F V).length = N + ls.length := by
    rw [GT.vals_length]
    show N + (ls.map toG).length = _
    rw [List.length_map]
  have hw2 : ∀ _ : Unit, wrap64 ((N : Int) + (ls.length : Int)) = ((N + ls.length : Nat) : Int) := fun _ => by rw [w64 (by omega) (by omega)]; omega
  intro d
  induction d with
  | zero =>
    intro i k hd hi hk
    obtain ⟨k, rfl⟩ : ∃ q, k = q + 1 := ⟨k - 1, by omega⟩
    rw [neonwrightref07_reply.l0, neonwrightref07_Lines.f, Option.bind_some]
    rw [hw2 (), if_neg (by omega), List.take_of_length_le (by omega)]
    have hos : ∀ j (h : j < os.length), 0 ≤ os[j] ∧ os[j] < ((GT.vals (toC N ls os) F V).length : Int) := fun j h => by
      rw [hlen]
      unfold okC at hok
      rw [Bool.and_eq_true, Bool.and_eq_true] at hok
      have h3 := hok.2.2
      rw [Bool.not_eq_true', List.any_eq_false] at h3
      have h4 := h3 os[j] (List.getElem_mem h)
      rw [Int.toNat_natCast] at h4
      unfold badL at h4
      simp at h4
      omega
    have e := rrep_l1 N ls os (GT.vals (toC N ls os) F V) (by omega) hos os.length 0 k (by omega) (by omega) (by omega)
    rw [List.take_zero, List.map_nil] at e
    have e2 : GT.reply (toC N ls os) F V = GT.num (os.map fun o => (GT.vals (toC N ls os) F V).getD o.toNat false) := by
      unfold GT.reply GT.outs
      rw [show (toC N ls os).os = os.map Int.toNat from rfl, List.map_map]
      rfl
    rw [e2]
    generalize GT.vals (toC N ls os) F V = vs at *
    exact e
  | succ d ih =>
    intro i k hd hi hk
    obtain ⟨k, rfl⟩ : ∃ q, k = q + 1 := ⟨k - 1, by omega⟩
    have hil : i < N + ls.length := by omega
    have hw : ∀ _ : Unit, wrap64 ((i : Int) + 1) = ((i + 1 : Nat) : Int) := fun _ => by rw [w64 (by omega) (by omega)]; omega
    have hx7 : (bI ((GT.vals (toC N ls os) F V).take i)).length = i := by rw [bI_length, List.length_take]; omega
    have h1 := ih (i + 1) k (by omega) (by omega) (by omega)
    rw [take_snoc _ _ (by omega)] at h1
    rw [neonwrightref07_reply.l0, neonwrightref07_Lines.f, Option.bind_some]
    rw [hw2 (), if_pos (by omega), hw ()]
    by_cases hin : i < N
    · rw [if_pos (by omega), if_pos (by omega), hx7, rbit V i (by omega)]
      have hv := GT.vals_in (toC N ls os) F V (show i < (toC N ls os).n from hin)
      rw [hv, put_ref] at h1
      by_cases hL : lineOf F = (i : Int)
      · rw [if_pos hL, if_pos (by omega)]
        rw [if_pos hL] at h1
        exact h1
      · rw [if_neg hL, if_pos (by omega)]
        rw [if_neg hL] at h1
        exact h1
    · obtain ⟨j, rfl⟩ : ∃ j, i = N + j := ⟨i - N, by omega⟩
      have hj : j < ls.length := by omega
      have hwj : ∀ _ : Unit, wrap64 (((N + j : Nat) : Int) - (N : Int)) = (j : Int) := fun _ => by rw [w64 (by omega) (by omega)]; omega
      have hrd : rd_T40 ls (j : Int) = ls[j] := by unfold rd_T40; rw [Int.toNat_natCast, List.getD_eq_getElem?_getD, List.getElem?_eq_getElem hj]; rfl
      have hgk := gatesOk_at (by unfold okC at hok; rw [Bool.and_eq_true, Bool.and_eq_true, Int.toNat_natCast] at hok; exact hok.2.1) hj
      have hjg : j < (toC N ls os).gs.length := by show j < (ls.map toG).length; rw [List.length_map]; exact hj
      have hgs : (toC N ls os).gs[j] = toG ls[j] := List.getElem_map toG
      have hv := GT.vals_gate hc F V hjg
      have hb := hc.g j hjg
      rw [hgs] at hv hb
      rw [show (toC N ls os).n = N from rfl] at hv hb
      rw [hv, put_ref] at h1
      have hf : 0 ≤ ls[j].f0 ∧ 0 ≤ ls[j].f1 ∧ 0 ≤ ls[j].f2 := by
        unfold gateOk at hgk
        rw [Bool.and_eq_true, Bool.and_eq_true, decide_eq_true_iff] at hgk
        obtain ⟨g1, g2, g3⟩ := hgk
        have g4 := readsL_ok (by simpa using g3)
        refine ⟨g1.1, g4.1.1, ?_⟩
        by_cases h5 : ls[j].f0 = 5
        · simp [h5] at g2; omega
        · exact (g4.2 h5).1
      rw [if_neg (by omega), hwj (), hrd]
      generalize ls[j] = s at *
      obtain ⟨f0, f1, f2⟩ := s
      simp only [toG] at hf hb h1 ⊢
      obtain ⟨a, rfl⟩ := Int.eq_ofNat_of_zero_le hf.1
      obtain ⟨b, rfl⟩ := Int.eq_ofNat_of_zero_le hf.2.1
      obtain ⟨c, rfl⟩ := Int.eq_ofNat_of_zero_le hf.2.2
      simp only [Int.toNat_natCast] at hb h1
      rw [if_pos (by omega), if_pos (by omega), if_pos (by omega), hx7, if_pos (by omega), if_pos (by omega), if_pos (by omega), rd_bI, rd_bI, take_getD _ _ _ hb.2.1, take_getD _ _ _ hb.2.2.1, rgate_f _ _ _ hb.1, Option.bind_some]
      by_cases hL : lineOf F = ((N + j : Nat) : Int)
      · rw [if_pos hL, if_pos (by omega)]
        rw [if_pos hL] at h1
        exact h1
      · rw [if_neg hL, if_pos (by omega)]
        rw [if_neg hL] at h1
        exact h1
theorem rreply_f (N : Nat) (ls : List S40) (os : List Int) (hok : okC (N : Int) ls os = true) (F : Option Nat) (V : Nat) (k : Nat) (hk : 40 ≤ k) :
    neonwrightref07_reply.f k (N : Int) ls os (lineOf F) (atOf F) (V : Int) = some ((GT.reply (toC N ls os) F V : Nat) : Int) := by
  have hs := okC_small hok
  exact rrep_l0 N ls os hok F V (N + ls.length) 0 k (by omega) (by omega) (by omega)
end Go.Proofs.Ytelfalicickelaa.P
set_option linter.unusedSimpArgs false
set_option linter.unusedVariables false
namespace Go.Proofs.Ytelfalicickelaa.P
open Go.Lib Go.RowKit Go.Proofs.YtelfalicickelaaW.PrintWords Go.Proofs.YtelfalicickelaaW.PrintLast Go.Proofs.YtelfalicickelaaW.PrintMore Go.Proofs.Ytelfalicickelaa.Kit
def isFew (ls : List S40) (os : List Int) : Bool := decide (ls.length ≤ 40) && decide (os.length ≤ 40)
theorem few_f (n : Int) (ls : List S40) (os : List Int) : neonwrightlaw07_few.f n ls os = some (isFew ls os) := by
  unfold neonwrightlaw07_few.f isFew
  by_cases h : ls.length ≤ 40
  · rw [if_pos (by omega), decide_eq_true h, Bool.true_and]
    congr 1
    by_cases h2 : os.length ≤ 40
    · rw [decide_eq_true h2, decide_eq_true (by omega)]
    · rw [decide_eq_false h2, decide_eq_false (by omega)]
  · rw [if_neg (by omega), decide_eq_false h, Bool.false_and]
theorem alive_f : neonwrightlaw07_alive.f = some true := rfl
theorem same_l0 (a b : List Int) (hl : a.length = b.length) (hs : a.length ≤ 1000) : ∀ (d i k : Nat), a.length - i = d → i ≤ a.length → d < k →
    neonwrightlaw07_same.l0 k a b (i : Int) = some (decide (a.drop i = b.drop i)) := by
  intro d
  induction d with
  | zero =>
    intro i k hd hi hk
    obtain ⟨k, rfl⟩ : ∃ q, k = q + 1 := ⟨k - 1, by omega⟩
    rw [neonwrightlaw07_same.l0, if_neg (by omega), List.drop_eq_nil_of_le (by omega), List.drop_eq_nil_of_le (by omega)]
    rfl
  | succ d ih =>
    intro i k hd hi hk
    obtain ⟨k, rfl⟩ : ∃ q, k = q + 1 := ⟨k - 1, by omega⟩
    have hw : wrap64 ((i : Int) + 1) = ((i + 1 : Nat) : Int) := by rw [w64 (by omega) (by omega)]; omega
    have ha : i < a.length := by omega
    have hb : i < b.length := by omega
    rw [neonwrightlaw07_same.l0, if_pos (by omega), if_pos (by omega), if_pos (by omega), rd_get _ _ ha, rd_get _ _ hb, List.drop_eq_getElem_cons ha, List.drop_eq_getElem_cons hb, hw]
    by_cases h : a[i] = b[i]
    · rw [if_pos h, ih (i + 1) k (by omega) (by omega) (by omega), h]
      congr 1
      by_cases h2 : a.drop (i + 1) = b.drop (i + 1)
      · rw [h2]; simp
      · rw [decide_eq_false h2, decide_eq_false (fun e => h2 (List.cons.inj e).2)]
    · rw [if_neg h, decide_eq_false (fun e => h (List.cons.inj e).1)]
theorem same_f (a b : List Int) (hs : a.length ≤ 1000) (k : Nat) (hk : a.length < k) : neonwrightlaw07_same.f k a b = some (decide (a = b)) := by
  unfold neonwrightlaw07_same.f
  by_cases h : a.length = b.length
  · rw [if_pos (by omega)]
    exact same_l0 a b h hs a.length 0 k (by omega) (by omega) (by omega)
  · rw [if_neg (by omega), decide_eq_false (fun e => h (congrArg List.length e))]
theorem vecOk_nat {N : Nat} {v : Int} : vecOk (N : Int) v ↔ 0 ≤ v ∧ v < ((2 ^ N : Nat) : Int) := by unfold vecOk; rw [Int.toNat_natCast]
theorem vec_f (N : Nat) (hN : N ≤ 6) (ls : List S40) (os : List Int) (v : Int) : neonwrightref07_Vector.f (N : Int) ls os v = some (decide (vecOk (N : Int) v)) := by
  unfold neonwrightref07_Vector.f
  by_cases h : 0 ≤ v
  · rw [if_pos h, if_pos (by omega), shl1n (n := N) (by omega)]
    congr 1
    by_cases h2 : v < ((2 ^ N : Nat) : Int)
    · rw [decide_eq_true h2, decide_eq_true (vecOk_nat.2 ⟨h, h2⟩)]
    · rw [decide_eq_false h2, decide_eq_false (fun e => h2 (vecOk_nat.1 e).2)]
  · rw [if_neg h, decide_eq_false (fun e => h (vecOk_nat.1 e).1)]
theorem lines_f (N : Nat) (hN : N ≤ 6) (ls : List S40) (hl : ls.length ≤ 100) (os : List Int) : neonwrightref07_Lines.f (N : Int) ls os = some ((N + ls.length : Nat) : Int) := by
  unfold neonwrightref07_Lines.f
  rw [w64 (by omega) (by omega)]
  congr 1
theorem failure_f (f : Nat) (hf : f ≤ 1000) : neonwrightref07_failure.f (f : Int) = some (lineOf (some f), atOf (some f)) := by
  unfold neonwrightref07_failure.f
  have h1 : Int.tdiv (f : Int) 2 = ((f / 2 : Nat) : Int) := rfl
  have h2 : Int.tmod (f : Int) 2 = ((f % 2 : Nat) : Int) := rfl
  rw [h1, h2, w64 (by omega) (by omega)]
  rfl
theorem okC_nat {n : Int} {ls : List S40} {os : List Int} (h : okC n ls os = true) : ∃ N : Nat, n = (N : Int) := ⟨n.toNat, by have := okC_small h; omega⟩
end Go.Proofs.Ytelfalicickelaa.P
set_option linter.unusedSimpArgs false
set_option linter.unusedVariables false
namespace Go.Proofs.Ytelfalicickelaa.P
open Go.Lib Go.RowKit Go.Proofs.YtelfalicickelaaW.PrintWords Go.Proofs.YtelfalicickelaaW.PrintLast Go.Proofs.YtelfalicickelaaW.PrintMore Go.Proofs.Ytelfalicickelaa.Kit
section
theorem rsus_l2 (N : Nat) (ls : List S40) (os : List Int) (hok : okC (N : Int) ls os = true) (vs rs : List Int) (hl : vs.length = rs.length) (h64 : vs.length ≤ 64) (hv : ∀ j, j < vs.length → 0 ≤ rd vs (j : Int)) (f : Nat) (hf : f ≤ 44) (acc : List Int) (ha : acc.length ≤ 44) (K : Nat) : ∀ (d j k : Nat), vs.length - j = d → j ≤ vs.length → K + 2 * d + 50 ≤ k →
    ∃ k', K ≤ k' ∧ neonwrightref07_Suspects.l2 k vs rs acc (f : Int) (fitsTo (toC N ls os) vs rs f j) (j : Int) (N : Int) ls os = neonwrightref07_Suspects.l1 k' vs rs (if fitsTo (toC N ls os) vs rs f vs.length = true then acc ++ [(f : Int)] else acc) ((f + 1 : Nat) : Int) (N : Int) ls os := by
  have hw : ∀ _ : Unit, wrap64 ((f : Int) + 1) = ((f + 1 : Nat) : Int) := fun _ => by rw [w64 (by omega) (by omega)]; omega
  -- a list of replies that does not fit any more
  have hno : ∀ j k, j ≤ vs.length → K + 2 ≤ k → fitsTo (toC N ls os) vs rs f j = false → ∃ k', K ≤ k' ∧ neonwrightref07_Suspects.l2 k vs rs acc (f : Int) false (j : Int) (N : Int) ls os = neonwrightref07_Suspects.l1 k' vs rs (if fitsTo (toC N ls os) vs rs f vs.length = true then acc ++ [(f : Int)] else acc) ((f + 1 : Nat) : Int) (N : Int) ls os := by
    intro j k hj hk hb
    obtain ⟨k, rfl⟩ : ∃ q, k = q + 2 := ⟨k - 2, by omega⟩
    have hall : fitsTo (toC N ls os) vs rs f vs.length = false := by
      unfold fitsTo at hb ⊢
      rw [List.all_eq_false] at hb ⊢
      obtain ⟨x, hx1, hx2⟩ := hb
      exact ⟨x, List.mem_range.2 (by have := List.mem_range.1 hx1; omega), hx2⟩
    refine ⟨k, by omega, ?_⟩
    rw [hall, if_neg (by decide), neonwrightref07_Suspects.l2]
    have hj4 : neonwrightref07_Suspects.j4 (k + 1) vs rs acc (f : Int) false (j : Int) false (N : Int) ls os = neonwrightref07_Suspects.l1 k vs rs acc ((f + 1 : Nat) : Int) (N : Int) ls os := by
      rw [neonwrightref07_Suspects.j4, if_neg (by decide), if_neg (by decide), hw ()]
    split <;> exact hj4
  intro d
  induction d with
  | zero =>
    intro j k hd hj hk
    obtain ⟨k, rfl⟩ : ∃ q, k = q + 2 := ⟨k - 2, by omega⟩
    have hjn : j = vs.length := by omega
    cases hb : fitsTo (toC N ls os) vs rs f j with
    | false => exact hno j (k + 2) hj (by omega) hb
    | true =>
      refine ⟨k, by omega, ?_⟩
      rw [← hjn, hb, if_pos rfl, neonwrightref07_Suspects.l2, if_neg (by omega), neonwrightref07_Suspects.j4, if_neg (by decide), if_pos rfl, if_pos (by omega), hw ()]
  | succ d ih =>
    intro j k hd hj hk
    have hjl : j < vs.length := by omega
    cases hb : fitsTo (toC N ls os) vs rs f j with
    | false => exact hno j k hj (by omega) hb
    | true =>
      obtain ⟨k, rfl⟩ : ∃ q, k = q + 2 := ⟨k - 2, by omega⟩
      have hw2 : ∀ _ : Unit, wrap64 ((j : Int) + 1) = ((j + 1 : Nat) : Int) := fun _ => by rw [w64 (by omega) (by omega)]; omega
      obtain ⟨V, hV⟩ := Int.eq_ofNat_of_zero_le (hv j hjl)
      have hfit : fitAt (toC N ls os) vs rs f j = (((GT.reply (toC N ls os) (some f) V : Nat) : Int) == rd rs (j : Int)) := by
        unfold fitAt
        rw [hV, Int.toNat_natCast, Bool.eq_iff_iff, decide_eq_true_iff, beq_iff_eq]
      have hs : fitsTo (toC N ls os) vs rs f (j + 1) = (((GT.reply (toC N ls os) (some f) V : Nat) : Int) == rd rs (j : Int)) := by
        rw [fitsTo_succ, hb, Bool.true_and, hfit]
      obtain ⟨k', h1, h2⟩ := ih (j + 1) k (by omega) (by omega) (by omega)
      rw [hs] at h2
      refine ⟨k', h1, ?_⟩
      rw [neonwrightref07_Suspects.l2, if_pos (by omega), neonwrightref07_Suspects.j4, if_pos rfl, failure_f f (by omega), Option.bind_some, if_pos (by omega), if_pos (by omega), hV]
      dsimp only
      rw [rreply_f N ls os hok (some f) V k (by omega), Option.bind_some, if_pos (by omega), hw2 ()]
      exact h2
theorem rsus_l1 (N : Nat) (ls : List S40) (os : List Int) (hok : okC (N : Int) ls os = true) (vs rs : List Int) (hl : vs.length = rs.length) (h64 : vs.length ≤ 64) (hv : ∀ j, j < vs.length → 0 ≤ rd vs (j : Int)) : ∀ (d f k : Nat), 2 * (N + ls.length) - f = d → f ≤ 2 * (N + ls.length) → 300 * d + 1 ≤ k →
    neonwrightref07_Suspects.l1 k vs rs (nI (susTo (toC N ls os) vs rs f)) (f : Int) (N : Int) ls os = some (nI (susTo (toC N ls os) vs rs (2 * (N + ls.length))), 0) := by
  have hs := okC_small hok
  intro d
  induction d with
  | zero =>
    intro f k hd hf hk
    obtain ⟨k, rfl⟩ : ∃ q, k = q + 1 := ⟨k - 1, by omega⟩
    rw [neonwrightref07_Suspects.l1, lines_f N (by omega) ls (by omega), Option.bind_some, w64 (x := 2 * ((N + ls.length : Nat) : Int)) (by omega) (by omega), if_neg (by omega), show f = 2 * (N + ls.length) by omega]
  | succ d ih =>
    intro f k hd hf hk
    obtain ⟨k, rfl⟩ : ∃ q, k = q + 1 := ⟨k - 1, by omega⟩
    have hlen := susTo_len (toC N ls os) vs rs f
    have h0 : fitsTo (toC N ls os) vs rs f 0 = true := rfl
    obtain ⟨k', h1, h2⟩ := rsus_l2 N ls os hok vs rs hl h64 hv f (by omega) (nI (susTo (toC N ls os) vs rs f)) (by rw [nI_length]; omega) (300 * d + 1) vs.length 0 k (by omega) (by omega) (by omega)
    rw [h0, show ((0 : Nat) : Int) = 0 from rfl] at h2
    have h3 := ih (f + 1) k' (by omega) (by omega) h1
    rw [susTo_succ] at h3
    rw [neonwrightref07_Suspects.l1, lines_f N (by omega) ls (by omega), Option.bind_some, w64 (x := 2 * ((N + ls.length : Nat) : Int)) (by omega) (by omega), if_pos (by omega), h2]
    by_cases hb : fitsTo (toC N ls os) vs rs f vs.length = true
    · rw [if_pos hb] at h3 ⊢
      rw [nI_snoc] at h3
      exact h3
    · rw [if_neg hb] at h3 ⊢
      exact h3
theorem rsus_l0 (N : Nat) (ls : List S40) (os : List Int) (hok : okC (N : Int) ls os = true) (vs rs : List Int) (hl : vs.length = rs.length) (h64 : vs.length ≤ 64) : ∀ (d i k : Nat), vs.length - i = d → i ≤ vs.length → (∀ j, j < i → susAt N os.length vs rs j = true) → 14000 + d ≤ k →
    neonwrightref07_Suspects.l0 k vs rs (i : Int) (N : Int) ls os = some (if susOk N os.length vs rs = true then (nI (susTo (toC N ls os) vs rs (2 * (N + ls.length))), 0) else ([], 2)) := by
  have hs := okC_small hok
  have hbad : ∀ i, i < vs.length → susAt N os.length vs rs i = false → susOk N os.length vs rs = false := fun i hi hb => by
    unfold susOk
    rw [List.all_eq_false]
    exact ⟨i, List.mem_range.2 hi, by rw [hb]; decide⟩
  intro d
  induction d with
  | zero =>
    intro i k hd hi hA hk
    obtain ⟨k, rfl⟩ : ∃ q, k = q + 1 := ⟨k - 1, by omega⟩
    have hall : susOk N os.length vs rs = true := by
      unfold susOk
      exact List.all_eq_true.2 fun j hj => hA j (by have := List.mem_range.1 hj; omega)
    have hv : ∀ j, j < vs.length → 0 ≤ rd vs (j : Int) := fun j hj => by
      have := hA j (by omega)
      unfold susAt at this
      rw [Bool.and_eq_true, decide_eq_true_iff] at this
      exact this.1.1
    rw [neonwrightref07_Suspects.l0, if_neg (by omega), hall, if_pos rfl]
    exact rsus_l1 N ls os hok vs rs hl h64 hv (2 * (N + ls.length)) 0 k (Nat.sub_zero _) (Nat.zero_le _) (by omega)
  | succ d ih =>
    intro i k hd hi hA hk
    obtain ⟨k, rfl⟩ : ∃ q, k = q + 1 := ⟨k - 1, by omega⟩
    have hil : i < vs.length := by omega
    have hw : ∀ _ : Unit, wrap64 ((i : Int) + 1) = ((i + 1 : Nat) : Int) := fun _ => by rw [w64 (by omega) (by omega)]; omega
    have hsa : susAt N os.length vs rs i = (decide (0 ≤ rd vs (i : Int) ∧ rd vs (i : Int) < ((2 ^ N : Nat) : Int)) && decide (0 ≤ rd rs (i : Int) ∧ rd rs (i : Int) < ((2 ^ os.length : Nat) : Int))) := rfl
    rw [neonwrightref07_Suspects.l0, if_pos (by omega), if_pos (by omega), vec_f N (by omega), Option.bind_some, shl1n (by omega), hw ()]
    have hh := hbad i hil
    by_cases hv : vecOk (N : Int) (rd vs (i : Int))
    · have hv' := vecOk_nat.1 hv
      rw [decide_eq_true hv'] at hsa
      rw [Bool.true_and] at hsa
      rw [decide_eq_true hv, if_pos rfl, if_pos (by omega)]
      by_cases h1 : rd rs (i : Int) < 0
      · rw [if_pos h1, hh (by rw [hsa]; exact decide_eq_false (fun e => by have := e.1; omega)), if_neg (by decide)]
      · rw [if_neg h1]
        by_cases h2 : ((2 ^ os.length : Nat) : Int) ≤ rd rs (i : Int)
        · rw [if_pos h2, hh (by rw [hsa]; exact decide_eq_false (fun e => by have := e.2; omega)), if_neg (by decide)]
        · rw [if_neg h2]
          exact ih (i + 1) k (by omega) (by omega) (fun j hj => by
            by_cases e : j = i
            · rw [e, hsa]; exact decide_eq_true ⟨by omega, by omega⟩
            · exact hA j (by omega)) (by omega)
    · rw [decide_eq_false hv, if_neg (by decide), hh (by rw [hsa, decide_eq_false (fun e => hv (vecOk_nat.2 e)), Bool.false_and]), if_neg (by decide)]
theorem rSuspects_f (n : Int) (ls : List S40) (os : List Int) (vs rs : List Int) (k : Nat) (hk : 20000 ≤ k) : neonwrightref07_Suspects.f k n ls os vs rs = gate_Suspects.f n ls os vs rs := by
  obtain ⟨k, rfl⟩ : ∃ q, k = q + 1 := ⟨k - 1, by omega⟩
  have hj : neonwrightref07_Suspects.j0 (k + 1) vs rs true n ls os = some ([], 2) := by rw [neonwrightref07_Suspects.j0, if_pos rfl]
  unfold neonwrightref07_Suspects.f gate_Suspects.f
  rw [rCircuit_f n ls os (k + 1) (by omega), Option.bind_some]
  by_cases h : okC n ls os = true
  · obtain ⟨N, rfl⟩ := okC_nat h
    rw [if_pos h]
    by_cases hl : vs.length = rs.length
    · rw [if_pos (by omega)]
      by_cases h64 : vs.length ≤ 64
      · rw [decide_eq_false (by omega), neonwrightref07_Suspects.j0, if_neg (by decide), Int.toNat_natCast]
        have e := rsus_l0 N ls os h vs rs hl h64 vs.length 0 k (by omega) (by omega) (fun j hj => absurd hj (Nat.not_lt_zero _)) (by omega)
        rw [show ((0 : Nat) : Int) = 0 from rfl] at e
        rw [e]
        congr 1
        by_cases hsu : susOk N os.length vs rs = true
        · rw [if_pos hsu, if_pos ⟨h, hl, h64, hsu⟩]
        · rw [if_neg hsu, if_neg (fun e => hsu e.2.2.2)]
      · rw [decide_eq_true (by omega), hj, if_neg (fun e => h64 e.2.2.1)]
    · rw [if_neg (by omega), hj, if_neg (fun e => hl e.2.1)]
  · rw [if_neg h, hj, if_neg (fun e => h e.1)]
theorem sus_small (n : Int) (ls : List S40) (os : List Int) (vs rs : List Int) : ∃ p, gate_Suspects.f n ls os vs rs = some p ∧ p.1.length ≤ 44 := by
  refine ⟨_, rfl, ?_⟩
  split
  · rename_i h
    obtain ⟨N, rfl⟩ := okC_nat h.1
    have hs := okC_small h.1
    rw [Int.toNat_natCast]
    show (nI _).length ≤ 44
    rw [nI_length]
    exact Nat.le_trans (susTo_len _ _ _ _) (by omega)
  · exact Nat.zero_le _
end
end Go.Proofs.Ytelfalicickelaa.P
set_option linter.unusedSimpArgs false
set_option linter.unusedVariables false
namespace Go.Proofs.Ytelfalicickelaa.Pure
open Go.RowKit Go.Proofs.Ytelfalicickelaa.P Go.Proofs.YtelfalicickelaaW.PrintWords Go.Proofs.YtelfalicickelaaW.PrintLast Go.Proofs.YtelfalicickelaaW.PrintMore Go.Proofs.Ytelfalicickelaa.Kit
theorem GateSuspects (n : Int) (ls : List S40) (os : List Int) (vs rs : List Int) (w0 : (Lit.int .i64 n).wf = true) (w1 : ∀ x, x ∈ vs → (Lit.int .i64 x).wf = true) (w2 : ∀ x, x ∈ rs → (Lit.int .i64 x).wf = true) : ∃ k, neonwrightlaw07_GateSuspects.f k n ls os vs rs = some true := by
  obtain ⟨K, hK⟩ : ∃ K : Nat, 30000 ≤ K := ⟨30000, Nat.le_refl _⟩
  refine ⟨K + 1, ?_⟩
  have hj : ∀ b, neonwrightlaw07_GateSuspects.j0 (K + 1) vs rs b n ls os = some true := fun b => by
    cases b with
    | true => rw [neonwrightlaw07_GateSuspects.j0, if_pos rfl, alive_f, Option.bind_some]
    | false =>
      obtain ⟨p, hp, hpl⟩ := sus_small n ls os vs rs
      rw [neonwrightlaw07_GateSuspects.j0, if_neg (by decide), hp, Option.bind_some, rSuspects_f n ls os vs rs K (by omega), hp, Option.bind_some, same_f _ _ (by omega) K (by omega), Option.bind_some, if_pos (by simp), if_pos rfl, alive_f, Option.bind_some]
  unfold neonwrightlaw07_GateSuspects.f
  rw [few_f, Option.bind_some]
  split
  · split
    · exact hj true
    · exact hj _
  · exact hj true
end Go.Proofs.Ytelfalicickelaa.Pure
