/- Texts of this claim, merged by a program (shake.py): what the last theorems reach of Pf4, RCirc, RRep, RBase, RRef, RHas. -/
import Derived.Test.YtelfalicickelaaKB1
import Derived.Test.YtelfalicickelaaKGateFewest1
import Derived.Test.YtelfalicickelaaKGateFewest5
import Derived.Test.YtelfalicickelaaKB8
import Derived.Test.YtelfalicickelaaKGateFewest7
import Derived.Test.YtelfalicickelaaKB6
import Derived.Test.YtelfalicickelaaKB5
import Derived.Test.YtelfalicickelaaKB2
import Derived.Test.YtelfalicickelaaKB3
import Derived.Test.YtelfalicickelaaKGateFewest2
import Derived.Test.YtelfalicickelaaKGateFewest3
import Derived.Test.YtelfalicickelaaKGateFewest4
namespace Go.Proofs.Ytelfalicickelaa.P
open Go.RowKit Go.Proofs.YtelfalicickelaaW.PrintWords Go.Proofs.YtelfalicickelaaW.PrintLast Go.Proofs.YtelfalicickelaaW.PrintMore
attribute [local go_sem] max2_int max_two
set_option linter.unusedVariables false
set_option linter.unusedSimpArgs false
def neonwrightlaw07_GateFewest.j0 : Nat → Bool → Int → List (S40) → List Int → Option (Bool)
  | 0, _, _, _, _ => none
  | k + 1, x29, x276000, x276001, x276002 => if x29 = true then (some false) else ((gate_Apart.f x276000 x276001 x276002).bind fun bt287 => ((neonwrightref07_Apart.f k x276000 x276001 x276002).bind fun bt291 => ((neonwrightlaw07_same.f k bt287.1 bt291.1).bind fun t295 => (if t295 = true then (if bt287.2 = bt291.2 then ((neonwrightlaw07_alive.f).bind fun t296 => (some t296)) else (some false)) else (some false)))))
def neonwrightlaw07_GateFewest.f (k : Nat) (a0_0 : Int) (l0_1 : List (S40)) (l0_2 : List Int) : Option (Bool) := (neonwrightlaw07_few.f a0_0 l0_1 l0_2).bind fun t276 => (if t276 = true then ((gate_Fewest.f a0_0 l0_1 l0_2).bind fun bt278 => ((neonwrightref07_Fewest.f k a0_0 l0_1 l0_2).bind fun bt282 => ((neonwrightlaw07_same.f k bt278.1 bt282.1).bind fun t286 => (if t286 = true then (neonwrightlaw07_GateFewest.j0 k (bt278.2 != bt282.2) a0_0 l0_1 l0_2) else (neonwrightlaw07_GateFewest.j0 k true a0_0 l0_1 l0_2))))) else ((neonwrightlaw07_alive.f).bind fun t277 => (some t277)))
set_option maxHeartbeats 8000000 in
set_option maxRecDepth 100000 in
theorem neonwrightlaw07_GateFewest.calls (k : Nat) (a0_0 : Int) (A0_1 : Option Addr) (c0_1 : Nat) (l0_1 : List (S40)) (A0_2 : Option Addr) (c0_2 : Nat) (l0_2 : List Int) (r : Bool) (w : World) (hr0_1 : Kd.C k40 w A0_1 l0_1.length l0_1) (hc0_1 : l0_1.length ≤ c0_1) (hr0_2 : Kd.C (Kd.int .i64) w A0_2 l0_2.length l0_2) (hc0_2 : l0_2.length ≤ c0_2) (h : neonwrightlaw07_GateFewest.f k a0_0 l0_1 l0_2 = some r) :
    Calls Try.prog 4 #[.agg #[.int .i64 a0_0, .slice A0_1 l0_1.length c0_1, .slice A0_2 l0_2.length c0_2]] w fun e w' => e = .returned (.bool r) ∧ Below w.heap.size w w' := by
  have hu25 := Try.underlying25
  have HR0_1 := Aside0.mk hr0_1
  have HC0_1 := Aside0.mk hc0_1
  clear hr0_1 hc0_1
  have HR0_2 := Aside0.mk hr0_2
  have HC0_2 := Aside0.mk hc0_2
  clear hr0_2 hc0_2
  have HB := Aside0.mk (Below.refl w.heap.size w)
  have H : ((neonwrightlaw07_few.f a0_0 l0_1 l0_2).bind fun t276 => (if t276 = true then ((gate_Fewest.f a0_0 l0_1 l0_2).bind fun bt278 => ((neonwrightref07_Fewest.f k a0_0 l0_1 l0_2).bind fun bt282 => ((neonwrightlaw07_same.f k bt278.1 bt282.1).bind fun t286 => (if t286 = true then (neonwrightlaw07_GateFewest.j0 k (bt278.2 != bt282.2) a0_0 l0_1 l0_2) else (neonwrightlaw07_GateFewest.j0 k true a0_0 l0_1 l0_2))))) else ((neonwrightlaw07_alive.f).bind fun t277 => (some t277)))) = some r := h
  clear h
  replace H := Option.bind_eq_some_iff.mp H
  obtain ⟨t276, A20, H⟩ := H
  replace H : (if t276 = true then ((gate_Fewest.f a0_0 l0_1 l0_2).bind fun bt278 => ((neonwrightref07_Fewest.f k a0_0 l0_1 l0_2).bind fun bt282 => ((neonwrightlaw07_same.f k bt278.1 bt282.1).bind fun t286 => (if t286 = true then (neonwrightlaw07_GateFewest.j0 k (bt278.2 != bt282.2) a0_0 l0_1 l0_2) else (neonwrightlaw07_GateFewest.j0 k true a0_0 l0_1 l0_2))))) else ((neonwrightlaw07_alive.f).bind fun t277 => (some t277))) = some r := H
  have A2 := Aside0.mk A20
  clear A20
  by_cases c3 : t276 = true
  · subst c3
    have H1 : ((gate_Fewest.f a0_0 l0_1 l0_2).bind fun bt278 => ((neonwrightref07_Fewest.f k a0_0 l0_1 l0_2).bind fun bt282 => ((neonwrightlaw07_same.f k bt278.1 bt282.1).bind fun t286 => (if t286 = true then (neonwrightlaw07_GateFewest.j0 k (bt278.2 != bt282.2) a0_0 l0_1 l0_2) else (neonwrightlaw07_GateFewest.j0 k true a0_0 l0_1 l0_2))))) = some r := by rw [if_pos rfl] at H; exact H
    clear H
    have H := H1
    clear H1
    replace H := Option.bind_eq_some_iff.mp H
    obtain ⟨⟨t278, t281⟩, A40, H⟩ := H
    replace H : ((neonwrightref07_Fewest.f k a0_0 l0_1 l0_2).bind fun bt282 => ((neonwrightlaw07_same.f k t278 bt282.1).bind fun t286 => (if t286 = true then (neonwrightlaw07_GateFewest.j0 k (t281 != bt282.2) a0_0 l0_1 l0_2) else (neonwrightlaw07_GateFewest.j0 k true a0_0 l0_1 l0_2)))) = some r := H
    have A4 := Aside0.mk A40
    clear A40
    replace H := Option.bind_eq_some_iff.mp H
    obtain ⟨⟨t282, t285⟩, A50, H⟩ := H
    replace H : ((neonwrightlaw07_same.f k t278 t282).bind fun t286 => (if t286 = true then (neonwrightlaw07_GateFewest.j0 k (t281 != t285) a0_0 l0_1 l0_2) else (neonwrightlaw07_GateFewest.j0 k true a0_0 l0_1 l0_2))) = some r := H
    have A5 := Aside0.mk A50
    clear A50
    have HC6 := Aside0.mk H
    clear H
    go_enter Try.func4, Try.ntmps4
    go_upto_region 5 with (first | ((with_reducible refine gate_dst (N := 1) rfl ?_); refine box_event ?hg (N := 1) ?hd (cs := #[.int .i64 a0_0, .slice A0_1 l0_1.length c0_1, .slice A0_2 l0_2.length c0_2]) (t := 25) ?hr ?_; (case hd => rfl); (case hg => rfl); (case hr => first | (go_simp; done) | (go_simp; rfl)); intro gb275 hg w7 hbox hb; have n0_ := Aside0.mk (below_step (by repeat (first | (with_reducible first | exact HB.out | apply below_alloc | apply pw_below_drewN | apply below_drew1) | exact HB.out)) hb); have n1_ := Aside0.mk (hbox); have n2_ := Aside0.mk ((by rw [hg]; exact (below_size (by repeat (first | (with_reducible first | exact HB.out | apply below_alloc | apply pw_below_drewN | apply below_drew1) | exact HB.out))) : w.heap.size ≤ gb275)); have n3_ := Aside0.mk ((by rw [hg]; exact (below_size (by repeat (first | (with_reducible first | exact HB.out | apply below_alloc | apply pw_below_drewN | apply below_drew1) | exact HB.out))) : w.heap.size ≤ gb275)); clear HB; have HB := n0_; have BK275 := n1_; have GW275 := n2_; have GE275 := n3_; clear n0_ n1_ n2_ n3_; clear hb hbox hg; have hcz8_0 : w7.cell? ⟨gb275, 0, none⟩ = some (.int .i64 a0_0) := (blk_cell BK275.out 0).trans rfl; have hcz8_1 : w7.cell? ⟨gb275, 1, none⟩ = some (.slice A0_1 l0_1.length c0_1) := (blk_cell BK275.out 1).trans rfl; have hcz8_2 : w7.cell? ⟨gb275, 2, none⟩ = some (.slice A0_2 l0_2.length c0_2) := (blk_cell BK275.out 2).trans rfl; have hfz8_0 := blk_frozen BK275.out 0; have hfz8_1 := blk_frozen BK275.out 1; have hfz8_2 := blk_frozen BK275.out 2) | ((with_reducible refine gate_callee (f := 15) rfl ?_); refine goesL_ (some 8) rfl rfl Try.func15 (by kernel_rfl) rfl #[.agg #[.int .i64 a0_0, .slice A0_1 l0_1.length c0_1, .slice A0_2 l0_2.length c0_2]] rfl (by (try simp only [List.map_toArray, List.map_cons, List.map_nil]); first | done | rfl | (simp only [List.length_drop, List.length_take]; rfl)) ?_; (with_reducible refine (neonwrightlaw07_few.calls a0_0 _ _ l0_1 _ _ l0_2 true _ ?side1 ?side2 ?side3 ?side4 A2.out).mono ?_); (case side1 => repeat (first | exact (Kd.C_below HR0_1.out HB.out) | (with_reducible refine Kd.C_alloc ?_ _) | (with_reducible refine Kd.C_drewN ?_ _) | (with_reducible refine Kd.C_drew ?_))); (case side2 => exact HC0_1.out); (case side3 => repeat (first | exact (Kd.C_below HR0_2.out HB.out) | (with_reducible refine Kd.C_alloc ?_ _) | (with_reducible refine Kd.C_drewN ?_ _) | (with_reducible refine Kd.C_drew ?_))); (case side4 => exact HC0_2.out); rintro e w9 ⟨rfl, hb⟩; refine ⟨_, rfl, ?_⟩; have n0_ := Aside0.mk (blk_below (g := gb275) (o := .cells #[.int .i64 a0_0, .slice A0_1 l0_1.length c0_1, .slice A0_2 l0_2.length c0_2] 25 (0, 0)) (by (with_reducible repeat (first | refine blk_drewN ?_ _ | refine blk_drew ?_ | refine blk_alloc ?_ _)); exact BK275.out) hb); have n1_ := Aside0.mk (below_step (by repeat (first | (with_reducible first | exact HB.out | apply below_alloc | apply pw_below_drewN | apply below_drew1 | refine below_set ?_ GE275.out) | exact HB.out)) hb); clear BK275; clear HB; have BK275 := n0_; have HB := n1_; clear n0_ n1_; (try clear hb); (try clear hb2); (try clear hk); (try clear hi); have hcz10_0 : w9.cell? ⟨gb275, 0, none⟩ = some (.int .i64 a0_0) := (blk_cell BK275.out 0).trans rfl; have hcz10_1 : w9.cell? ⟨gb275, 1, none⟩ = some (.slice A0_1 l0_1.length c0_1) := (blk_cell BK275.out 1).trans rfl; have hcz10_2 : w9.cell? ⟨gb275, 2, none⟩ = some (.slice A0_2 l0_2.length c0_2) := (blk_cell BK275.out 2).trans rfl; have hfz10_0 := blk_frozen BK275.out 0; have hfz10_1 := blk_frozen BK275.out 1; have hfz10_2 := blk_frozen BK275.out 2) | ((with_reducible refine gate_callee (f := 20) rfl ?_); refine goesL_ (some 13) rfl rfl Try.func20 (by kernel_rfl) rfl #[.agg #[.int .i64 a0_0, .slice A0_1 l0_1.length c0_1, .slice A0_2 l0_2.length c0_2]] rfl (by (try simp only [List.map_toArray, List.map_cons, List.map_nil]); first | done | rfl | (simp only [List.length_drop, List.length_take]; rfl)) ?_; (with_reducible refine (gate_Fewest.calls a0_0 _ _ l0_1 _ _ l0_2 t278 t281 _ ?side1 ?side2 ?side3 ?side4 A4.out).mono ?_); (case side1 => repeat (first | exact (Kd.C_below HR0_1.out HB.out) | (with_reducible refine Kd.C_alloc ?_ _) | (with_reducible refine Kd.C_drewN ?_ _) | (with_reducible refine Kd.C_drew ?_))); (case side2 => exact HC0_1.out); (case side3 => repeat (first | exact (Kd.C_below HR0_2.out HB.out) | (with_reducible refine Kd.C_alloc ?_ _) | (with_reducible refine Kd.C_drewN ?_ _) | (with_reducible refine Kd.C_drew ?_))); (case side4 => exact HC0_2.out); rintro e w11 ⟨v279, rfl, ho0, hb⟩; refine ⟨_, rfl, ?_⟩; have n0_ := Aside0.mk (Kd.R_lower ho0 (below_size (by repeat (first | (with_reducible first | exact HB.out | apply below_alloc | apply pw_below_drewN | apply below_drew1 | refine below_set ?_ GE275.out) | exact HB.out)))); have n1_ := Aside0.mk (blk_below (g := gb275) (o := .cells #[.int .i64 a0_0, .slice A0_1 l0_1.length c0_1, .slice A0_2 l0_2.length c0_2] 25 (0, 0)) (by (with_reducible repeat (first | refine blk_drewN ?_ _ | refine blk_drew ?_ | refine blk_alloc ?_ _)); exact BK275.out) hb); have n2_ := Aside0.mk (below_step (by repeat (first | (with_reducible first | exact HB.out | apply below_alloc | apply pw_below_drewN | apply below_drew1 | refine below_set ?_ GE275.out) | exact HB.out)) hb); clear BK275; clear HB; have HO280 := n0_; have BK275 := n1_; have HB := n2_; clear n0_ n1_ n2_; (try clear hb); (try clear hb2); (try clear hk); (try clear hi); (try clear ho0); have hcz12_0 : w11.cell? ⟨gb275, 0, none⟩ = some (.int .i64 a0_0) := (blk_cell BK275.out 0).trans rfl; have hcz12_1 : w11.cell? ⟨gb275, 1, none⟩ = some (.slice A0_1 l0_1.length c0_1) := (blk_cell BK275.out 1).trans rfl; have hcz12_2 : w11.cell? ⟨gb275, 2, none⟩ = some (.slice A0_2 l0_2.length c0_2) := (blk_cell BK275.out 2).trans rfl; have hfz12_0 := blk_frozen BK275.out 0; have hfz12_1 := blk_frozen BK275.out 1; have hfz12_2 := blk_frozen BK275.out 2) | ((with_reducible refine gate_callee (f := 21) rfl ?_); refine goesL_ (some 18) rfl rfl Try.func21 (by kernel_rfl) rfl #[.agg #[.int .i64 a0_0, .slice A0_1 l0_1.length c0_1, .slice A0_2 l0_2.length c0_2]] rfl (by (try simp only [List.map_toArray, List.map_cons, List.map_nil]); first | done | rfl | (simp only [List.length_drop, List.length_take]; rfl)) ?_; (with_reducible refine (neonwrightref07_Fewest.calls k a0_0 _ _ l0_1 _ _ l0_2 t282 t285 _ ?side1 ?side2 ?side3 ?side4 A5.out).mono ?_); (case side1 => repeat (first | exact (Kd.C_below HR0_1.out HB.out) | (with_reducible refine Kd.C_alloc ?_ _) | (with_reducible refine Kd.C_drewN ?_ _) | (with_reducible refine Kd.C_drew ?_))); (case side2 => exact HC0_1.out); (case side3 => repeat (first | exact (Kd.C_below HR0_2.out HB.out) | (with_reducible refine Kd.C_alloc ?_ _) | (with_reducible refine Kd.C_drewN ?_ _) | (with_reducible refine Kd.C_drew ?_))); (case side4 => exact HC0_2.out); rintro e w13 ⟨v283, rfl, ho0, hb⟩; refine ⟨_, rfl, ?_⟩; have n0_ := Aside0.mk (Kd.R_elder' (by (with_reducible repeat (first | apply Kd.R_alloc | apply Kd.R_drewN | apply Kd.R_drew)); exact HO280.out) (Kd.R_base ho0) hb); have n1_ := Aside0.mk (Kd.R_lower (Kd.R_new' ho0 (Kd.R_lt (by (with_reducible repeat (first | apply Kd.R_alloc | apply Kd.R_drewN | apply Kd.R_drew)); exact HO280.out))) (below_size (by repeat (first | (with_reducible first | exact HB.out | apply below_alloc | apply pw_below_drewN | apply below_drew1 | refine below_set ?_ GE275.out) | exact HB.out)))); have n2_ := Aside0.mk (blk_below (g := gb275) (o := .cells #[.int .i64 a0_0, .slice A0_1 l0_1.length c0_1, .slice A0_2 l0_2.length c0_2] 25 (0, 0)) (by (with_reducible repeat (first | refine blk_drewN ?_ _ | refine blk_drew ?_ | refine blk_alloc ?_ _)); exact BK275.out) hb); have n3_ := Aside0.mk (below_step (by repeat (first | (with_reducible first | exact HB.out | apply below_alloc | apply pw_below_drewN | apply below_drew1 | refine below_set ?_ GE275.out) | exact HB.out)) hb); clear HO280; clear BK275; clear HB; have HO280 := n0_; have HO284 := n1_; have BK275 := n2_; have HB := n3_; clear n0_ n1_ n2_ n3_; (try clear hb); (try clear hb2); (try clear hk); (try clear hi); (try clear ho0)))
    (try simp only [Act.put, List.setIfInBounds_toArray, List.set_cons_zero, List.set_cons_succ])
    go_cut [29] (fun v29 wc => ∃ (kq : Nat) (x29_5 : Bool), v29 = .bool x29_5 ∧ Aside0 (neonwrightlaw07_GateFewest.j0 kq x29_5 a0_0 l0_1 l0_2 = some r) ∧ Aside0 (kq ≤ k) ∧ Aside0 (wc.heap[gb275]? = some (.cells #[.int .i64 a0_0, (.slice A0_1 l0_1.length c0_1), (.slice A0_2 l0_2.length c0_2)] 25 (0, 0))) ∧ Aside0 (Below w.heap.size w wc))
    case first =>
      have H := HC6.out
      clear HC6
      replace H := Option.bind_eq_some_iff.mp H
      obtain ⟨t286, A140, H⟩ := H
      replace H : (if t286 = true then (neonwrightlaw07_GateFewest.j0 k (t281 != t285) a0_0 l0_1 l0_2) else (neonwrightlaw07_GateFewest.j0 k true a0_0 l0_1 l0_2)) = some r := H
      have A14 := Aside0.mk A140
      clear A140
      by_cases c15 : t286 = true
      · subst c15
        have H1 : (neonwrightlaw07_GateFewest.j0 k (t281 != t285) a0_0 l0_1 l0_2) = some r := by rw [if_pos rfl] at H; exact H
        clear H
        have H := H1
        clear H1
        have H' := Aside0.mk H
        clear H
        obtain ⟨Ao16, co16, eo16⟩ := Kd.R_slice HO280.out
        subst eo16
        obtain ⟨Ao17, co17, eo17⟩ := Kd.R_slice HO284.out
        subst eo17
        go_wp2_with (first | ((with_reducible refine gate_callee (f := 22) rfl ?_); refine goesL_ (some 23) rfl rfl Try.func22 (by kernel_rfl) rfl #[.slice Ao16 t278.length co16, .slice Ao17 t282.length co17] rfl (by (try simp only [List.map_toArray, List.map_cons, List.map_nil]); first | done | rfl | (simp only [List.length_drop, List.length_take]; rfl)) ?_; (with_reducible refine (neonwrightlaw07_same.calls k _ _ t278 _ _ t282 true _ ?side1 ?side2 ?side3 ?side4 A14.out).mono ?_); (case side1 => repeat (first | exact (Kd.R_reads' HO280.out).2.2 | (with_reducible refine Kd.C_alloc ?_ _) | (with_reducible refine Kd.C_drewN ?_ _) | (with_reducible refine Kd.C_drew ?_))); (case side2 => exact (Kd.R_reads' HO280.out).2.1); (case side3 => repeat (first | exact (Kd.R_reads' HO284.out).2.2 | (with_reducible refine Kd.C_alloc ?_ _) | (with_reducible refine Kd.C_drewN ?_ _) | (with_reducible refine Kd.C_drew ?_))); (case side4 => exact (Kd.R_reads' HO284.out).2.1); rintro e w' ⟨rfl, ⟨nd, rfl⟩⟩; refine ⟨_, rfl, ?_⟩))
        go_meet
        case rel => exact ⟨_, ((t281 != t285)), (by first | rfl | (simp; done) | (simp [*]; done)), H', ⟨by first | omega | exact Nat.le_refl _⟩, ⟨by (with_reducible repeat (first | refine blk_drewN ?_ _ | refine blk_drew ?_ | refine blk_alloc ?_ _)); exact BK275.out⟩, ⟨by repeat (first | (with_reducible first | exact HB.out | apply below_alloc | apply pw_below_drewN | apply below_drew1 | refine below_set ?_ GE275.out) | exact HB.out)⟩⟩
      · replace c15 := Bool.eq_false_iff.mpr c15
        subst c15
        have H1 : (neonwrightlaw07_GateFewest.j0 k true a0_0 l0_1 l0_2) = some r := by rw [if_neg (show ¬ (false = true) by decide)] at H; exact H
        clear H
        have H := H1
        clear H1
        have H' := Aside0.mk H
        clear H
        obtain ⟨Ao18, co18, eo18⟩ := Kd.R_slice HO280.out
        subst eo18
        obtain ⟨Ao19, co19, eo19⟩ := Kd.R_slice HO284.out
        subst eo19
        go_wp2_with (first | ((with_reducible refine gate_callee (f := 22) rfl ?_); refine goesL_ (some 23) rfl rfl Try.func22 (by kernel_rfl) rfl #[.slice Ao18 t278.length co18, .slice Ao19 t282.length co19] rfl (by (try simp only [List.map_toArray, List.map_cons, List.map_nil]); first | done | rfl | (simp only [List.length_drop, List.length_take]; rfl)) ?_; (with_reducible refine (neonwrightlaw07_same.calls k _ _ t278 _ _ t282 false _ ?side1 ?side2 ?side3 ?side4 A14.out).mono ?_); (case side1 => repeat (first | exact (Kd.R_reads' HO280.out).2.2 | (with_reducible refine Kd.C_alloc ?_ _) | (with_reducible refine Kd.C_drewN ?_ _) | (with_reducible refine Kd.C_drew ?_))); (case side2 => exact (Kd.R_reads' HO280.out).2.1); (case side3 => repeat (first | exact (Kd.R_reads' HO284.out).2.2 | (with_reducible refine Kd.C_alloc ?_ _) | (with_reducible refine Kd.C_drewN ?_ _) | (with_reducible refine Kd.C_drew ?_))); (case side4 => exact (Kd.R_reads' HO284.out).2.1); rintro e w' ⟨rfl, ⟨nd, rfl⟩⟩; refine ⟨_, rfl, ?_⟩))
        go_meet
        case rel => exact ⟨_, (true), (by first | rfl | (simp; done) | (simp [*]; done)), H', ⟨by first | omega | exact Nat.le_refl _⟩, ⟨by (with_reducible repeat (first | refine blk_drewN ?_ _ | refine blk_drew ?_ | refine blk_alloc ?_ _)); exact BK275.out⟩, ⟨by repeat (first | (with_reducible first | exact HB.out | apply below_alloc | apply pw_below_drewN | apply below_drew1 | refine below_set ?_ GE275.out) | exact HB.out)⟩⟩
    case rest =>
      clear HC6
      try clear c1
      try clear c2
      try clear p2
      try clear c3
      try clear c4
      try clear c15
      try clear hcz10_0
      try clear hcz10_1
      try clear hcz10_2
      try clear hcz12_0
      try clear hcz12_1
      try clear hcz12_2
      try clear hcz8_0
      try clear hcz8_1
      try clear hcz8_2
      try clear hfz10_0
      try clear hfz10_1
      try clear hfz10_2
      try clear hfz12_0
      try clear hfz12_1
      try clear hfz12_2
      try clear hfz8_0
      try clear hfz8_1
      try clear hfz8_2
      obtain ⟨kq, x29_5, rfl, HA, HJ5, BK275, HB⟩ := hcut
      cases kq with
      | zero => exact absurd HA.out (by simp [neonwrightlaw07_GateFewest.j0])
      | succ kj5 =>
        have H := HA.out
        clear HA
        simp only [neonwrightlaw07_GateFewest.j0] at H
        by_cases c20 : x29_5 = true
        · subst c20
          have H1 : (some false) = some r := by rw [if_pos rfl] at H; exact H
          clear H
          have H := H1
          clear H1
          obtain rfl := Option.some.inj H
          go_wp2
          go_ret
          exact ⟨by first | rfl | (simp [errW_none, errW_some] <;> rfl) | (simp [*, errW_none, errW_some] <;> rfl), by repeat (first | (with_reducible first | exact HB.out | apply below_alloc | apply pw_below_drewN | apply below_drew1 | refine below_set ?_ GE275.out) | exact HB.out)⟩
        · replace c20 := Bool.eq_false_iff.mpr c20
          subst c20
          have H1 : ((gate_Apart.f a0_0 l0_1 l0_2).bind fun bt287 => ((neonwrightref07_Apart.f kj5 a0_0 l0_1 l0_2).bind fun bt291 => ((neonwrightlaw07_same.f kj5 bt287.1 bt291.1).bind fun t295 => (if t295 = true then (if bt287.2 = bt291.2 then ((neonwrightlaw07_alive.f).bind fun t296 => (some t296)) else (some false)) else (some false))))) = some r := by rw [if_neg (show ¬ (false = true) by decide)] at H; exact H
          clear H
          have H := H1
          clear H1
          replace H := Option.bind_eq_some_iff.mp H
          obtain ⟨⟨t287, t290⟩, A210, H⟩ := H
          replace H : ((neonwrightref07_Apart.f kj5 a0_0 l0_1 l0_2).bind fun bt291 => ((neonwrightlaw07_same.f kj5 t287 bt291.1).bind fun t295 => (if t295 = true then (if t290 = bt291.2 then ((neonwrightlaw07_alive.f).bind fun t296 => (some t296)) else (some false)) else (some false)))) = some r := H
          have A21 := Aside0.mk A210
          clear A210
          replace H := Option.bind_eq_some_iff.mp H
          obtain ⟨⟨t291, t294⟩, A220, H⟩ := H
          replace H : ((neonwrightlaw07_same.f kj5 t287 t291).bind fun t295 => (if t295 = true then (if t290 = t294 then ((neonwrightlaw07_alive.f).bind fun t296 => (some t296)) else (some false)) else (some false))) = some r := H
          have A22 := Aside0.mk A220
          clear A220
          replace H := Option.bind_eq_some_iff.mp H
          obtain ⟨t295, A230, H⟩ := H
          replace H : (if t295 = true then (if t290 = t294 then ((neonwrightlaw07_alive.f).bind fun t296 => (some t296)) else (some false)) else (some false)) = some r := H
          have A23 := Aside0.mk A230
          clear A230
          by_cases c24 : t295 = true
          · subst c24
            have H1 : (if t290 = t294 then ((neonwrightlaw07_alive.f).bind fun t296 => (some t296)) else (some false)) = some r := by rw [if_pos rfl] at H; exact H
            clear H
            have H := H1
            clear H1
            by_cases c25 : t290 = t294
            · rw [if_pos c25] at H
              have c25b0 : (t290 == t294) = true := beq_iff_eq.mpr c25
              have c25b1 : (t290 != t294) = false := bne_eq_false_iff_eq.mpr c25
              clear c25
              replace H := Option.bind_eq_some_iff.mp H
              obtain ⟨t296, A260, H⟩ := H
              replace H : (some t296) = some r := H
              have A26 := Aside0.mk A260
              clear A260
              obtain rfl := Option.some.inj H
              have hcz27_0 : wc.cell? ⟨gb275, 0, none⟩ = some (.int .i64 a0_0) := (blk_cell BK275.out 0).trans rfl
              have hcz27_1 : wc.cell? ⟨gb275, 1, none⟩ = some (.slice A0_1 l0_1.length c0_1) := (blk_cell BK275.out 1).trans rfl
              have hcz27_2 : wc.cell? ⟨gb275, 2, none⟩ = some (.slice A0_2 l0_2.length c0_2) := (blk_cell BK275.out 2).trans rfl
              have hfz27_0 := blk_frozen BK275.out 0
              have hfz27_1 := blk_frozen BK275.out 1
              have hfz27_2 := blk_frozen BK275.out 2
              go_wp2_with (first | ((with_reducible refine gate_callee (f := 23) rfl ?_); refine goesL_ (some 32) rfl rfl Try.func23 (by kernel_rfl) rfl #[.agg #[.int .i64 a0_0, .slice A0_1 l0_1.length c0_1, .slice A0_2 l0_2.length c0_2]] rfl (by (try simp only [List.map_toArray, List.map_cons, List.map_nil]); first | done | rfl | (simp only [List.length_drop, List.length_take]; rfl)) ?_; (with_reducible refine (gate_Apart.calls a0_0 _ _ l0_1 _ _ l0_2 t287 t290 _ ?side1 ?side2 ?side3 ?side4 A21.out).mono ?_); (case side1 => repeat (first | exact (Kd.C_below HR0_1.out HB.out) | (with_reducible refine Kd.C_alloc ?_ _) | (with_reducible refine Kd.C_drewN ?_ _) | (with_reducible refine Kd.C_drew ?_))); (case side2 => exact HC0_1.out); (case side3 => repeat (first | exact (Kd.C_below HR0_2.out HB.out) | (with_reducible refine Kd.C_alloc ?_ _) | (with_reducible refine Kd.C_drewN ?_ _) | (with_reducible refine Kd.C_drew ?_))); (case side4 => exact HC0_2.out); rintro e w28 ⟨v288, rfl, ho0, hb⟩; refine ⟨_, rfl, ?_⟩; have n0_ := Aside0.mk (Kd.R_lower ho0 (below_size (by repeat (first | (with_reducible first | exact HB.out | apply below_alloc | apply pw_below_drewN | apply below_drew1 | refine below_set ?_ GE275.out) | exact HB.out)))); have n1_ := Aside0.mk (blk_below (g := gb275) (o := .cells #[.int .i64 a0_0, .slice A0_1 l0_1.length c0_1, .slice A0_2 l0_2.length c0_2] 25 (0, 0)) (by (with_reducible repeat (first | refine blk_drewN ?_ _ | refine blk_drew ?_ | refine blk_alloc ?_ _)); exact BK275.out) hb); have n2_ := Aside0.mk (below_step (by repeat (first | (with_reducible first | exact HB.out | apply below_alloc | apply pw_below_drewN | apply below_drew1 | refine below_set ?_ GE275.out) | exact HB.out)) hb); clear BK275; clear HB; have HO289 := n0_; have BK275 := n1_; have HB := n2_; clear n0_ n1_ n2_; (try clear hb); (try clear hb2); (try clear hk); (try clear hi); (try clear ho0); have hcz29_0 : w28.cell? ⟨gb275, 0, none⟩ = some (.int .i64 a0_0) := (blk_cell BK275.out 0).trans rfl; have hcz29_1 : w28.cell? ⟨gb275, 1, none⟩ = some (.slice A0_1 l0_1.length c0_1) := (blk_cell BK275.out 1).trans rfl; have hcz29_2 : w28.cell? ⟨gb275, 2, none⟩ = some (.slice A0_2 l0_2.length c0_2) := (blk_cell BK275.out 2).trans rfl; have hfz29_0 := blk_frozen BK275.out 0; have hfz29_1 := blk_frozen BK275.out 1; have hfz29_2 := blk_frozen BK275.out 2) | ((with_reducible refine gate_callee (f := 24) rfl ?_); refine goesL_ (some 37) rfl rfl Try.func24 (by kernel_rfl) rfl #[.agg #[.int .i64 a0_0, .slice A0_1 l0_1.length c0_1, .slice A0_2 l0_2.length c0_2]] rfl (by (try simp only [List.map_toArray, List.map_cons, List.map_nil]); first | done | rfl | (simp only [List.length_drop, List.length_take]; rfl)) ?_; (with_reducible refine (neonwrightref07_Apart.calls kj5 a0_0 _ _ l0_1 _ _ l0_2 t291 t294 _ ?side1 ?side2 ?side3 ?side4 A22.out).mono ?_); (case side1 => repeat (first | exact (Kd.C_below HR0_1.out HB.out) | (with_reducible refine Kd.C_alloc ?_ _) | (with_reducible refine Kd.C_drewN ?_ _) | (with_reducible refine Kd.C_drew ?_))); (case side2 => exact HC0_1.out); (case side3 => repeat (first | exact (Kd.C_below HR0_2.out HB.out) | (with_reducible refine Kd.C_alloc ?_ _) | (with_reducible refine Kd.C_drewN ?_ _) | (with_reducible refine Kd.C_drew ?_))); (case side4 => exact HC0_2.out); rintro e w30 ⟨v292, rfl, ho0, hb⟩; refine ⟨_, rfl, ?_⟩; have n0_ := Aside0.mk (Kd.R_elder' (by (with_reducible repeat (first | apply Kd.R_alloc | apply Kd.R_drewN | apply Kd.R_drew)); exact HO289.out) (Kd.R_base ho0) hb); have n1_ := Aside0.mk (Kd.R_lower (Kd.R_new' ho0 (Kd.R_lt (by (with_reducible repeat (first | apply Kd.R_alloc | apply Kd.R_drewN | apply Kd.R_drew)); exact HO289.out))) (below_size (by repeat (first | (with_reducible first | exact HB.out | apply below_alloc | apply pw_below_drewN | apply below_drew1 | refine below_set ?_ GE275.out) | exact HB.out)))); have n2_ := Aside0.mk (blk_below (g := gb275) (o := .cells #[.int .i64 a0_0, .slice A0_1 l0_1.length c0_1, .slice A0_2 l0_2.length c0_2] 25 (0, 0)) (by (with_reducible repeat (first | refine blk_drewN ?_ _ | refine blk_drew ?_ | refine blk_alloc ?_ _)); exact BK275.out) hb); have n3_ := Aside0.mk (below_step (by repeat (first | (with_reducible first | exact HB.out | apply below_alloc | apply pw_below_drewN | apply below_drew1 | refine below_set ?_ GE275.out) | exact HB.out)) hb); clear HO289; clear BK275; clear HB; have HO289 := n0_; have HO293 := n1_; have BK275 := n2_; have HB := n3_; clear n0_ n1_ n2_ n3_; (try clear hb); (try clear hb2); (try clear hk); (try clear hi); (try clear ho0); obtain ⟨Ao31, co31, eo31⟩ := Kd.R_slice HO289.out; subst eo31; obtain ⟨Ao32, co32, eo32⟩ := Kd.R_slice HO293.out; subst eo32) | ((with_reducible refine gate_callee (f := 22) rfl ?_); refine goesL_ (some 42) rfl rfl Try.func22 (by kernel_rfl) rfl #[.slice Ao31 t287.length co31, .slice Ao32 t291.length co32] rfl (by (try simp only [List.map_toArray, List.map_cons, List.map_nil]); first | done | rfl | (simp only [List.length_drop, List.length_take]; rfl)) ?_; (with_reducible refine (neonwrightlaw07_same.calls kj5 _ _ t287 _ _ t291 true _ ?side1 ?side2 ?side3 ?side4 A23.out).mono ?_); (case side1 => repeat (first | exact (Kd.R_reads' HO289.out).2.2 | (with_reducible refine Kd.C_alloc ?_ _) | (with_reducible refine Kd.C_drewN ?_ _) | (with_reducible refine Kd.C_drew ?_))); (case side2 => exact (Kd.R_reads' HO289.out).2.1); (case side3 => repeat (first | exact (Kd.R_reads' HO293.out).2.2 | (with_reducible refine Kd.C_alloc ?_ _) | (with_reducible refine Kd.C_drewN ?_ _) | (with_reducible refine Kd.C_drew ?_))); (case side4 => exact (Kd.R_reads' HO293.out).2.1); rintro e w' ⟨rfl, ⟨nd, rfl⟩⟩; refine ⟨_, rfl, ?_⟩) | (go_at_call 16; (with_reducible refine (neonwrightlaw07_alive.calls  t296 _ A26.out).mono ?_); rintro e w33 ⟨rfl, hb⟩; have n0_ := Aside0.mk (Kd.R_below (by (with_reducible repeat (first | apply Kd.R_alloc | apply Kd.R_drewN | apply Kd.R_drew)); exact HO289.out) hb); have n1_ := Aside0.mk (Kd.R_below (by (with_reducible repeat (first | apply Kd.R_alloc | apply Kd.R_drewN | apply Kd.R_drew)); exact HO293.out) hb); have n2_ := Aside0.mk (blk_below (g := gb275) (o := .cells #[.int .i64 a0_0, .slice A0_1 l0_1.length c0_1, .slice A0_2 l0_2.length c0_2] 25 (0, 0)) (by (with_reducible repeat (first | refine blk_drewN ?_ _ | refine blk_drew ?_ | refine blk_alloc ?_ _)); exact BK275.out) hb); have n3_ := Aside0.mk (below_step (by repeat (first | (with_reducible first | exact HB.out | apply below_alloc | apply pw_below_drewN | apply below_drew1 | refine below_set ?_ GE275.out) | exact HB.out)) hb); clear HO289; clear HO293; clear BK275; clear HB; have HO289 := n0_; have HO293 := n1_; have BK275 := n2_; have HB := n3_; clear n0_ n1_ n2_ n3_; (try clear hb); (try clear hb2); (try clear hk); (try clear hi)))
              go_ret
              exact ⟨by first | rfl | (simp [errW_none, errW_some] <;> rfl) | (simp [*, errW_none, errW_some] <;> rfl), by repeat (first | (with_reducible first | exact HB.out | apply below_alloc | apply pw_below_drewN | apply below_drew1 | refine below_set ?_ GE275.out) | exact HB.out)⟩
            · rw [if_neg c25] at H
              have c25b0 : (t290 == t294) = false := beq_eq_false_iff_ne.mpr c25
              have c25b1 : (t290 != t294) = true := bne_iff_ne.mpr c25
              obtain rfl := Option.some.inj H
              have hcz34_0 : wc.cell? ⟨gb275, 0, none⟩ = some (.int .i64 a0_0) := (blk_cell BK275.out 0).trans rfl
              have hcz34_1 : wc.cell? ⟨gb275, 1, none⟩ = some (.slice A0_1 l0_1.length c0_1) := (blk_cell BK275.out 1).trans rfl
              have hcz34_2 : wc.cell? ⟨gb275, 2, none⟩ = some (.slice A0_2 l0_2.length c0_2) := (blk_cell BK275.out 2).trans rfl
              have hfz34_0 := blk_frozen BK275.out 0
              have hfz34_1 := blk_frozen BK275.out 1
              have hfz34_2 := blk_frozen BK275.out 2
              go_wp2_with (first | ((with_reducible refine gate_callee (f := 23) rfl ?_); refine goesL_ (some 32) rfl rfl Try.func23 (by kernel_rfl) rfl #[.agg #[.int .i64 a0_0, .slice A0_1 l0_1.length c0_1, .slice A0_2 l0_2.length c0_2]] rfl (by (try simp only [List.map_toArray, List.map_cons, List.map_nil]); first | done | rfl | (simp only [List.length_drop, List.length_take]; rfl)) ?_; (with_reducible refine (gate_Apart.calls a0_0 _ _ l0_1 _ _ l0_2 t287 t290 _ ?side1 ?side2 ?side3 ?side4 A21.out).mono ?_); (case side1 => repeat (first | exact (Kd.C_below HR0_1.out HB.out) | (with_reducible refine Kd.C_alloc ?_ _) | (with_reducible refine Kd.C_drewN ?_ _) | (with_reducible refine Kd.C_drew ?_))); (case side2 => exact HC0_1.out); (case side3 => repeat (first | exact (Kd.C_below HR0_2.out HB.out) | (with_reducible refine Kd.C_alloc ?_ _) | (with_reducible refine Kd.C_drewN ?_ _) | (with_reducible refine Kd.C_drew ?_))); (case side4 => exact HC0_2.out); rintro e w35 ⟨v288, rfl, ho0, hb⟩; refine ⟨_, rfl, ?_⟩; have n0_ := Aside0.mk (Kd.R_lower ho0 (below_size (by repeat (first | (with_reducible first | exact HB.out | apply below_alloc | apply pw_below_drewN | apply below_drew1 | refine below_set ?_ GE275.out) | exact HB.out)))); have n1_ := Aside0.mk (blk_below (g := gb275) (o := .cells #[.int .i64 a0_0, .slice A0_1 l0_1.length c0_1, .slice A0_2 l0_2.length c0_2] 25 (0, 0)) (by (with_reducible repeat (first | refine blk_drewN ?_ _ | refine blk_drew ?_ | refine blk_alloc ?_ _)); exact BK275.out) hb); have n2_ := Aside0.mk (below_step (by repeat (first | (with_reducible first | exact HB.out | apply below_alloc | apply pw_below_drewN | apply below_drew1 | refine below_set ?_ GE275.out) | exact HB.out)) hb); clear BK275; clear HB; have HO289 := n0_; have BK275 := n1_; have HB := n2_; clear n0_ n1_ n2_; (try clear hb); (try clear hb2); (try clear hk); (try clear hi); (try clear ho0); have hcz36_0 : w35.cell? ⟨gb275, 0, none⟩ = some (.int .i64 a0_0) := (blk_cell BK275.out 0).trans rfl; have hcz36_1 : w35.cell? ⟨gb275, 1, none⟩ = some (.slice A0_1 l0_1.length c0_1) := (blk_cell BK275.out 1).trans rfl; have hcz36_2 : w35.cell? ⟨gb275, 2, none⟩ = some (.slice A0_2 l0_2.length c0_2) := (blk_cell BK275.out 2).trans rfl; have hfz36_0 := blk_frozen BK275.out 0; have hfz36_1 := blk_frozen BK275.out 1; have hfz36_2 := blk_frozen BK275.out 2) | ((with_reducible refine gate_callee (f := 24) rfl ?_); refine goesL_ (some 37) rfl rfl Try.func24 (by kernel_rfl) rfl #[.agg #[.int .i64 a0_0, .slice A0_1 l0_1.length c0_1, .slice A0_2 l0_2.length c0_2]] rfl (by (try simp only [List.map_toArray, List.map_cons, List.map_nil]); first | done | rfl | (simp only [List.length_drop, List.length_take]; rfl)) ?_; (with_reducible refine (neonwrightref07_Apart.calls kj5 a0_0 _ _ l0_1 _ _ l0_2 t291 t294 _ ?side1 ?side2 ?side3 ?side4 A22.out).mono ?_); (case side1 => repeat (first | exact (Kd.C_below HR0_1.out HB.out) | (with_reducible refine Kd.C_alloc ?_ _) | (with_reducible refine Kd.C_drewN ?_ _) | (with_reducible refine Kd.C_drew ?_))); (case side2 => exact HC0_1.out); (case side3 => repeat (first | exact (Kd.C_below HR0_2.out HB.out) | (with_reducible refine Kd.C_alloc ?_ _) | (with_reducible refine Kd.C_drewN ?_ _) | (with_reducible refine Kd.C_drew ?_))); (case side4 => exact HC0_2.out); rintro e w37 ⟨v292, rfl, ho0, hb⟩; refine ⟨_, rfl, ?_⟩; have n0_ := Aside0.mk (Kd.R_elder' (by (with_reducible repeat (first | apply Kd.R_alloc | apply Kd.R_drewN | apply Kd.R_drew)); exact HO289.out) (Kd.R_base ho0) hb); have n1_ := Aside0.mk (Kd.R_lower (Kd.R_new' ho0 (Kd.R_lt (by (with_reducible repeat (first | apply Kd.R_alloc | apply Kd.R_drewN | apply Kd.R_drew)); exact HO289.out))) (below_size (by repeat (first | (with_reducible first | exact HB.out | apply below_alloc | apply pw_below_drewN | apply below_drew1 | refine below_set ?_ GE275.out) | exact HB.out)))); have n2_ := Aside0.mk (blk_below (g := gb275) (o := .cells #[.int .i64 a0_0, .slice A0_1 l0_1.length c0_1, .slice A0_2 l0_2.length c0_2] 25 (0, 0)) (by (with_reducible repeat (first | refine blk_drewN ?_ _ | refine blk_drew ?_ | refine blk_alloc ?_ _)); exact BK275.out) hb); have n3_ := Aside0.mk (below_step (by repeat (first | (with_reducible first | exact HB.out | apply below_alloc | apply pw_below_drewN | apply below_drew1 | refine below_set ?_ GE275.out) | exact HB.out)) hb); clear HO289; clear BK275; clear HB; have HO289 := n0_; have HO293 := n1_; have BK275 := n2_; have HB := n3_; clear n0_ n1_ n2_ n3_; (try clear hb); (try clear hb2); (try clear hk); (try clear hi); (try clear ho0); obtain ⟨Ao38, co38, eo38⟩ := Kd.R_slice HO289.out; subst eo38; obtain ⟨Ao39, co39, eo39⟩ := Kd.R_slice HO293.out; subst eo39) | ((with_reducible refine gate_callee (f := 22) rfl ?_); refine goesL_ (some 42) rfl rfl Try.func22 (by kernel_rfl) rfl #[.slice Ao38 t287.length co38, .slice Ao39 t291.length co39] rfl (by (try simp only [List.map_toArray, List.map_cons, List.map_nil]); first | done | rfl | (simp only [List.length_drop, List.length_take]; rfl)) ?_; (with_reducible refine (neonwrightlaw07_same.calls kj5 _ _ t287 _ _ t291 true _ ?side1 ?side2 ?side3 ?side4 A23.out).mono ?_); (case side1 => repeat (first | exact (Kd.R_reads' HO289.out).2.2 | (with_reducible refine Kd.C_alloc ?_ _) | (with_reducible refine Kd.C_drewN ?_ _) | (with_reducible refine Kd.C_drew ?_))); (case side2 => exact (Kd.R_reads' HO289.out).2.1); (case side3 => repeat (first | exact (Kd.R_reads' HO293.out).2.2 | (with_reducible refine Kd.C_alloc ?_ _) | (with_reducible refine Kd.C_drewN ?_ _) | (with_reducible refine Kd.C_drew ?_))); (case side4 => exact (Kd.R_reads' HO293.out).2.1); rintro e w' ⟨rfl, ⟨nd, rfl⟩⟩; refine ⟨_, rfl, ?_⟩))
              go_ret
              exact ⟨by first | rfl | (simp [errW_none, errW_some] <;> rfl) | (simp [*, errW_none, errW_some] <;> rfl), by repeat (first | (with_reducible first | exact HB.out | apply below_alloc | apply pw_below_drewN | apply below_drew1 | refine below_set ?_ GE275.out) | exact HB.out)⟩
          · replace c24 := Bool.eq_false_iff.mpr c24
            subst c24
            have H1 : (some false) = some r := by rw [if_neg (show ¬ (false = true) by decide)] at H; exact H
            clear H
            have H := H1
            clear H1
            obtain rfl := Option.some.inj H
            have hcz40_0 : wc.cell? ⟨gb275, 0, none⟩ = some (.int .i64 a0_0) := (blk_cell BK275.out 0).trans rfl
            have hcz40_1 : wc.cell? ⟨gb275, 1, none⟩ = some (.slice A0_1 l0_1.length c0_1) := (blk_cell BK275.out 1).trans rfl
            have hcz40_2 : wc.cell? ⟨gb275, 2, none⟩ = some (.slice A0_2 l0_2.length c0_2) := (blk_cell BK275.out 2).trans rfl
            have hfz40_0 := blk_frozen BK275.out 0
            have hfz40_1 := blk_frozen BK275.out 1
            have hfz40_2 := blk_frozen BK275.out 2
            go_wp2_with (first | ((with_reducible refine gate_callee (f := 23) rfl ?_); refine goesL_ (some 32) rfl rfl Try.func23 (by kernel_rfl) rfl #[.agg #[.int .i64 a0_0, .slice A0_1 l0_1.length c0_1, .slice A0_2 l0_2.length c0_2]] rfl (by (try simp only [List.map_toArray, List.map_cons, List.map_nil]); first | done | rfl | (simp only [List.length_drop, List.length_take]; rfl)) ?_; (with_reducible refine (gate_Apart.calls a0_0 _ _ l0_1 _ _ l0_2 t287 t290 _ ?side1 ?side2 ?side3 ?side4 A21.out).mono ?_); (case side1 => repeat (first | exact (Kd.C_below HR0_1.out HB.out) | (with_reducible refine Kd.C_alloc ?_ _) | (with_reducible refine Kd.C_drewN ?_ _) | (with_reducible refine Kd.C_drew ?_))); (case side2 => exact HC0_1.out); (case side3 => repeat (first | exact (Kd.C_below HR0_2.out HB.out) | (with_reducible refine Kd.C_alloc ?_ _) | (with_reducible refine Kd.C_drewN ?_ _) | (with_reducible refine Kd.C_drew ?_))); (case side4 => exact HC0_2.out); rintro e w41 ⟨v288, rfl, ho0, hb⟩; refine ⟨_, rfl, ?_⟩; have n0_ := Aside0.mk (Kd.R_lower ho0 (below_size (by repeat (first | (with_reducible first | exact HB.out | apply below_alloc | apply pw_below_drewN | apply below_drew1 | refine below_set ?_ GE275.out) | exact HB.out)))); have n1_ := Aside0.mk (blk_below (g := gb275) (o := .cells #[.int .i64 a0_0, .slice A0_1 l0_1.length c0_1, .slice A0_2 l0_2.length c0_2] 25 (0, 0)) (by (with_reducible repeat (first | refine blk_drewN ?_ _ | refine blk_drew ?_ | refine blk_alloc ?_ _)); exact BK275.out) hb); have n2_ := Aside0.mk (below_step (by repeat (first | (with_reducible first | exact HB.out | apply below_alloc | apply pw_below_drewN | apply below_drew1 | refine below_set ?_ GE275.out) | exact HB.out)) hb); clear BK275; clear HB; have HO289 := n0_; have BK275 := n1_; have HB := n2_; clear n0_ n1_ n2_; (try clear hb); (try clear hb2); (try clear hk); (try clear hi); (try clear ho0); have hcz42_0 : w41.cell? ⟨gb275, 0, none⟩ = some (.int .i64 a0_0) := (blk_cell BK275.out 0).trans rfl; have hcz42_1 : w41.cell? ⟨gb275, 1, none⟩ = some (.slice A0_1 l0_1.length c0_1) := (blk_cell BK275.out 1).trans rfl; have hcz42_2 : w41.cell? ⟨gb275, 2, none⟩ = some (.slice A0_2 l0_2.length c0_2) := (blk_cell BK275.out 2).trans rfl; have hfz42_0 := blk_frozen BK275.out 0; have hfz42_1 := blk_frozen BK275.out 1; have hfz42_2 := blk_frozen BK275.out 2) | ((with_reducible refine gate_callee (f := 24) rfl ?_); refine goesL_ (some 37) rfl rfl Try.func24 (by kernel_rfl) rfl #[.agg #[.int .i64 a0_0, .slice A0_1 l0_1.length c0_1, .slice A0_2 l0_2.length c0_2]] rfl (by (try simp only [List.map_toArray, List.map_cons, List.map_nil]); first | done | rfl | (simp only [List.length_drop, List.length_take]; rfl)) ?_; (with_reducible refine (neonwrightref07_Apart.calls kj5 a0_0 _ _ l0_1 _ _ l0_2 t291 t294 _ ?side1 ?side2 ?side3 ?side4 A22.out).mono ?_); (case side1 => repeat (first | exact (Kd.C_below HR0_1.out HB.out) | (with_reducible refine Kd.C_alloc ?_ _) | (with_reducible refine Kd.C_drewN ?_ _) | (with_reducible refine Kd.C_drew ?_))); (case side2 => exact HC0_1.out); (case side3 => repeat (first | exact (Kd.C_below HR0_2.out HB.out) | (with_reducible refine Kd.C_alloc ?_ _) | (with_reducible refine Kd.C_drewN ?_ _) | (with_reducible refine Kd.C_drew ?_))); (case side4 => exact HC0_2.out); rintro e w43 ⟨v292, rfl, ho0, hb⟩; refine ⟨_, rfl, ?_⟩; have n0_ := Aside0.mk (Kd.R_elder' (by (with_reducible repeat (first | apply Kd.R_alloc | apply Kd.R_drewN | apply Kd.R_drew)); exact HO289.out) (Kd.R_base ho0) hb); have n1_ := Aside0.mk (Kd.R_lower (Kd.R_new' ho0 (Kd.R_lt (by (with_reducible repeat (first | apply Kd.R_alloc | apply Kd.R_drewN | apply Kd.R_drew)); exact HO289.out))) (below_size (by repeat (first | (with_reducible first | exact HB.out | apply below_alloc | apply pw_below_drewN | apply below_drew1 | refine below_set ?_ GE275.out) | exact HB.out)))); have n2_ := Aside0.mk (blk_below (g := gb275) (o := .cells #[.int .i64 a0_0, .slice A0_1 l0_1.length c0_1, .slice A0_2 l0_2.length c0_2] 25 (0, 0)) (by (with_reducible repeat (first | refine blk_drewN ?_ _ | refine blk_drew ?_ | refine blk_alloc ?_ _)); exact BK275.out) hb); have n3_ := Aside0.mk (below_step (by repeat (first | (with_reducible first | exact HB.out | apply below_alloc | apply pw_below_drewN | apply below_drew1 | refine below_set ?_ GE275.out) | exact HB.out)) hb); clear HO289; clear BK275; clear HB; have HO289 := n0_; have HO293 := n1_; have BK275 := n2_; have HB := n3_; clear n0_ n1_ n2_ n3_; (try clear hb); (try clear hb2); (try clear hk); (try clear hi); (try clear ho0); obtain ⟨Ao44, co44, eo44⟩ := Kd.R_slice HO289.out; subst eo44; obtain ⟨Ao45, co45, eo45⟩ := Kd.R_slice HO293.out; subst eo45) | ((with_reducible refine gate_callee (f := 22) rfl ?_); refine goesL_ (some 42) rfl rfl Try.func22 (by kernel_rfl) rfl #[.slice Ao44 t287.length co44, .slice Ao45 t291.length co45] rfl (by (try simp only [List.map_toArray, List.map_cons, List.map_nil]); first | done | rfl | (simp only [List.length_drop, List.length_take]; rfl)) ?_; (with_reducible refine (neonwrightlaw07_same.calls kj5 _ _ t287 _ _ t291 false _ ?side1 ?side2 ?side3 ?side4 A23.out).mono ?_); (case side1 => repeat (first | exact (Kd.R_reads' HO289.out).2.2 | (with_reducible refine Kd.C_alloc ?_ _) | (with_reducible refine Kd.C_drewN ?_ _) | (with_reducible refine Kd.C_drew ?_))); (case side2 => exact (Kd.R_reads' HO289.out).2.1); (case side3 => repeat (first | exact (Kd.R_reads' HO293.out).2.2 | (with_reducible refine Kd.C_alloc ?_ _) | (with_reducible refine Kd.C_drewN ?_ _) | (with_reducible refine Kd.C_drew ?_))); (case side4 => exact (Kd.R_reads' HO293.out).2.1); rintro e w' ⟨rfl, ⟨nd, rfl⟩⟩; refine ⟨_, rfl, ?_⟩))
            go_ret
            exact ⟨by first | rfl | (simp [errW_none, errW_some] <;> rfl) | (simp [*, errW_none, errW_some] <;> rfl), by repeat (first | (with_reducible first | exact HB.out | apply below_alloc | apply pw_below_drewN | apply below_drew1 | refine below_set ?_ GE275.out) | exact HB.out)⟩
  · replace c3 := Bool.eq_false_iff.mpr c3
    subst c3
    have H1 : ((neonwrightlaw07_alive.f).bind fun t277 => (some t277)) = some r := by rw [if_neg (show ¬ (false = true) by decide)] at H; exact H
    clear H
    have H := H1
    clear H1
    replace H := Option.bind_eq_some_iff.mp H
    obtain ⟨t277, A460, H⟩ := H
    replace H : (some t277) = some r := H
    have A46 := Aside0.mk A460
    clear A460
    obtain rfl := Option.some.inj H
    go_enter Try.func4, Try.ntmps4
    go_wp2_with (first | ((with_reducible refine gate_dst (N := 1) rfl ?_); refine box_event ?hg (N := 1) ?hd (cs := #[.int .i64 a0_0, .slice A0_1 l0_1.length c0_1, .slice A0_2 l0_2.length c0_2]) (t := 25) ?hr ?_; (case hd => rfl); (case hg => rfl); (case hr => first | (go_simp; done) | (go_simp; rfl)); intro gb275 hg w47 hbox hb; have n0_ := Aside0.mk (below_step (by repeat (first | (with_reducible first | exact HB.out | apply below_alloc | apply pw_below_drewN | apply below_drew1) | exact HB.out)) hb); have n1_ := Aside0.mk (hbox); have n2_ := Aside0.mk ((by rw [hg]; exact (below_size (by repeat (first | (with_reducible first | exact HB.out | apply below_alloc | apply pw_below_drewN | apply below_drew1) | exact HB.out))) : w.heap.size ≤ gb275)); have n3_ := Aside0.mk ((by rw [hg]; exact (below_size (by repeat (first | (with_reducible first | exact HB.out | apply below_alloc | apply pw_below_drewN | apply below_drew1) | exact HB.out))) : w.heap.size ≤ gb275)); clear HB; have HB := n0_; have BK275 := n1_; have GW275 := n2_; have GE275 := n3_; clear n0_ n1_ n2_ n3_; clear hb hbox hg; have hcz48_0 : w47.cell? ⟨gb275, 0, none⟩ = some (.int .i64 a0_0) := (blk_cell BK275.out 0).trans rfl; have hcz48_1 : w47.cell? ⟨gb275, 1, none⟩ = some (.slice A0_1 l0_1.length c0_1) := (blk_cell BK275.out 1).trans rfl; have hcz48_2 : w47.cell? ⟨gb275, 2, none⟩ = some (.slice A0_2 l0_2.length c0_2) := (blk_cell BK275.out 2).trans rfl; have hfz48_0 := blk_frozen BK275.out 0; have hfz48_1 := blk_frozen BK275.out 1; have hfz48_2 := blk_frozen BK275.out 2) | ((with_reducible refine gate_callee (f := 15) rfl ?_); refine goesL_ (some 8) rfl rfl Try.func15 (by kernel_rfl) rfl #[.agg #[.int .i64 a0_0, .slice A0_1 l0_1.length c0_1, .slice A0_2 l0_2.length c0_2]] rfl (by (try simp only [List.map_toArray, List.map_cons, List.map_nil]); first | done | rfl | (simp only [List.length_drop, List.length_take]; rfl)) ?_; (with_reducible refine (neonwrightlaw07_few.calls a0_0 _ _ l0_1 _ _ l0_2 false _ ?side1 ?side2 ?side3 ?side4 A2.out).mono ?_); (case side1 => repeat (first | exact (Kd.C_below HR0_1.out HB.out) | (with_reducible refine Kd.C_alloc ?_ _) | (with_reducible refine Kd.C_drewN ?_ _) | (with_reducible refine Kd.C_drew ?_))); (case side2 => exact HC0_1.out); (case side3 => repeat (first | exact (Kd.C_below HR0_2.out HB.out) | (with_reducible refine Kd.C_alloc ?_ _) | (with_reducible refine Kd.C_drewN ?_ _) | (with_reducible refine Kd.C_drew ?_))); (case side4 => exact HC0_2.out); rintro e w49 ⟨rfl, hb⟩; refine ⟨_, rfl, ?_⟩; have n0_ := Aside0.mk (blk_below (g := gb275) (o := .cells #[.int .i64 a0_0, .slice A0_1 l0_1.length c0_1, .slice A0_2 l0_2.length c0_2] 25 (0, 0)) (by (with_reducible repeat (first | refine blk_drewN ?_ _ | refine blk_drew ?_ | refine blk_alloc ?_ _)); exact BK275.out) hb); have n1_ := Aside0.mk (below_step (by repeat (first | (with_reducible first | exact HB.out | apply below_alloc | apply pw_below_drewN | apply below_drew1 | refine below_set ?_ GE275.out) | exact HB.out)) hb); clear BK275; clear HB; have BK275 := n0_; have HB := n1_; clear n0_ n1_; (try clear hb); (try clear hb2); (try clear hk); (try clear hi)) | ((with_reducible refine gate_callee (f := 16) rfl ?_); refine goesL_ (some 10) rfl rfl Try.func16 (by kernel_rfl) rfl #[] rfl (by (try simp only [List.map_toArray, List.map_cons, List.map_nil]); first | done | rfl | (simp only [List.length_drop, List.length_take]; rfl)) ?_; (with_reducible refine (neonwrightlaw07_alive.calls  t277 _ A46.out).mono ?_); rintro e w50 ⟨rfl, hb⟩; refine ⟨_, rfl, ?_⟩; have n0_ := Aside0.mk (blk_below (g := gb275) (o := .cells #[.int .i64 a0_0, .slice A0_1 l0_1.length c0_1, .slice A0_2 l0_2.length c0_2] 25 (0, 0)) (by (with_reducible repeat (first | refine blk_drewN ?_ _ | refine blk_drew ?_ | refine blk_alloc ?_ _)); exact BK275.out) hb); have n1_ := Aside0.mk (below_step (by repeat (first | (with_reducible first | exact HB.out | apply below_alloc | apply pw_below_drewN | apply below_drew1 | refine below_set ?_ GE275.out) | exact HB.out)) hb); clear BK275; clear HB; have BK275 := n0_; have HB := n1_; clear n0_ n1_; (try clear hb); (try clear hb2); (try clear hk); (try clear hi)))
    go_ret
    exact ⟨by first | rfl | (simp [errW_none, errW_some] <;> rfl) | (simp [*, errW_none, errW_some] <;> rfl), by repeat (first | (with_reducible first | exact HB.out | apply below_alloc | apply pw_below_drewN | apply below_drew1 | refine below_set ?_ GE275.out) | exact HB.out)⟩
end Go.Proofs.Ytelfalicickelaa.P
set_option linter.unusedSimpArgs false
set_option linter.unusedVariables false
namespace Go.Proofs.Ytelfalicickelaa.P
open Go.Lib Go.RowKit Go.Proofs.YtelfalicickelaaW.PrintWords Go.Proofs.YtelfalicickelaaW.PrintLast Go.Proofs.YtelfalicickelaaW.PrintMore Go.Proofs.Ytelfalicickelaa.Kit
theorem rcirc_l1 (N : Nat) (ls : List S40) (os : List Int) (hN : N ≤ 6) (hl : ls.length ≤ 16) (ho : os.length ≤ 4) : ∀ (d i k : Nat), os.length - i = d → i ≤ os.length → d < k →
    neonwrightref07_Circuit.l1 k (i : Int) (N : Int) ls os = some (!(os.drop i).any (badL (N + ls.length))) := by
  intro d
  induction d with
  | zero =>
    intro i k hd hi hk
    obtain ⟨k, rfl⟩ : ∃ q, k = q + 1 := ⟨k - 1, by omega⟩
    simp only [neonwrightref07_Circuit.l1]
    rw [if_neg (by omega), List.drop_eq_nil_of_le (by omega)]
    rfl
  | succ d ih =>
    intro i k hd hi hk
    obtain ⟨k, rfl⟩ : ∃ q, k = q + 1 := ⟨k - 1, by omega⟩
    have hil : i < os.length := by omega
    have hw : ∀ _ : Unit, wrap64 ((i : Int) + 1) = ((i + 1 : Nat) : Int) := fun _ => by rw [w64 (by omega) (by omega)]; omega
    have hw2 : ∀ _ : Unit, wrap64 ((N : Int) + (ls.length : Int)) = ((N + ls.length : Nat) : Int) := fun _ => by rw [w64 (by omega) (by omega)]; omega
    simp only [neonwrightref07_Circuit.l1, neonwrightref07_Lines.f, Option.bind_some]
    rw [if_pos (by omega), if_pos (by omega), rd_get _ _ hil, hw2 (), hw (), List.drop_eq_getElem_cons hil, List.any_cons]
    by_cases h1 : os[i] < 0
    · rw [if_pos h1]
      simp [badL, h1]
    · rw [if_neg h1]
      by_cases h2 : os[i] ≥ ((N + ls.length : Nat) : Int)
      · rw [if_pos h2]
        have : badL (N + ls.length) os[i] = true := by unfold badL; rw [decide_eq_true (p := ((N + ls.length : Nat) : Int) ≤ os[i]) h2, Bool.or_true]
        rw [this]; rfl
      · rw [if_neg h2, ih (i + 1) k (by omega) (by omega) (by omega)]
        have : badL (N + ls.length) os[i] = false := by unfold badL; rw [decide_eq_false h1, decide_eq_false (p := ((N + ls.length : Nat) : Int) ≤ os[i]) (by omega)]; rfl
        rw [this, Bool.false_or]
theorem rcirc_l0 (N : Nat) (ls : List S40) (os : List Int) (hN1 : 1 ≤ N) (hN : N ≤ 6) (hl : ls.length ≤ 16) (ho : os.length ≤ 4) : ∀ (d i k : Nat), ls.length - i = d → i ≤ ls.length → d + 6 < k →
    neonwrightref07_Circuit.l0 k (i : Int) (N : Int) ls os = some ((List.range' i d).all (fun j => gateOk N j (ls.getD j z40)) && !os.any (badL (N + ls.length))) := by
  intro d
  induction d with
  | zero =>
    intro i k hd hi hk
    obtain ⟨k, rfl⟩ : ∃ q, k = q + 1 := ⟨k - 1, by omega⟩
    simp only [neonwrightref07_Circuit.l0]
    rw [if_neg (by omega)]
    have := rcirc_l1 N ls os hN hl ho os.length 0 k (by omega) (by omega) (by omega)
    rw [List.drop_zero] at this
    refine this.trans ?_
    rfl
  | succ d ih =>
    intro i k hd hi hk
    obtain ⟨k, rfl⟩ : ∃ q, k = q + 1 := ⟨k - 1, by omega⟩
    have hil : i < ls.length := by omega
    have hw : ∀ _ : Unit, wrap64 ((i : Int) + 1) = ((i + 1 : Nat) : Int) := fun _ => by rw [w64 (by omega) (by omega)]; omega
    have hw2 : ∀ _ : Unit, wrap64 ((N : Int) + (i : Int)) = ((N + i : Nat) : Int) := fun _ => by rw [w64 (by omega) (by omega)]; omega
    have hrd : rd_T40 ls (i : Int) = ls.getD i z40 := by unfold rd_T40; rw [Int.toNat_natCast]
    simp only [neonwrightref07_Circuit.l0]
    rw [if_pos (by omega), if_pos (by omega), hrd, hw2 (), hw (), List.range'_succ, List.all_cons]
    have h1 := ih (i + 1) k (by omega) (by omega) (by omega)
    generalize ls.getD i z40 = s at *
    have hno : gateOk N i s = false → some false = some ((gateOk N i s && (List.range' (i + 1) d).all fun j => gateOk N j (ls.getD j z40)) && !os.any (badL (N + ls.length))) := fun h => by rw [h]; rfl
    have hyes : gateOk N i s = true → neonwrightref07_Circuit.l0 k ((i + 1 : Nat) : Int) (N : Int) ls os = some ((gateOk N i s && (List.range' (i + 1) d).all fun j => gateOk N j (ls.getD j z40)) && !os.any (badL (N + ls.length))) := fun h => by rw [h, Bool.true_and]; exact h1
    have hg : gateOk N i s = decide ((0 ≤ s.f0 ∧ s.f0 ≤ 5) ∧ (0 ≤ s.f1 ∧ s.f1 < ((N + i : Nat) : Int)) ∧ (0 ≤ s.f2 ∧ s.f2 < ((N + i : Nat) : Int)) ∧ (s.f0 = 5 → s.f2 = 0)) := by
      unfold gateOk readsL
      by_cases h5 : s.f0 = 5
      · rw [if_pos h5]
        rw [Bool.eq_iff_iff]
        simp [badL, h5] <;> omega
      · rw [if_neg h5]
        rw [Bool.eq_iff_iff]
        simp [badL, h5] <;> omega
    clear ih h1
    repeat' (split <;> first | (refine hno ?_; rw [hg]; exact decide_eq_false (by omega)) | skip)
    all_goals first
      | (refine hyes ?_; rw [hg]; exact decide_eq_true (by omega))
      | (refine hno ?_; rw [hg]; exact decide_eq_false (by omega))
theorem rCircuit_f (n : Int) (ls : List S40) (os : List Int) (k : Nat) (hk : 40 ≤ k) : neonwrightref07_Circuit.f k n ls os = some (okC n ls os) := by
  obtain ⟨k, rfl⟩ : ∃ q, k = q + 1 := ⟨k - 1, by omega⟩
  have hb : ∀ b, b = true → neonwrightref07_Circuit.j0 (k + 1) b n ls os = some false := fun b h => by simp only [neonwrightref07_Circuit.j0]; rw [if_pos h]
  by_cases hs : 1 ≤ n ∧ n ≤ 6 ∧ ls.length ≤ 16 ∧ 1 ≤ os.length ∧ os.length ≤ 4
  · obtain ⟨N, rfl⟩ := Int.eq_ofNat_of_zero_le (show 0 ≤ n by omega)
    unfold neonwrightref07_Circuit.f okC
    rw [if_neg (by omega), if_neg (by omega), if_neg (by omega), if_neg (by omega), decide_eq_true hs, Bool.true_and, Int.toNat_natCast]
    simp only [neonwrightref07_Circuit.j0]
    rw [if_neg (by simp; omega)]
    refine (rcirc_l0 N ls os (by omega) (by omega) (by omega) (by omega) ls.length 0 k (by omega) (by omega) (by omega)).trans ?_
    unfold gatesOk
    rw [List.range_eq_range']
  · have : okC n ls os = false := by unfold okC; rw [decide_eq_false hs]; rfl
    rw [this]
    unfold neonwrightref07_Circuit.f
    by_cases h1 : n < 1
    · rw [if_pos h1, hb true rfl]
    · rw [if_neg h1]
      by_cases h2 : n > 6
      · rw [if_pos h2, hb true rfl]
      · rw [if_neg h2]
        by_cases h3 : (ls.length : Int) > 16
        · rw [if_pos h3, hb true rfl]
        · rw [if_neg h3]
          by_cases h4 : (os.length : Int) < 1
          · rw [if_pos h4, hb true rfl]
          · rw [if_neg h4, hb _ (decide_eq_true (by omega))]
end Go.Proofs.Ytelfalicickelaa.P
set_option linter.unusedSimpArgs false
set_option linter.unusedVariables false
namespace Go.Proofs.Ytelfalicickelaa.P
open Go.Lib Go.RowKit Go.Proofs.YtelfalicickelaaW.PrintWords Go.Proofs.YtelfalicickelaaW.PrintLast Go.Proofs.YtelfalicickelaaW.PrintMore Go.Proofs.Ytelfalicickelaa.Kit
def bI (l : List Bool) : List Int := l.map fun b => ((b.toNat : Nat) : Int)
theorem bI_length (l : List Bool) : (bI l).length = l.length := List.length_map ..
theorem rd_bI (l : List Bool) (i : Nat) : rd (bI l) (i : Int) = (((l.getD i false).toNat : Nat) : Int) := by
  unfold rd bI
  rw [Int.toNat_natCast, List.getD_eq_getElem?_getD, List.getD_eq_getElem?_getD, List.getElem?_map]
  cases l[i]? <;> rfl
theorem rgate_f (k : Nat) (x y : Bool) (hk : k ≤ 5) : neonwrightref07_gate.f (k : Int) ((x.toNat : Nat) : Int) ((y.toNat : Nat) : Int) = some (((GT.gv k x y).toNat : Nat) : Int) := by
  have h : k = 0 ∨ k = 1 ∨ k = 2 ∨ k = 3 ∨ k = 4 ∨ k = 5 := by omega
  rcases h with rfl | rfl | rfl | rfl | rfl | rfl <;> cases x <;> cases y <;> decide +kernel
theorem rbit (V i : Nat) (hi : i ≤ 63) : Int.tmod (shr .i64 (V : Int) (i : Int)) 2 = (((V.testBit i).toNat : Nat) : Int) := by
  have h : shr .i64 (V : Int) (i : Int) = ((V / 2 ^ i : Nat) : Int) := by
    unfold shr
    have hb : IntKind.i64.bits = 64 := rfl
    rw [hb, Int.toNat_natCast, Nat.min_eq_left (by omega)]
    simp
  rw [h]
  have h2 : Int.tmod ((V / 2 ^ i : Nat) : Int) 2 = ((V / 2 ^ i % 2 : Nat) : Int) := rfl
  rw [h2, Nat.testBit_eq_decide_div_mod_eq]
  have := Nat.mod_lt (V / 2 ^ i) (show 0 < 2 by decide)
  by_cases h3 : V / 2 ^ i % 2 = 1
  · rw [h3]; rfl
  · have h4 : V / 2 ^ i % 2 = 0 := by omega
    rw [h4]; rfl
def lineOf : Option Nat → Int
  | none => -1
  | some f => ((f / 2 : Nat) : Int)
def atOf : Option Nat → Int
  | none => 0
  | some f => ((f % 2 : Nat) : Int)
theorem put_ref (F : Option Nat) (i : Nat) (x : Bool) : (((GT.put F i x).toNat : Nat) : Int) = if lineOf F = (i : Int) then atOf F else ((x.toNat : Nat) : Int) := by
  cases F with
  | none => rw [if_neg (by show ¬ ((-1 : Int) = (i : Int)); omega)]; rfl
  | some f =>
    by_cases h : f / 2 = i
    · rw [GT.put_pos x h, if_pos (by show ((f / 2 : Nat) : Int) = _; omega)]
      have h2 : f % 2 = 0 ∨ f % 2 = 1 := by omega
      show _ = ((f % 2 : Nat) : Int)
      rcases h2 with h2 | h2 <;> rw [h2] <;> rfl
    · rw [GT.put_neg x h, if_neg (by show ¬ (((f / 2 : Nat) : Int) = _); omega)]
theorem take_snoc (l : List Bool) (i : Nat) (h : i < l.length) : bI (l.take (i + 1)) = bI (l.take i) ++ [(((l.getD i false).toNat : Nat) : Int)] := by
  rw [List.take_succ_eq_append_getElem h]
  unfold bI
  rw [List.map_append, List.map_cons, List.map_nil, List.getD_eq_getElem?_getD, List.getElem?_eq_getElem h]
  rfl
theorem take_getD (l : List Bool) (i j : Nat) (h : j < i) : (l.take i).getD j false = l.getD j false := by
  rw [List.getD_eq_getElem?_getD, List.getD_eq_getElem?_getD, List.getElem?_take_of_lt h]
theorem shl_bit (b : Bool) (i : Nat) (hi : i ≤ 3) : shl .i64 ((b.toNat : Nat) : Int) (i : Int) = ((b.toNat * 2 ^ i : Nat) : Int) := by
  have h : i = 0 ∨ i = 1 ∨ i = 2 ∨ i = 3 := by omega
  rcases h with rfl | rfl | rfl | rfl <;> cases b <;> decide +kernel
theorem rrep_l1 (N : Nat) (ls : List S40) (os : List Int) (vs : List Bool) (ho : os.length ≤ 4) (hos : ∀ j (h : j < os.length), 0 ≤ os[j] ∧ os[j] < (vs.length : Int)) : ∀ (d i k : Nat), os.length - i = d → i ≤ os.length → d < k →
    neonwrightref07_reply.l1 k (bI vs) ((GT.num ((os.take i).map fun o => vs.getD o.toNat false) : Nat) : Int) (i : Int) (N : Int) ls os = some ((GT.num (os.map fun o => vs.getD o.toNat false) : Nat) : Int) := by
  intro d
  induction d with
  | zero =>
    intro i k hd hi hk
    obtain ⟨k, rfl⟩ : ∃ q, k = q + 1 := ⟨k - 1, by omega⟩
    simp only [neonwrightref07_reply.l1]
    rw [if_neg (by omega), List.take_of_length_le (by omega)]
  | succ d ih =>
    intro i k hd hi hk
    obtain ⟨k, rfl⟩ : ∃ q, k = q + 1 := ⟨k - 1, by omega⟩
    have hil : i < os.length := by omega
    have hw : ∀ _ : Unit, wrap64 ((i : Int) + 1) = ((i + 1 : Nat) : Int) := fun _ => by rw [w64 (by omega) (by omega)]; omega
    obtain ⟨h0, h1⟩ := hos i hil
    obtain ⟨o, ho'⟩ := Int.eq_ofNat_of_zero_le h0
    have hnl := GT.num_lt ((os.take (i + 1)).map fun o => vs.getD o.toNat false)
    have htk : (os.take (i + 1)).map (fun o => vs.getD o.toNat false) = (os.take i).map (fun o => vs.getD o.toNat false) ++ [vs.getD o false] := by
      rw [List.take_succ_eq_append_getElem hil, List.map_append, List.map_cons, List.map_nil, ho', Int.toNat_natCast]
    have hln : ((os.take i).map fun o => vs.getD o.toNat false).length = i := by rw [List.length_map, List.length_take]; omega
    have h2 := ih (i + 1) k (by omega) (by omega) (by omega)
    have hnum : GT.num ((os.take (i + 1)).map fun o => vs.getD o.toNat false) = GT.num ((os.take i).map fun o => vs.getD o.toNat false) + (vs.getD o false).toNat * 2 ^ i := by rw [htk, GT.num_append, hln]
    have hlt : GT.num ((os.take (i + 1)).map fun o => vs.getD o.toNat false) < 16 := by
      refine Nat.lt_of_lt_of_le hnl ?_
      rw [List.length_map, List.length_take, Nat.min_eq_left (by omega)]
      exact Nat.pow_le_pow_right (by decide) (show i + 1 ≤ 4 by omega)
    simp only [neonwrightref07_reply.l1]
    rw [if_pos (by omega), if_pos (by omega), rd_get _ _ hil, if_pos h0, bI_length, if_pos h1, hw (), ho', rd_bI, shl_bit _ _ (by omega)]
    have hs : ∀ _ : Unit, wrap64 (((GT.num ((os.take i).map fun o => vs.getD o.toNat false) : Nat) : Int) + (((vs.getD o false).toNat * 2 ^ i : Nat) : Int)) = ((GT.num ((os.take (i + 1)).map fun o => vs.getD o.toNat false) : Nat) : Int) := fun _ => by
      rw [w64 (by omega) (by omega), hnum]; omega
    rw [hs ()]
    exact h2
theorem rrep_l0 (N : Nat) (ls : List S40) (os : List Int) (hok : okC (N : Int) ls os = true) (F : Option Nat) (V : Nat) : ∀ (d i k : Nat), (N + ls.length) - i = d → i ≤ N + ls.length → d + 6 < k →
    neonwrightref07_reply.l0 k (V : Int) (bI ((GT.vals (toC N ls os) F V).take i)) (i : Int) (N : Int) ls os (lineOf F) (atOf F) = some ((GT.reply (toC N ls os) F V : Nat) : Int) := by
  have hs := okC_small hok
  have hc := okC_ok hok
  have hlen : (GT.vals (toC N ls os) F V).length = N + ls.length := by
    rw [GT.vals_length]
    show N + (ls.map toG).length = _
    rw [List.length_map]
  have hw2 : ∀ _ : Unit, wrap64 ((N : Int) + (ls.length : Int)) = ((N + ls.length : Nat) : Int) := fun _ => by rw [w64 (by omega) (by omega)]; omega
  intro d
  induction d with
  | zero =>
    intro i k hd hi hk
    obtain ⟨k, rfl⟩ : ∃ q, k = q + 1 := ⟨k - 1, by omega⟩
    rw [neonwrightref07_reply.l0, neonwrightref07_Lines.f, Option.bind_some]
    rw [hw2 (), if_neg (by omega), List.take_of_length_le (by omega)]
    have hos : ∀ j (h : j < os.length), 0 ≤ os[j] ∧ os[j] < ((GT.vals (toC N ls os) F V).length : Int) := fun j h => by
      rw [hlen]
      unfold okC at hok
      rw [Bool.and_eq_true, Bool.and_eq_true] at hok
      have h3 := hok.2.2
      rw [Bool.not_eq_true', List.any_eq_false] at h3
      have h4 := h3 os[j] (List.getElem_mem h)
      rw [Int.toNat_natCast] at h4
      unfold badL at h4
      simp at h4
      omega
    have e := rrep_l1 N ls os (GT.vals (toC N ls os) F V) (by omega) hos os.length 0 k (by omega) (by omega) (by omega)
    rw [List.take_zero, List.map_nil] at e
    have e2 : GT.reply (toC N ls os) F V = GT.num (os.map fun o => (GT.vals (toC N ls os) F V).getD o.toNat false) := by
      unfold GT.reply GT.outs
      rw [show (toC N ls os).os = os.map Int.toNat from rfl, List.map_map]
      rfl
    rw [e2]
    generalize GT.vals (toC N ls os) F V = vs at *
    exact e
  | succ d ih =>
    intro i k hd hi hk
    obtain ⟨k, rfl⟩ : ∃ q, k = q + 1 := ⟨k - 1, by omega⟩
    have hil : i < N + ls.length := by omega
    have hw : ∀ _ : Unit, wrap64 ((i : Int) + 1) = ((i + 1 : Nat) : Int) := fun _ => by rw [w64 (by omega) (by omega)]; omega
    have hx7 : (bI ((GT.vals (toC N ls os) F V).take i)).length = i := by rw [bI_length, List.length_take]; omega
    have h1 := ih (i + 1) k (by omega) (by omega) (by omega)
    rw [take_snoc _ _ (by omega)] at h1
    rw [neonwrightref07_reply.l0, neonwrightref07_Lines.f, Option.bind_some]
    rw [hw2 (), if_pos (by omega), hw ()]
    by_cases hin : i < N
    · rw [if_pos (by omega), if_pos (by omega), hx7, rbit V i (by omega)]
      have hv := GT.vals_in (toC N ls os) F V (show i < (toC N ls os).n from hin)
      rw [hv, put_ref] at h1
      by_cases hL : lineOf F = (i : Int)
      · rw [if_pos hL, if_pos (by omega)]
        rw [if_pos hL] at h1
        exact h1
      · rw [if_neg hL, if_pos (by omega)]
        rw [if_neg hL] at h1
        exact h1
    · obtain ⟨j, rfl⟩ : ∃ j, i = N + j := ⟨i - N, by omega⟩
      have hj : j < ls.length := by omega
      have hwj : ∀ _ : Unit, wrap64 (((N + j : Nat) : Int) - (N : Int)) = (j : Int) := fun _ => by rw [w64 (by omega) (by omega)]; omega
      have hrd : rd_T40 ls (j : Int) = ls[j] := by unfold rd_T40; rw [Int.toNat_natCast, List.getD_eq_getElem?_getD, List.getElem?_eq_getElem hj]; rfl
      have hgk := gatesOk_at (by unfold okC at hok; rw [Bool.and_eq_true, Bool.and_eq_true, Int.toNat_natCast] at hok; exact hok.2.1) hj
      have hjg : j < (toC N ls os).gs.length := by show j < (ls.map toG).length; rw [List.length_map]; exact hj
      have hgs : (toC N ls os).gs[j] = toG ls[j] := List.getElem_map toG
      have hv := GT.vals_gate hc F V hjg
      have hb := hc.g j hjg
      rw [hgs] at hv hb
      rw [show (toC N ls os).n = N from rfl] at hv hb
      rw [hv, put_ref] at h1
      have hf : 0 ≤ ls[j].f0 ∧ 0 ≤ ls[j].f1 ∧ 0 ≤ ls[j].f2 := by
        unfold gateOk at hgk
        rw [Bool.and_eq_true, Bool.and_eq_true, decide_eq_true_iff] at hgk
        obtain ⟨g1, g2, g3⟩ := hgk
        have g4 := readsL_ok (by simpa using g3)
        refine ⟨g1.1, g4.1.1, ?_⟩
        by_cases h5 : ls[j].f0 = 5
        · simp [h5] at g2; omega
        · exact (g4.2 h5).1
      rw [if_neg (by omega), hwj (), hrd]
      generalize ls[j] = s at *
      obtain ⟨f0, f1, f2⟩ := s
      simp only [toG] at hf hb h1 ⊢
      obtain ⟨a, rfl⟩ := Int.eq_ofNat_of_zero_le hf.1
      obtain ⟨b, rfl⟩ := Int.eq_ofNat_of_zero_le hf.2.1
      obtain ⟨c, rfl⟩ := Int.eq_ofNat_of_zero_le hf.2.2
      simp only [Int.toNat_natCast] at hb h1
      rw [if_pos (by omega), if_pos (by omega), if_pos (by omega), hx7, if_pos (by omega), if_pos (by omega), if_pos (by omega), rd_bI, rd_bI, take_getD _ _ _ hb.2.1, take_getD _ _ _ hb.2.2.1, rgate_f _ _ _ hb.1, Option.bind_some]
      by_cases hL : lineOf F = ((N + j : Nat) : Int)
      · rw [if_pos hL, if_pos (by omega)]
        rw [if_pos hL] at h1
        exact h1
      · rw [if_neg hL, if_pos (by omega)]
        rw [if_neg hL] at h1
        exact h1
theorem rreply_f (N : Nat) (ls : List S40) (os : List Int) (hok : okC (N : Int) ls os = true) (F : Option Nat) (V : Nat) (k : Nat) (hk : 40 ≤ k) :
    neonwrightref07_reply.f k (N : Int) ls os (lineOf F) (atOf F) (V : Int) = some ((GT.reply (toC N ls os) F V : Nat) : Int) := by
  have hs := okC_small hok
  exact rrep_l0 N ls os hok F V (N + ls.length) 0 k (by omega) (by omega) (by omega)
end Go.Proofs.Ytelfalicickelaa.P
set_option linter.unusedSimpArgs false
set_option linter.unusedVariables false
namespace Go.Proofs.Ytelfalicickelaa.P
open Go.Lib Go.RowKit Go.Proofs.YtelfalicickelaaW.PrintWords Go.Proofs.YtelfalicickelaaW.PrintLast Go.Proofs.YtelfalicickelaaW.PrintMore Go.Proofs.Ytelfalicickelaa.Kit
def isFew (ls : List S40) (os : List Int) : Bool := decide (ls.length ≤ 40) && decide (os.length ≤ 40)
theorem few_f (n : Int) (ls : List S40) (os : List Int) : neonwrightlaw07_few.f n ls os = some (isFew ls os) := by
  unfold neonwrightlaw07_few.f isFew
  by_cases h : ls.length ≤ 40
  · rw [if_pos (by omega), decide_eq_true h, Bool.true_and]
    congr 1
    by_cases h2 : os.length ≤ 40
    · rw [decide_eq_true h2, decide_eq_true (by omega)]
    · rw [decide_eq_false h2, decide_eq_false (by omega)]
  · rw [if_neg (by omega), decide_eq_false h, Bool.false_and]
theorem alive_f : neonwrightlaw07_alive.f = some true := rfl
theorem same_l0 (a b : List Int) (hl : a.length = b.length) (hs : a.length ≤ 1000) : ∀ (d i k : Nat), a.length - i = d → i ≤ a.length → d < k →
    neonwrightlaw07_same.l0 k a b (i : Int) = some (decide (a.drop i = b.drop i)) := by
  intro d
  induction d with
  | zero =>
    intro i k hd hi hk
    obtain ⟨k, rfl⟩ : ∃ q, k = q + 1 := ⟨k - 1, by omega⟩
    rw [neonwrightlaw07_same.l0, if_neg (by omega), List.drop_eq_nil_of_le (by omega), List.drop_eq_nil_of_le (by omega)]
    rfl
  | succ d ih =>
    intro i k hd hi hk
    obtain ⟨k, rfl⟩ : ∃ q, k = q + 1 := ⟨k - 1, by omega⟩
    have hw : wrap64 ((i : Int) + 1) = ((i + 1 : Nat) : Int) := by rw [w64 (by omega) (by omega)]; omega
    have ha : i < a.length := by omega
    have hb : i < b.length := by omega
    rw [neonwrightlaw07_same.l0, if_pos (by omega), if_pos (by omega), if_pos (by omega), rd_get _ _ ha, rd_get _ _ hb, List.drop_eq_getElem_cons ha, List.drop_eq_getElem_cons hb, hw]
    by_cases h : a[i] = b[i]
    · rw [if_pos h, ih (i + 1) k (by omega) (by omega) (by omega), h]
      congr 1
      by_cases h2 : a.drop (i + 1) = b.drop (i + 1)
      · rw [h2]; simp
      · rw [decide_eq_false h2, decide_eq_false (fun e => h2 (List.cons.inj e).2)]
    · rw [if_neg h, decide_eq_false (fun e => h (List.cons.inj e).1)]
theorem same_f (a b : List Int) (hs : a.length ≤ 1000) (k : Nat) (hk : a.length < k) : neonwrightlaw07_same.f k a b = some (decide (a = b)) := by
  unfold neonwrightlaw07_same.f
  by_cases h : a.length = b.length
  · rw [if_pos (by omega)]
    exact same_l0 a b h hs a.length 0 k (by omega) (by omega) (by omega)
  · rw [if_neg (by omega), decide_eq_false (fun e => h (congrArg List.length e))]
theorem lines_f (N : Nat) (hN : N ≤ 6) (ls : List S40) (hl : ls.length ≤ 100) (os : List Int) : neonwrightref07_Lines.f (N : Int) ls os = some ((N + ls.length : Nat) : Int) := by
  unfold neonwrightref07_Lines.f
  rw [w64 (by omega) (by omega)]
  congr 1
theorem none_f : neonwrightref07_none.f = some (lineOf none, atOf none) := rfl
theorem failure_f (f : Nat) (hf : f ≤ 1000) : neonwrightref07_failure.f (f : Int) = some (lineOf (some f), atOf (some f)) := by
  unfold neonwrightref07_failure.f
  have h1 : Int.tdiv (f : Int) 2 = ((f / 2 : Nat) : Int) := rfl
  have h2 : Int.tmod (f : Int) 2 = ((f % 2 : Nat) : Int) := rfl
  rw [h1, h2, w64 (by omega) (by omega)]
  rfl
theorem okC_nat {n : Int} {ls : List S40} {os : List Int} (h : okC n ls os = true) : ∃ N : Nat, n = (N : Int) := ⟨n.toNat, by have := okC_small h; omega⟩
end Go.Proofs.Ytelfalicickelaa.P
set_option linter.unusedSimpArgs false
set_option linter.unusedVariables false
namespace Go.Proofs.Ytelfalicickelaa.P
open Go.Lib Go.RowKit Go.Proofs.YtelfalicickelaaW.PrintWords Go.Proofs.YtelfalicickelaaW.PrintLast Go.Proofs.YtelfalicickelaaW.PrintMore Go.Proofs.Ytelfalicickelaa.Kit
theorem shows_bit (c : GT.C) (f v : Nat) : (GT.shows c f).testBit v = (decide (v < 2 ^ c.n) && decide (GT.reply c (some f) v ≠ GT.reply c none v)) := GT.wd_bit _ _ _
def shP (c : GT.C) (v f : Nat) : Bool := decide (GT.reply c (some f) v ≠ GT.reply c none v)
def shN (c : GT.C) (v : Nat) : Nat := GT.num ((List.range (2 * GT.lines c)).map (shP c v))
theorem num_range_succ (p : Nat → Bool) (i : Nat) : GT.num ((List.range (i + 1)).map p) = GT.num ((List.range i).map p) + (p i).toNat * 2 ^ i := by
  rw [List.range_succ, List.map_append, List.map_cons, List.map_nil, GT.num_append, List.length_map, List.length_range]
theorem num_range_lt (p : Nat → Bool) (i : Nat) : GT.num ((List.range i).map p) < 2 ^ i := by
  have := GT.num_lt ((List.range i).map p)
  rwa [List.length_map, List.length_range] at this
theorem num_range_bit (p : Nat → Bool) (n i : Nat) : (GT.num ((List.range n).map p)).testBit i = (decide (i < n) && p i) := by
  rw [GT.num_bit, List.getD_eq_getElem?_getD, List.getElem?_map]
  by_cases h : i < n
  · rw [List.getElem?_eq_getElem (by simpa using h), decide_eq_true h]; simp
  · rw [List.getElem?_eq_none (by simp; omega), decide_eq_false h]; rfl
theorem pow44 {i : Nat} (h : i ≤ 44) : 2 ^ i ≤ 17592186044416 := by
  have := Nat.pow_le_pow_right (n := 2) (by decide) h
  have e : (2 : Nat) ^ 44 = 17592186044416 := by decide
  omega
theorem rshown_l0 (N : Nat) (ls : List S40) (os : List Int) (hok : okC (N : Int) ls os = true) (v : Nat) : ∀ (d i k : Nat), 2 * (N + ls.length) - i = d → i ≤ 2 * (N + ls.length) → d + 50 < k →
    neonwrightref07_shown.l0 k (v : Int) ((GT.num ((List.range i).map (shP (toC N ls os) v)) : Nat) : Int) ((GT.reply (toC N ls os) none v : Nat) : Int) (i : Int) (N : Int) ls os = some ((shN (toC N ls os) v : Nat) : Int) := by
  have hs := okC_small hok
  intro d
  induction d with
  | zero =>
    intro i k hd hi hk
    obtain ⟨k, rfl⟩ : ∃ q, k = q + 1 := ⟨k - 1, by omega⟩
    rw [neonwrightref07_shown.l0, lines_f N (by omega) ls (by omega), Option.bind_some, w64 (by omega) (by omega), if_neg (by omega)]
    unfold shN
    rw [toC_lines, show i = 2 * (N + ls.length) by omega]
  | succ d ih =>
    intro i k hd hi hk
    obtain ⟨k, rfl⟩ : ∃ q, k = q + 1 := ⟨k - 1, by omega⟩
    have hw : wrap64 ((i : Int) + 1) = ((i + 1 : Nat) : Int) := by rw [w64 (by omega) (by omega)]; omega
    have h1 := ih (i + 1) k (by omega) (by omega) (by omega)
    rw [num_range_succ] at h1
    rw [neonwrightref07_shown.l0, lines_f N (by omega) ls (by omega), Option.bind_some, w64 (x := 2 * ((N + ls.length : Nat) : Int)) (by omega) (by omega), if_pos (by omega), failure_f i (by omega), Option.bind_some]
    dsimp only
    rw [rreply_f N ls os hok (some i) v k (by omega), Option.bind_some, hw]
    by_cases h : GT.reply (toC N ls os) (some i) v = GT.reply (toC N ls os) none v
    · rw [if_pos (by rw [h])]
      rw [show shP (toC N ls os) v i = false from decide_eq_false (fun e => e h)] at h1
      rw [show Bool.toNat false = 0 from rfl, Nat.zero_mul, Nat.add_zero] at h1
      exact h1
    · rw [if_neg (fun e => h (by omega)), if_pos (by omega), shl1n (by omega)]
      rw [show shP (toC N ls os) v i = true from decide_eq_true h] at h1
      rw [show Bool.toNat true = 1 from rfl, Nat.one_mul] at h1
      have hlt := num_range_lt (shP (toC N ls os) v) i
      have hp := pow44 (i := i) (by omega)
      have hw2 : wrap64 (((GT.num ((List.range i).map (shP (toC N ls os) v)) : Nat) : Int) + ((2 ^ i : Nat) : Int)) = ((GT.num ((List.range i).map (shP (toC N ls os) v)) + 2 ^ i : Nat) : Int) := by
        generalize 2 ^ i = q at *
        rw [w64 (by omega) (by omega)]; omega
      rw [hw2]
      exact h1
theorem rshown_f (N : Nat) (ls : List S40) (os : List Int) (hok : okC (N : Int) ls os = true) (v : Nat) (k : Nat) (hk : 200 ≤ k) : neonwrightref07_shown.f k (N : Int) ls os (v : Int) = some ((shN (toC N ls os) v : Nat) : Int) := by
  have hs := okC_small hok
  unfold neonwrightref07_shown.f
  rw [none_f, Option.bind_some]
  dsimp only
  rw [rreply_f N ls os hok none v k (by omega), Option.bind_some]
  exact rshown_l0 N ls os hok v (2 * (N + ls.length)) 0 k (by omega) (by omega) (by omega)
theorem rlisted_l0 (x : Nat) (hx : x < 4611686018427387904) : ∀ (d i k : Nat) (acc : List Int), 62 - i = d → i ≤ 62 → d < k → acc.length ≤ i →
    neonwrightref07_listed.l0 k (x : Int) acc (i : Int) = some (acc ++ nI ((List.range' i d).filter fun j => x.testBit j)) := by
  have hend : ∀ i, 62 ≤ i → x / 2 ^ i = 0 := fun i hi => by
    have := Nat.pow_le_pow_right (n := 2) (by decide) hi
    exact Nat.div_eq_of_lt (by omega)
  intro d
  induction d with
  | zero =>
    intro i k acc hd hi hk ha
    obtain ⟨k, rfl⟩ : ∃ q, k = q + 1 := ⟨k - 1, by omega⟩
    rw [neonwrightref07_listed.l0, if_pos (by omega), shrn (by omega), hend i (by omega), if_neg (by omega)]
    simp [nI]
  | succ d ih =>
    intro i k acc hd hi hk ha
    obtain ⟨k, rfl⟩ : ∃ q, k = q + 1 := ⟨k - 1, by omega⟩
    have hw : wrap64 ((i : Int) + 1) = ((i + 1 : Nat) : Int) := by rw [w64 (by omega) (by omega)]; omega
    rw [neonwrightref07_listed.l0, if_pos (by omega), shrn (by omega)]
    by_cases h0 : x / 2 ^ i = 0
    · rw [h0, if_neg (by omega), List.filter_eq_nil_iff.2 (fun j hj => by
        have := (List.mem_range'_1.1 hj).1
        rw [div_zero_bits h0 this]; decide)]
      simp [nI]
    · have hq : ((x / 2 ^ i : Nat) : Int) > 0 := by generalize x / 2 ^ i = q at *; omega
      rw [if_pos hq, show (2 : Int) = ((2 : Nat) : Int) from rfl, tmodn, bit_one, hw, List.range'_succ]
      cases hb : x.testBit i with
      | true =>
        rw [if_pos (show ((true.toNat : Nat) : Int) = 1 from rfl), if_pos (by omega), ih (i + 1) k _ (by omega) (by omega) (by omega) (by rw [List.length_append, List.length_singleton]; omega), List.filter_cons_of_pos hb]
        simp [nI]
      | false =>
        rw [if_neg (by decide), ih (i + 1) k _ (by omega) (by omega) (by omega) (by omega), List.filter_cons_of_neg (by rw [hb]; decide)]
def listN (x : Nat) : List Nat := (List.range 62).filter fun j => x.testBit j
theorem rlisted_f (x : Nat) (hx : x < 4611686018427387904) (k : Nat) (hk : 63 ≤ k) : neonwrightref07_listed.f k (x : Int) = some (nI (listN x)) := by
  have := rlisted_l0 x hx 62 0 k [] (by omega) (by omega) (by omega) (by simp)
  rw [List.nil_append, ← List.range_eq_range'] at this
  exact this
theorem shN_lt (N : Nat) (ls : List S40) (os : List Int) (hok : okC (N : Int) ls os = true) (v : Nat) : shN (toC N ls os) v < 17592186044416 := by
  have hs := okC_small hok
  unfold shN
  refine Nat.lt_of_lt_of_le (num_range_lt _ _) (pow44 ?_)
  rw [toC_lines]; omega
def anyP (c : GT.C) (v f : Nat) : Bool := (List.range v).any fun u => shP c u f
def anyN (c : GT.C) (v : Nat) : Nat := GT.num ((List.range (2 * GT.lines c)).map (anyP c v))
theorem anyN_or (c : GT.C) (v : Nat) : anyN c v ||| shN c v = anyN c (v + 1) := by
  refine Nat.eq_of_testBit_eq fun i => ?_
  unfold anyN shN
  rw [Nat.testBit_or, num_range_bit, num_range_bit, num_range_bit]
  unfold anyP
  rw [List.range_succ, List.any_append]
  cases decide (i < 2 * GT.lines c) <;> simp
theorem anyN_lt (N : Nat) (ls : List S40) (os : List Int) (hok : okC (N : Int) ls os = true) (v : Nat) : anyN (toC N ls os) v < 17592186044416 := by
  have hs := okC_small hok
  unfold anyN
  refine Nat.lt_of_lt_of_le (num_range_lt _ _) (pow44 ?_)
  rw [toC_lines]; omega
theorem rall_l0 (N : Nat) (ls : List S40) (os : List Int) (hok : okC (N : Int) ls os = true) : ∀ (d v k : Nat), 2 ^ N - v = d → v ≤ 2 ^ N → d + 210 < k →
    neonwrightref07_all.l0 k (nI ((List.range v).map (shN (toC N ls os)))) ((anyN (toC N ls os) v : Nat) : Int) (v : Int) (N : Int) ls os = some (nI ((List.range (2 ^ N)).map (shN (toC N ls os))), ((anyN (toC N ls os) (2 ^ N) : Nat) : Int)) := by
  have hs := okC_small hok
  have hp := pow6 (N := N) (by omega)
  intro d
  induction d with
  | zero =>
    intro v k hd hv hk
    obtain ⟨k, rfl⟩ : ∃ q, k = q + 1 := ⟨k - 1, by omega⟩
    rw [neonwrightref07_all.l0, if_pos (by omega), shl1n (by omega), if_neg (by omega), show v = 2 ^ N by omega]
  | succ d ih =>
    intro v k hd hv hk
    obtain ⟨k, rfl⟩ : ∃ q, k = q + 1 := ⟨k - 1, by omega⟩
    have hw : wrap64 ((v : Int) + 1) = ((v + 1 : Nat) : Int) := by rw [w64 (by omega) (by omega)]; omega
    have h1 := ih (v + 1) k (by omega) (by omega) (by omega)
    have l1 := anyN_lt N ls os hok v
    have l2 := shN_lt N ls os hok v
    rw [neonwrightref07_all.l0, if_pos (by omega), shl1n (by omega), if_pos (by omega), rshown_f N ls os hok v k (by omega), Option.bind_some, if_pos (by simp [nI]; omega), or64 _ _ (by omega) (by omega), anyN_or, hw]
    rw [List.range_succ, List.map_append] at h1
    unfold nI at h1 ⊢
    rw [List.map_append] at h1
    exact h1
theorem rall_f (N : Nat) (ls : List S40) (os : List Int) (hok : okC (N : Int) ls os = true) (k : Nat) (hk : 300 ≤ k) : neonwrightref07_all.f k (N : Int) ls os = some (nI ((List.range (2 ^ N)).map (shN (toC N ls os))), ((anyN (toC N ls os) (2 ^ N) : Nat) : Int)) := by
  have hs := okC_small hok
  have hp := pow6 (N := N) (by omega)
  have e := rall_l0 N ls os hok (2 ^ N) 0 k (Nat.sub_zero _) (Nat.zero_le _) (by omega)
  have e0 : anyN (toC N ls os) 0 = 0 := by
    refine Nat.eq_of_testBit_eq fun i => ?_
    unfold anyN anyP
    rw [num_range_bit]
    simp
  rw [e0] at e
  exact e
theorem anyP_shows (c : GT.C) (f : Nat) : anyP c (2 ^ c.n) f = (GT.shows c f != 0) := by
  rw [Bool.eq_iff_iff, bne_iff_ne, Ne, show (GT.shows c f = 0) ↔ _ from GT.wd_zero _ _]
  unfold anyP
  rw [List.any_eq_true]
  constructor
  · rintro ⟨v, hv, h⟩ h2
    have := h2 v (List.mem_range.1 hv)
    exact absurd ((show shP c v f = false from this) ▸ h) (by decide)
  · intro h
    refine Classical.byContradiction fun h2 => h fun v hv => ?_
    cases e : shP c v f with
    | false => exact e
    | true => exact absurd ⟨v, List.mem_range.2 hv, e⟩ h2
end Go.Proofs.Ytelfalicickelaa.P
set_option linter.unusedSimpArgs false
set_option linter.unusedVariables false
namespace Go.Proofs.Ytelfalicickelaa.P
open Go.Lib Go.RowKit Go.Proofs.YtelfalicickelaaW.PrintWords Go.Proofs.YtelfalicickelaaW.PrintLast Go.Proofs.YtelfalicickelaaW.PrintMore Go.Proofs.Ytelfalicickelaa.Kit
theorem whereN_len (N : Nat) (ls : List S40) (os : List Int) (hok : okC (N : Int) ls os = true) (p : Nat → Bool) : (whereN (toC N ls os) p).length ≤ 44 := by
  have hs := okC_small hok
  unfold whereN
  refine Nat.le_trans (List.length_filter_le _ _) ?_
  rw [List.length_range, toC_lines]; omega
theorem mem_whereN {c : GT.C} {p : Nat → Bool} {f : Nat} : f ∈ whereN c p ↔ f < 2 * GT.lines c ∧ p (GT.shows c f) = true := by
  unfold whereN
  rw [List.mem_filter, List.mem_range]
theorem rshows_lt64 (N : Nat) (ls : List S40) (os : List Int) (hok : okC (N : Int) ls os = true) (f : Nat) : GT.shows (toC N ls os) f < 2 ^ 64 := by
  have hs := okC_small hok
  have h1 : GT.shows (toC N ls os) f < 2 ^ 2 ^ N := GT.wd_lt _ _
  exact Nat.lt_of_lt_of_le h1 (Nat.pow_le_pow_right (by decide) (pow6 (by omega)))
end Go.Proofs.Ytelfalicickelaa.P
