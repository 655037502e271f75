/- Texts of this claim, merged by a program (shake.py): what the last theorem reaches of Pf44, Kit, QUnit, Shelf, Pop, HBits. -/
import Derived.Laws.Entries
import Derived.Laws.BitsLemmas
import Derived.Handy
import Derived.BigQuiet
import Derived.Ground.SlgnProg
import Derived.Shelf.SlicesE.Equal
import Derived.Shelf.SlicesE.Clone
import Derived.Ground.SlgfProg
import Derived.Shelf.SlicesE.IndexFunc
import Derived.Shelf.SlicesE.DeleteFunc
import Derived.Test.YtelfalicickelaaProg
import Derived.Lib.BitFns
import Derived.Test.YtelfalicickelaaKGR3
import Derived.Test.YtelfalicickelaaKGR9
import Derived.Test.YtelfalicickelaaKGR1
import Derived.Test.YtelfalicickelaaKGR2
namespace Go.Proofs.Ytelfalicickelaa.P
open Go.RowKit Go.Proofs.YtelfalicickelaaW.PrintWords Go.Proofs.YtelfalicickelaaW.PrintLast Go.Proofs.YtelfalicickelaaW.PrintMore
attribute [local go_sem] max2_int max_two
set_option linter.unusedVariables false
set_option linter.unusedSimpArgs false
attribute [local go_sem high] eqA40
mutual
def neonwrightlaw07_circuits.j0 : Nat → Bool → Int → List (S40) → List Int → Int → List (S40) → List Int → Option (Bool)
  | 0, _, _, _, _, _, _, _ => none
  | k + 1, x27, x519000, x519001, x519002, x520000, x520001, x520002 => if x27 = true then (some false) else (neonwrightlaw07_circuits.l0 k 0 x519000 x519001 x519002 x520000 x520001 x520002)
def neonwrightlaw07_circuits.l0 : Nat → Int → Int → List (S40) → List Int → Int → List (S40) → List Int → Option (Bool)
  | 0, _, _, _, _, _, _, _ => none
  | k + 1, x5, x519000, x519001, x519002, x520000, x520001, x520002 => if x5 < (x519001.length : Int) then (if 0 ≤ x5 then (if x5 < (x520001.length : Int) then (if (!(((rd_T40 x519001 x5).f0) == ((rd_T40 x520001 x5).f0)) || (!(((rd_T40 x519001 x5).f1) == ((rd_T40 x520001 x5).f1)) || (!(((rd_T40 x519001 x5).f2) == ((rd_T40 x520001 x5).f2))))) = true then (some false) else (neonwrightlaw07_circuits.l0 k (wrap64 (x5 + 1)) x519000 x519001 x519002 x520000 x520001 x520002)) else (none)) else (none)) else (some true)
end
def neonwrightlaw07_circuits.f (k : Nat) (a0_0 : Int) (l0_1 : List (S40)) (l0_2 : List Int) (a1_0 : Int) (l1_1 : List (S40)) (l1_2 : List Int) : Option (Bool) := if a0_0 = a1_0 then (if (l0_1.length : Int) = (l1_1.length : Int) then ((neonwrightlaw07_same.f k l0_2 l1_2).bind fun t520 => (neonwrightlaw07_circuits.j0 k (!t520) a0_0 l0_1 l0_2 a1_0 l1_1 l1_2)) else (neonwrightlaw07_circuits.j0 k true a0_0 l0_1 l0_2 a1_0 l1_1 l1_2)) else (neonwrightlaw07_circuits.j0 k true a0_0 l0_1 l0_2 a1_0 l1_1 l1_2)
set_option maxHeartbeats 8000000 in
set_option maxRecDepth 100000 in
theorem neonwrightlaw07_circuits.calls (k : Nat) (a0_0 : Int) (A0_1 : Option Addr) (c0_1 : Nat) (l0_1 : List (S40)) (A0_2 : Option Addr) (c0_2 : Nat) (l0_2 : List Int) (a1_0 : Int) (A1_1 : Option Addr) (c1_1 : Nat) (l1_1 : List (S40)) (A1_2 : Option Addr) (c1_2 : Nat) (l1_2 : List Int) (r : Bool) (w : World) (hr0_1 : Kd.C k40 w A0_1 l0_1.length l0_1) (hc0_1 : l0_1.length ≤ c0_1) (hr0_2 : Kd.C (Kd.int .i64) w A0_2 l0_2.length l0_2) (hc0_2 : l0_2.length ≤ c0_2) (hr1_1 : Kd.C k40 w A1_1 l1_1.length l1_1) (hc1_1 : l1_1.length ≤ c1_1) (hr1_2 : Kd.C (Kd.int .i64) w A1_2 l1_2.length l1_2) (hc1_2 : l1_2.length ≤ c1_2) (h : neonwrightlaw07_circuits.f k a0_0 l0_1 l0_2 a1_0 l1_1 l1_2 = some r) :
    Calls Try.prog 44 #[.agg #[.int .i64 a0_0, .slice A0_1 l0_1.length c0_1, .slice A0_2 l0_2.length c0_2], .agg #[.int .i64 a1_0, .slice A1_1 l1_1.length c1_1, .slice A1_2 l1_2.length c1_2]] w fun e w' => e = .returned (.bool r) ∧ Below w.heap.size w w' := by
  have hu25 := Try.underlying25
  have hu40 := Try.underlying40
  have HR0_1 := Aside0.mk hr0_1
  have HC0_1 := Aside0.mk hc0_1
  clear hr0_1 hc0_1
  have HR0_2 := Aside0.mk hr0_2
  have HC0_2 := Aside0.mk hc0_2
  clear hr0_2 hc0_2
  have HR1_1 := Aside0.mk hr1_1
  have HC1_1 := Aside0.mk hc1_1
  clear hr1_1 hc1_1
  have HR1_2 := Aside0.mk hr1_2
  have HC1_2 := Aside0.mk hc1_2
  clear hr1_2 hc1_2
  have HB := Aside0.mk (Below.refl w.heap.size w)
  have H : (if a0_0 = a1_0 then (if (l0_1.length : Int) = (l1_1.length : Int) then ((neonwrightlaw07_same.f k l0_2 l1_2).bind fun t520 => (neonwrightlaw07_circuits.j0 k (!t520) a0_0 l0_1 l0_2 a1_0 l1_1 l1_2)) else (neonwrightlaw07_circuits.j0 k true a0_0 l0_1 l0_2 a1_0 l1_1 l1_2)) else (neonwrightlaw07_circuits.j0 k true a0_0 l0_1 l0_2 a1_0 l1_1 l1_2)) = some r := h
  clear h
  have HC3 := Aside0.mk H
  clear H
  go_enter Try.func44, Try.ntmps44
  go_upto_region 1 with (first | ((with_reducible refine gate_dst (N := 2) rfl ?_); (try (refine gate_guard (by rfl) ?_; dsimp only)); refine box_event ?hg (N := 2) ?hd (cs := #[.int .i64 a0_0, .slice A0_1 l0_1.length c0_1, .slice A0_2 l0_2.length c0_2]) (t := 25) ?hr ?_; (case hd => rfl); (case hg => rfl); (case hr => first | (go_simp; done) | (go_simp; rfl)); intro gb518 hg w4 hbox hb; have n0_ := Aside0.mk (below_step (by repeat (first | (with_reducible first | exact HB.out | apply below_alloc | apply pw_below_drewN | apply below_drew1) | exact HB.out)) hb); have n1_ := Aside0.mk (hbox); have n2_ := Aside0.mk ((by rw [hg]; exact (below_size (by repeat (first | (with_reducible first | exact HB.out | apply below_alloc | apply pw_below_drewN | apply below_drew1) | exact HB.out))) : w.heap.size ≤ gb518)); have n3_ := Aside0.mk ((by rw [hg]; exact (below_size (by repeat (first | (with_reducible first | exact HB.out | apply below_alloc | apply pw_below_drewN | apply below_drew1) | exact HB.out))) : w.heap.size ≤ gb518)); clear HB; have HB := n0_; have BK518 := n1_; have GW518 := n2_; have GE518 := n3_; clear n0_ n1_ n2_ n3_; clear hb hbox hg) | ((with_reducible refine gate_dst (N := 3) rfl ?_); (try (refine gate_guard (by rfl) ?_; dsimp only)); refine box_event ?hg (N := 3) ?hd (cs := #[.int .i64 a1_0, .slice A1_1 l1_1.length c1_1, .slice A1_2 l1_2.length c1_2]) (t := 25) ?hr ?_; (case hd => rfl); (case hg => rfl); (case hr => first | (go_simp; done) | (go_simp; rfl)); intro gb519 hg w5 hbox hb; have n0_ := Aside0.mk (blk_below (g := gb518) (o := .cells #[.int .i64 a0_0, .slice A0_1 l0_1.length c0_1, .slice A0_2 l0_2.length c0_2] 25 (0, 0)) (by (with_reducible repeat (first | refine blk_drewN ?_ _ | refine blk_drew ?_ | refine blk_alloc ?_ _)); exact BK518.out) hb); have n1_ := Aside0.mk (below_step (by repeat (first | (with_reducible first | exact HB.out | apply below_alloc | apply pw_below_drewN | apply below_drew1 | refine below_set ?_ GE518.out) | exact HB.out)) hb); have n2_ := Aside0.mk (hbox); have n3_ := Aside0.mk ((by rw [hg]; exact (below_size (by repeat (first | (with_reducible first | exact HB.out | apply below_alloc | apply pw_below_drewN | apply below_drew1 | refine below_set ?_ GE518.out) | exact HB.out))) : w.heap.size ≤ gb519)); have n4_ := Aside0.mk ((by rw [hg]; exact (below_size (by repeat (first | (with_reducible first | exact HB.out | apply below_alloc | apply pw_below_drewN | apply below_drew1 | refine below_set ?_ GE518.out) | exact HB.out))) : w.heap.size ≤ gb519)); have n5_ := Aside0.mk ((by rw [hg]; exact Nat.ne_of_lt (blk_lt (g := gb518) (o := .cells #[.int .i64 a0_0, .slice A0_1 l0_1.length c0_1, .slice A0_2 l0_2.length c0_2] 25 (0, 0)) (by (with_reducible repeat (first | refine blk_drewN ?_ _ | refine blk_drew ?_ | refine blk_alloc ?_ _)); exact BK518.out)) : gb518 ≠ gb519)); have n6_ := Aside0.mk ((by rw [hg]; exact Nat.ne_of_gt (blk_lt (g := gb518) (o := .cells #[.int .i64 a0_0, .slice A0_1 l0_1.length c0_1, .slice A0_2 l0_2.length c0_2] 25 (0, 0)) (by (with_reducible repeat (first | refine blk_drewN ?_ _ | refine blk_drew ?_ | refine blk_alloc ?_ _)); exact BK518.out)) : gb519 ≠ gb518)); clear BK518; clear HB; have BK518 := n0_; have HB := n1_; have BK519 := n2_; have GW519 := n3_; have GE519 := n4_; have NB518_519 := n5_; have NB519_518 := n6_; clear n0_ n1_ n2_ n3_ n4_ n5_ n6_; clear hb hbox hg))
  repeat (go_quiet (first | ((with_reducible refine gate_dst (N := 2) rfl ?_); (try (refine gate_guard (by rfl) ?_; dsimp only)); refine box_event ?hg (N := 2) ?hd (cs := #[.int .i64 a0_0, .slice A0_1 l0_1.length c0_1, .slice A0_2 l0_2.length c0_2]) (t := 25) ?hr ?_; (case hd => rfl); (case hg => rfl); (case hr => first | (go_simp; done) | (go_simp; rfl)); intro gb518 hg w4 hbox hb; have n0_ := Aside0.mk (below_step (by repeat (first | (with_reducible first | exact HB.out | apply below_alloc | apply pw_below_drewN | apply below_drew1) | exact HB.out)) hb); have n1_ := Aside0.mk (hbox); have n2_ := Aside0.mk ((by rw [hg]; exact (below_size (by repeat (first | (with_reducible first | exact HB.out | apply below_alloc | apply pw_below_drewN | apply below_drew1) | exact HB.out))) : w.heap.size ≤ gb518)); have n3_ := Aside0.mk ((by rw [hg]; exact (below_size (by repeat (first | (with_reducible first | exact HB.out | apply below_alloc | apply pw_below_drewN | apply below_drew1) | exact HB.out))) : w.heap.size ≤ gb518)); clear HB; have HB := n0_; have BK518 := n1_; have GW518 := n2_; have GE518 := n3_; clear n0_ n1_ n2_ n3_; clear hb hbox hg) | ((with_reducible refine gate_dst (N := 3) rfl ?_); (try (refine gate_guard (by rfl) ?_; dsimp only)); refine box_event ?hg (N := 3) ?hd (cs := #[.int .i64 a1_0, .slice A1_1 l1_1.length c1_1, .slice A1_2 l1_2.length c1_2]) (t := 25) ?hr ?_; (case hd => rfl); (case hg => rfl); (case hr => first | (go_simp; done) | (go_simp; rfl)); intro gb519 hg w5 hbox hb; have n0_ := Aside0.mk (blk_below (g := gb518) (o := .cells #[.int .i64 a0_0, .slice A0_1 l0_1.length c0_1, .slice A0_2 l0_2.length c0_2] 25 (0, 0)) (by (with_reducible repeat (first | refine blk_drewN ?_ _ | refine blk_drew ?_ | refine blk_alloc ?_ _)); exact BK518.out) hb); have n1_ := Aside0.mk (below_step (by repeat (first | (with_reducible first | exact HB.out | apply below_alloc | apply pw_below_drewN | apply below_drew1 | refine below_set ?_ GE518.out) | exact HB.out)) hb); have n2_ := Aside0.mk (hbox); have n3_ := Aside0.mk ((by rw [hg]; exact (below_size (by repeat (first | (with_reducible first | exact HB.out | apply below_alloc | apply pw_below_drewN | apply below_drew1 | refine below_set ?_ GE518.out) | exact HB.out))) : w.heap.size ≤ gb519)); have n4_ := Aside0.mk ((by rw [hg]; exact (below_size (by repeat (first | (with_reducible first | exact HB.out | apply below_alloc | apply pw_below_drewN | apply below_drew1 | refine below_set ?_ GE518.out) | exact HB.out))) : w.heap.size ≤ gb519)); have n5_ := Aside0.mk ((by rw [hg]; exact Nat.ne_of_lt (blk_lt (g := gb518) (o := .cells #[.int .i64 a0_0, .slice A0_1 l0_1.length c0_1, .slice A0_2 l0_2.length c0_2] 25 (0, 0)) (by (with_reducible repeat (first | refine blk_drewN ?_ _ | refine blk_drew ?_ | refine blk_alloc ?_ _)); exact BK518.out)) : gb518 ≠ gb519)); have n6_ := Aside0.mk ((by rw [hg]; exact Nat.ne_of_gt (blk_lt (g := gb518) (o := .cells #[.int .i64 a0_0, .slice A0_1 l0_1.length c0_1, .slice A0_2 l0_2.length c0_2] 25 (0, 0)) (by (with_reducible repeat (first | refine blk_drewN ?_ _ | refine blk_drew ?_ | refine blk_alloc ?_ _)); exact BK518.out)) : gb519 ≠ gb518)); clear BK518; clear HB; have BK518 := n0_; have HB := n1_; have BK519 := n2_; have GW519 := n3_; have GE519 := n4_; have NB518_519 := n5_; have NB519_518 := n6_; clear n0_ n1_ n2_ n3_ n4_ n5_ n6_; clear hb hbox hg)); go_upto_region 1 with (first | ((with_reducible refine gate_dst (N := 2) rfl ?_); (try (refine gate_guard (by rfl) ?_; dsimp only)); refine box_event ?hg (N := 2) ?hd (cs := #[.int .i64 a0_0, .slice A0_1 l0_1.length c0_1, .slice A0_2 l0_2.length c0_2]) (t := 25) ?hr ?_; (case hd => rfl); (case hg => rfl); (case hr => first | (go_simp; done) | (go_simp; rfl)); intro gb518 hg w4 hbox hb; have n0_ := Aside0.mk (below_step (by repeat (first | (with_reducible first | exact HB.out | apply below_alloc | apply pw_below_drewN | apply below_drew1) | exact HB.out)) hb); have n1_ := Aside0.mk (hbox); have n2_ := Aside0.mk ((by rw [hg]; exact (below_size (by repeat (first | (with_reducible first | exact HB.out | apply below_alloc | apply pw_below_drewN | apply below_drew1) | exact HB.out))) : w.heap.size ≤ gb518)); have n3_ := Aside0.mk ((by rw [hg]; exact (below_size (by repeat (first | (with_reducible first | exact HB.out | apply below_alloc | apply pw_below_drewN | apply below_drew1) | exact HB.out))) : w.heap.size ≤ gb518)); clear HB; have HB := n0_; have BK518 := n1_; have GW518 := n2_; have GE518 := n3_; clear n0_ n1_ n2_ n3_; clear hb hbox hg) | ((with_reducible refine gate_dst (N := 3) rfl ?_); (try (refine gate_guard (by rfl) ?_; dsimp only)); refine box_event ?hg (N := 3) ?hd (cs := #[.int .i64 a1_0, .slice A1_1 l1_1.length c1_1, .slice A1_2 l1_2.length c1_2]) (t := 25) ?hr ?_; (case hd => rfl); (case hg => rfl); (case hr => first | (go_simp; done) | (go_simp; rfl)); intro gb519 hg w5 hbox hb; have n0_ := Aside0.mk (blk_below (g := gb518) (o := .cells #[.int .i64 a0_0, .slice A0_1 l0_1.length c0_1, .slice A0_2 l0_2.length c0_2] 25 (0, 0)) (by (with_reducible repeat (first | refine blk_drewN ?_ _ | refine blk_drew ?_ | refine blk_alloc ?_ _)); exact BK518.out) hb); have n1_ := Aside0.mk (below_step (by repeat (first | (with_reducible first | exact HB.out | apply below_alloc | apply pw_below_drewN | apply below_drew1 | refine below_set ?_ GE518.out) | exact HB.out)) hb); have n2_ := Aside0.mk (hbox); have n3_ := Aside0.mk ((by rw [hg]; exact (below_size (by repeat (first | (with_reducible first | exact HB.out | apply below_alloc | apply pw_below_drewN | apply below_drew1 | refine below_set ?_ GE518.out) | exact HB.out))) : w.heap.size ≤ gb519)); have n4_ := Aside0.mk ((by rw [hg]; exact (below_size (by repeat (first | (with_reducible first | exact HB.out | apply below_alloc | apply pw_below_drewN | apply below_drew1 | refine below_set ?_ GE518.out) | exact HB.out))) : w.heap.size ≤ gb519)); have n5_ := Aside0.mk ((by rw [hg]; exact Nat.ne_of_lt (blk_lt (g := gb518) (o := .cells #[.int .i64 a0_0, .slice A0_1 l0_1.length c0_1, .slice A0_2 l0_2.length c0_2] 25 (0, 0)) (by (with_reducible repeat (first | refine blk_drewN ?_ _ | refine blk_drew ?_ | refine blk_alloc ?_ _)); exact BK518.out)) : gb518 ≠ gb519)); have n6_ := Aside0.mk ((by rw [hg]; exact Nat.ne_of_gt (blk_lt (g := gb518) (o := .cells #[.int .i64 a0_0, .slice A0_1 l0_1.length c0_1, .slice A0_2 l0_2.length c0_2] 25 (0, 0)) (by (with_reducible repeat (first | refine blk_drewN ?_ _ | refine blk_drew ?_ | refine blk_alloc ?_ _)); exact BK518.out)) : gb519 ≠ gb518)); clear BK518; clear HB; have BK518 := n0_; have HB := n1_; have BK519 := n2_; have GW519 := n3_; have GE519 := n4_; have NB518_519 := n5_; have NB519_518 := n6_; clear n0_ n1_ n2_ n3_ n4_ n5_ n6_; clear hb hbox hg)))
  (try simp only [Act.put, List.setIfInBounds_toArray, List.set_cons_zero, List.set_cons_succ])
  go_cut [27] (fun v27 wc => ∃ (kq : Nat) (x27_2 : Bool), v27 = .bool x27_2 ∧ Aside0 (neonwrightlaw07_circuits.j0 kq x27_2 a0_0 l0_1 l0_2 a1_0 l1_1 l1_2 = some r) ∧ Aside0 (kq ≤ k) ∧ Aside0 (wc.heap[gb518]? = some (.cells #[.int .i64 a0_0, (.slice A0_1 l0_1.length c0_1), (.slice A0_2 l0_2.length c0_2)] 25 (0, 0))) ∧ Aside0 (wc.heap[gb519]? = some (.cells #[.int .i64 a1_0, (.slice A1_1 l1_1.length c1_1), (.slice A1_2 l1_2.length c1_2)] 25 (0, 0))) ∧ Aside0 (Below w.heap.size w wc))
  case first =>
    have H := HC3.out
    clear HC3
    by_cases c6 : a0_0 = a1_0
    · rw [if_pos c6] at H
      have c6b0 : (a0_0 == a1_0) = true := beq_iff_eq.mpr c6
      have c6b1 : (a0_0 != a1_0) = false := bne_eq_false_iff_eq.mpr c6
      clear c6
      (first | rw [c6b0] | (simp only [i64_w, i32_w]; rw [c6b0]) | skip)
      by_cases c7 : (l0_1.length : Int) = (l1_1.length : Int)
      · rw [if_pos c7] at H
        have c7b0 : ((l0_1.length : Int) == (l1_1.length : Int)) = true := beq_iff_eq.mpr c7
        have c7b1 : ((l0_1.length : Int) != (l1_1.length : Int)) = false := bne_eq_false_iff_eq.mpr c7
        have c7b2 : (l0_1.length == l1_1.length) = true := by first | simpa using c7 | (simp at c7 ⊢; omega)
        clear c7
        replace H := Option.bind_eq_some_iff.mp H
        obtain ⟨t520, A80, H⟩ := H
        replace H : (neonwrightlaw07_circuits.j0 k (!t520) a0_0 l0_1 l0_2 a1_0 l1_1 l1_2) = some r := H
        have A8 := Aside0.mk A80
        clear A80
        have H' := Aside0.mk H
        clear H
        have hnb9 := NB518_519.out
        have hnc9 := NB519_518.out
        have hcz10_0 : w5.cell? ⟨gb518, 0, none⟩ = some (.int .i64 a0_0) := (blk_cell BK518.out 0).trans rfl
        have hcz10_1 : w5.cell? ⟨gb518, 1, none⟩ = some (.slice A0_1 l0_1.length c0_1) := (blk_cell BK518.out 1).trans rfl
        have hcz10_2 : w5.cell? ⟨gb518, 2, none⟩ = some (.slice A0_2 l0_2.length c0_2) := (blk_cell BK518.out 2).trans rfl
        have hfz10_0 := blk_frozen BK518.out 0
        have hfz10_1 := blk_frozen BK518.out 1
        have hfz10_2 := blk_frozen BK518.out 2
        have hcz11_0 : w5.cell? ⟨gb519, 0, none⟩ = some (.int .i64 a1_0) := (blk_cell BK519.out 0).trans rfl
        have hcz11_1 : w5.cell? ⟨gb519, 1, none⟩ = some (.slice A1_1 l1_1.length c1_1) := (blk_cell BK519.out 1).trans rfl
        have hcz11_2 : w5.cell? ⟨gb519, 2, none⟩ = some (.slice A1_2 l1_2.length c1_2) := (blk_cell BK519.out 2).trans rfl
        have hfz11_0 := blk_frozen BK519.out 0
        have hfz11_1 := blk_frozen BK519.out 1
        have hfz11_2 := blk_frozen BK519.out 2
        go_wp2_with (first | (go_at_call 22; (with_reducible refine (neonwrightlaw07_same.calls k _ _ l0_2 _ _ l1_2 t520 _ ?side1 ?side2 ?side3 ?side4 A8.out).mono ?_); (case side1 => repeat (first | exact (Kd.C_below HR0_2.out HB.out) | (with_reducible refine Kd.C_alloc ?_ _) | (with_reducible refine Kd.C_drewN ?_ _) | (with_reducible refine Kd.C_drew ?_))); (case side2 => exact HC0_2.out); (case side3 => repeat (first | exact (Kd.C_below HR1_2.out HB.out) | (with_reducible refine Kd.C_alloc ?_ _) | (with_reducible refine Kd.C_drewN ?_ _) | (with_reducible refine Kd.C_drew ?_))); (case side4 => exact HC1_2.out); rintro e w' ⟨rfl, ⟨nd, rfl⟩⟩; (try first | exact ⟨rfl, _, World.drewN_drewN _ _ _⟩ | exact ⟨rfl, _, Eq.trans (World.drewN_drewN _ _ _) (congrArg (World.drewN _) (Nat.add_assoc _ _ _))⟩)))
        repeat (go_quiet (first | (go_at_call 22; (with_reducible refine (neonwrightlaw07_same.calls k _ _ l0_2 _ _ l1_2 t520 _ ?side1 ?side2 ?side3 ?side4 A8.out).mono ?_); (case side1 => repeat (first | exact (Kd.C_below HR0_2.out HB.out) | (with_reducible refine Kd.C_alloc ?_ _) | (with_reducible refine Kd.C_drewN ?_ _) | (with_reducible refine Kd.C_drew ?_))); (case side2 => exact HC0_2.out); (case side3 => repeat (first | exact (Kd.C_below HR1_2.out HB.out) | (with_reducible refine Kd.C_alloc ?_ _) | (with_reducible refine Kd.C_drewN ?_ _) | (with_reducible refine Kd.C_drew ?_))); (case side4 => exact HC1_2.out); rintro e w' ⟨rfl, ⟨nd, rfl⟩⟩; (try first | exact ⟨rfl, _, World.drewN_drewN _ _ _⟩ | exact ⟨rfl, _, Eq.trans (World.drewN_drewN _ _ _) (congrArg (World.drewN _) (Nat.add_assoc _ _ _))⟩))); try go_wp2_with (first | (go_at_call 22; (with_reducible refine (neonwrightlaw07_same.calls k _ _ l0_2 _ _ l1_2 t520 _ ?side1 ?side2 ?side3 ?side4 A8.out).mono ?_); (case side1 => repeat (first | exact (Kd.C_below HR0_2.out HB.out) | (with_reducible refine Kd.C_alloc ?_ _) | (with_reducible refine Kd.C_drewN ?_ _) | (with_reducible refine Kd.C_drew ?_))); (case side2 => exact HC0_2.out); (case side3 => repeat (first | exact (Kd.C_below HR1_2.out HB.out) | (with_reducible refine Kd.C_alloc ?_ _) | (with_reducible refine Kd.C_drewN ?_ _) | (with_reducible refine Kd.C_drew ?_))); (case side4 => exact HC1_2.out); rintro e w' ⟨rfl, ⟨nd, rfl⟩⟩; (try first | exact ⟨rfl, _, World.drewN_drewN _ _ _⟩ | exact ⟨rfl, _, Eq.trans (World.drewN_drewN _ _ _) (congrArg (World.drewN _) (Nat.add_assoc _ _ _))⟩))))
        go_meet
        case rel => exact ⟨_, (!t520), (by first | rfl | (simp; done) | (simp [*]; done)), H', ⟨by first | omega | exact Nat.le_refl _⟩, ⟨by (with_reducible repeat (first | refine blk_drewN ?_ _ | refine blk_drew ?_ | refine blk_alloc ?_ _)); exact BK518.out⟩, ⟨by (with_reducible repeat (first | refine blk_drewN ?_ _ | refine blk_drew ?_ | refine blk_alloc ?_ _)); exact BK519.out⟩, ⟨by repeat (first | (with_reducible first | exact HB.out | apply below_alloc | apply pw_below_drewN | apply below_drew1 | refine below_set ?_ GE518.out | refine below_set ?_ GE519.out) | exact HB.out)⟩⟩
      · rw [if_neg c7] at H
        have c7b0 : ((l0_1.length : Int) == (l1_1.length : Int)) = false := beq_eq_false_iff_ne.mpr c7
        have c7b1 : ((l0_1.length : Int) != (l1_1.length : Int)) = true := bne_iff_ne.mpr c7
        have c7b2 : (l0_1.length == l1_1.length) = false := by first | simpa using c7 | (simp at c7 ⊢; omega)
        have H' := Aside0.mk H
        clear H
        have hnb12 := NB518_519.out
        have hnc12 := NB519_518.out
        have hcz13_0 : w5.cell? ⟨gb518, 0, none⟩ = some (.int .i64 a0_0) := (blk_cell BK518.out 0).trans rfl
        have hcz13_1 : w5.cell? ⟨gb518, 1, none⟩ = some (.slice A0_1 l0_1.length c0_1) := (blk_cell BK518.out 1).trans rfl
        have hcz13_2 : w5.cell? ⟨gb518, 2, none⟩ = some (.slice A0_2 l0_2.length c0_2) := (blk_cell BK518.out 2).trans rfl
        have hfz13_0 := blk_frozen BK518.out 0
        have hfz13_1 := blk_frozen BK518.out 1
        have hfz13_2 := blk_frozen BK518.out 2
        have hcz14_0 : w5.cell? ⟨gb519, 0, none⟩ = some (.int .i64 a1_0) := (blk_cell BK519.out 0).trans rfl
        have hcz14_1 : w5.cell? ⟨gb519, 1, none⟩ = some (.slice A1_1 l1_1.length c1_1) := (blk_cell BK519.out 1).trans rfl
        have hcz14_2 : w5.cell? ⟨gb519, 2, none⟩ = some (.slice A1_2 l1_2.length c1_2) := (blk_cell BK519.out 2).trans rfl
        have hfz14_0 := blk_frozen BK519.out 0
        have hfz14_1 := blk_frozen BK519.out 1
        have hfz14_2 := blk_frozen BK519.out 2
        go_wp2
        repeat (go_quiet (fail); try go_wp2)
        go_meet
        case rel => exact ⟨_, (true), (by first | rfl | (simp; done) | (simp [*]; done)), H', ⟨by first | omega | exact Nat.le_refl _⟩, ⟨by (with_reducible repeat (first | refine blk_drewN ?_ _ | refine blk_drew ?_ | refine blk_alloc ?_ _)); exact BK518.out⟩, ⟨by (with_reducible repeat (first | refine blk_drewN ?_ _ | refine blk_drew ?_ | refine blk_alloc ?_ _)); exact BK519.out⟩, ⟨by repeat (first | (with_reducible first | exact HB.out | apply below_alloc | apply pw_below_drewN | apply below_drew1 | refine below_set ?_ GE518.out | refine below_set ?_ GE519.out) | exact HB.out)⟩⟩
    · rw [if_neg c6] at H
      have c6b0 : (a0_0 == a1_0) = false := beq_eq_false_iff_ne.mpr c6
      have c6b1 : (a0_0 != a1_0) = true := bne_iff_ne.mpr c6
      (first | rw [c6b0] | (simp only [i64_w, i32_w]; rw [c6b0]) | skip)
      have H' := Aside0.mk H
      clear H
      have hnb15 := NB518_519.out
      have hnc15 := NB519_518.out
      have hcz16_0 : w5.cell? ⟨gb518, 0, none⟩ = some (.int .i64 a0_0) := (blk_cell BK518.out 0).trans rfl
      have hcz16_1 : w5.cell? ⟨gb518, 1, none⟩ = some (.slice A0_1 l0_1.length c0_1) := (blk_cell BK518.out 1).trans rfl
      have hcz16_2 : w5.cell? ⟨gb518, 2, none⟩ = some (.slice A0_2 l0_2.length c0_2) := (blk_cell BK518.out 2).trans rfl
      have hfz16_0 := blk_frozen BK518.out 0
      have hfz16_1 := blk_frozen BK518.out 1
      have hfz16_2 := blk_frozen BK518.out 2
      have hcz17_0 : w5.cell? ⟨gb519, 0, none⟩ = some (.int .i64 a1_0) := (blk_cell BK519.out 0).trans rfl
      have hcz17_1 : w5.cell? ⟨gb519, 1, none⟩ = some (.slice A1_1 l1_1.length c1_1) := (blk_cell BK519.out 1).trans rfl
      have hcz17_2 : w5.cell? ⟨gb519, 2, none⟩ = some (.slice A1_2 l1_2.length c1_2) := (blk_cell BK519.out 2).trans rfl
      have hfz17_0 := blk_frozen BK519.out 0
      have hfz17_1 := blk_frozen BK519.out 1
      have hfz17_2 := blk_frozen BK519.out 2
      go_wp2
      repeat (go_quiet (fail); try go_wp2)
      go_meet
      case rel => exact ⟨_, (true), (by first | rfl | (simp; done) | (simp [*]; done)), H', ⟨by first | omega | exact Nat.le_refl _⟩, ⟨by (with_reducible repeat (first | refine blk_drewN ?_ _ | refine blk_drew ?_ | refine blk_alloc ?_ _)); exact BK518.out⟩, ⟨by (with_reducible repeat (first | refine blk_drewN ?_ _ | refine blk_drew ?_ | refine blk_alloc ?_ _)); exact BK519.out⟩, ⟨by repeat (first | (with_reducible first | exact HB.out | apply below_alloc | apply pw_below_drewN | apply below_drew1 | refine below_set ?_ GE518.out | refine below_set ?_ GE519.out) | exact HB.out)⟩⟩
  case rest =>
    clear HC3
    try clear c1
    try clear p2
    try clear c4
    try clear c6
    try clear c6b0
    try clear c6b1
    try clear c7
    try clear c7b0
    try clear c7b1
    try clear c7b2
    try clear c9
    try clear c12
    try clear c15
    try clear hcz10_0
    try clear hcz10_1
    try clear hcz10_2
    try clear hcz11_0
    try clear hcz11_1
    try clear hcz11_2
    try clear hcz13_0
    try clear hcz13_1
    try clear hcz13_2
    try clear hcz14_0
    try clear hcz14_1
    try clear hcz14_2
    try clear hcz16_0
    try clear hcz16_1
    try clear hcz16_2
    try clear hcz17_0
    try clear hcz17_1
    try clear hcz17_2
    try clear hfz10_0
    try clear hfz10_1
    try clear hfz10_2
    try clear hfz11_0
    try clear hfz11_1
    try clear hfz11_2
    try clear hfz13_0
    try clear hfz13_1
    try clear hfz13_2
    try clear hfz14_0
    try clear hfz14_1
    try clear hfz14_2
    try clear hfz16_0
    try clear hfz16_1
    try clear hfz16_2
    try clear hfz17_0
    try clear hfz17_1
    try clear hfz17_2
    obtain ⟨kq, x27_2, rfl, HA, HJ2, BK518, BK519, HB⟩ := hcut
    cases kq with
    | zero => exact absurd HA.out (by simp [neonwrightlaw07_circuits.j0])
    | succ kj2 =>
      have H := HA.out
      clear HA
      simp only [neonwrightlaw07_circuits.j0] at H
      by_cases c18 : x27_2 = true
      · subst c18
        have H1 : (some false) = some r := by rw [if_pos rfl] at H; exact H
        clear H
        have H := H1
        clear H1
        obtain rfl := Option.some.inj H
        go_wp2
        repeat (go_quiet (fail); try go_wp2)
        go_ret
        exact ⟨by first | rfl | (simp [errW_none, errW_some] <;> rfl) | (simp [*, errW_none, errW_some] <;> rfl), by repeat (first | (with_reducible first | exact HB.out | apply below_alloc | apply pw_below_drewN | apply below_drew1 | refine below_set ?_ GE518.out | refine below_set ?_ GE519.out) | exact HB.out)⟩
      · replace c18 := Bool.eq_false_iff.mpr c18
        subst c18
        have H1 : (neonwrightlaw07_circuits.l0 kj2 0 a0_0 l0_1 l0_2 a1_0 l1_1 l1_2) = some r := by rw [if_neg (show ¬ (false = true) by decide)] at H; exact H
        clear H
        have H := H1
        clear H1
        have H' := Aside0.mk H
        clear H
        go_wp2
        repeat (go_quiet (fail); try go_wp2)
        go_loopg [5] kj2 (fun kq v5 w' => ∃ (x5_2 : Int), v5 = .int .i64 x5_2 ∧ Aside0 (neonwrightlaw07_circuits.l0 kq x5_2 a0_0 l0_1 l0_2 a1_0 l1_1 l1_2 = some r) ∧ Aside0 (kq ≤ kj2) ∧ Aside0 (w'.heap[gb518]? = some (.cells #[.int .i64 a0_0, (.slice A0_1 l0_1.length c0_1), (.slice A0_2 l0_2.length c0_2)] 25 (0, 0))) ∧ Aside0 (w'.heap[gb519]? = some (.cells #[.int .i64 a1_0, (.slice A1_1 l1_1.length c1_1), (.slice A1_2 l1_2.length c1_2)] 25 (0, 0))) ∧ Aside0 (Below w.heap.size w w'))
        case atStart => exact ⟨(0), (by first | rfl | (simp; done) | (simp [*]; done)), H', ⟨Nat.le_refl _⟩, ⟨by (with_reducible repeat (first | refine blk_drewN ?_ _ | refine blk_drew ?_ | refine blk_alloc ?_ _)); exact BK518.out⟩, ⟨by (with_reducible repeat (first | refine blk_drewN ?_ _ | refine blk_drew ?_ | refine blk_alloc ?_ _)); exact BK519.out⟩, ⟨by repeat (first | (with_reducible first | exact HB.out | apply below_alloc | apply pw_below_drewN | apply below_drew1 | refine below_set ?_ GE518.out | refine below_set ?_ GE519.out) | exact HB.out)⟩⟩
        case round =>
          clear H'
          try clear c1
          try clear p2
          try clear c4
          try clear c6
          try clear c6b0
          try clear c6b1
          try clear c7
          try clear c7b0
          try clear c7b1
          try clear c7b2
          try clear c9
          try clear c12
          try clear c15
          try clear c18
          try clear hcz10_0
          try clear hcz10_1
          try clear hcz10_2
          try clear hcz11_0
          try clear hcz11_1
          try clear hcz11_2
          try clear hcz13_0
          try clear hcz13_1
          try clear hcz13_2
          try clear hcz14_0
          try clear hcz14_1
          try clear hcz14_2
          try clear hcz16_0
          try clear hcz16_1
          try clear hcz16_2
          try clear hcz17_0
          try clear hcz17_1
          try clear hcz17_2
          try clear hfz10_0
          try clear hfz10_1
          try clear hfz10_2
          try clear hfz11_0
          try clear hfz11_1
          try clear hfz11_2
          try clear hfz13_0
          try clear hfz13_1
          try clear hfz13_2
          try clear hfz14_0
          try clear hfz14_1
          try clear hfz14_2
          try clear hfz16_0
          try clear hfz16_1
          try clear hfz16_2
          try clear hfz17_0
          try clear hfz17_1
          try clear hfz17_2
          try clear p2
          obtain ⟨x5_2, rfl, HA, HK2, BK518, BK519, HB⟩ := hrel
          cases gk with
          | zero => exact absurd HA.out (by simp [neonwrightlaw07_circuits.l0])
          | succ k2 =>
            have H := HA.out
            clear HA
            simp only [neonwrightlaw07_circuits.l0] at H
            by_cases c19 : x5_2 < (l0_1.length : Int)
            · rw [if_pos c19] at H
              have c19b0 : decide (x5_2 < (l0_1.length : Int)) = true := decide_eq_true c19
              clear c19
              by_cases c20 : 0 ≤ x5_2
              · rw [if_pos c20] at H
                have c20b0 : decide (0 ≤ x5_2) = true := decide_eq_true c20
                clear c20
                by_cases c21 : x5_2 < (l1_1.length : Int)
                · rw [if_pos c21] at H
                  have c21b0 : decide (x5_2 < (l1_1.length : Int)) = true := decide_eq_true c21
                  clear c21
                  by_cases c22 : (!(((rd_T40 l0_1 x5_2).f0) == ((rd_T40 l1_1 x5_2).f0)) || (!(((rd_T40 l0_1 x5_2).f1) == ((rd_T40 l1_1 x5_2).f1)) || (!(((rd_T40 l0_1 x5_2).f2) == ((rd_T40 l1_1 x5_2).f2))))) = true
                  · rw [if_pos c22] at H
                    have c22b0 : (!(((rd_T40 l0_1 x5_2).f0) == ((rd_T40 l1_1 x5_2).f0)) || (!(((rd_T40 l0_1 x5_2).f1) == ((rd_T40 l1_1 x5_2).f1)) || (!(((rd_T40 l0_1 x5_2).f2) == ((rd_T40 l1_1 x5_2).f2))))) = true := c22
                    clear c22
                    obtain rfl := Option.some.inj H
                    have hnb23 := NB518_519.out
                    have hnc23 := NB519_518.out
                    have hcz24_0 : wr.cell? ⟨gb518, 0, none⟩ = some (.int .i64 a0_0) := (blk_cell BK518.out 0).trans rfl
                    have hcz24_1 : wr.cell? ⟨gb518, 1, none⟩ = some (.slice A0_1 l0_1.length c0_1) := (blk_cell BK518.out 1).trans rfl
                    have hcz24_2 : wr.cell? ⟨gb518, 2, none⟩ = some (.slice A0_2 l0_2.length c0_2) := (blk_cell BK518.out 2).trans rfl
                    have hfz24_0 := blk_frozen BK518.out 0
                    have hfz24_1 := blk_frozen BK518.out 1
                    have hfz24_2 := blk_frozen BK518.out 2
                    have p521 : 0 ≤ (x5_2 : Int) := of_decide_eq_true (by first | (with_reducible assumption) | assumption)
                    have q521 : x5_2 < (l0_1.length : Int) := of_decide_eq_true (by first | (with_reducible assumption) | assumption)
                    obtain ⟨ad521, e521, hx521_0, hx521_1, hx521_2⟩ := at_T40 HR0_1.out x5_2 p521 q521
                    cases e521
                    replace hx521_0 := (HB.out.cell (World.block_lt_of_cell? w _ hx521_0)).trans hx521_0
                    replace hx521_1 := (HB.out.cell (World.block_lt_of_cell? w _ hx521_1)).trans hx521_1
                    replace hx521_2 := (HB.out.cell (World.block_lt_of_cell? w _ hx521_2)).trans hx521_2
                    replace p521 := eq_true p521
                    replace q521 := eq_true q521
                    have hcz25_0 : wr.cell? ⟨gb519, 0, none⟩ = some (.int .i64 a1_0) := (blk_cell BK519.out 0).trans rfl
                    have hcz25_1 : wr.cell? ⟨gb519, 1, none⟩ = some (.slice A1_1 l1_1.length c1_1) := (blk_cell BK519.out 1).trans rfl
                    have hcz25_2 : wr.cell? ⟨gb519, 2, none⟩ = some (.slice A1_2 l1_2.length c1_2) := (blk_cell BK519.out 2).trans rfl
                    have hfz25_0 := blk_frozen BK519.out 0
                    have hfz25_1 := blk_frozen BK519.out 1
                    have hfz25_2 := blk_frozen BK519.out 2
                    have p522 : 0 ≤ (x5_2 : Int) := of_decide_eq_true (by first | (with_reducible assumption) | assumption)
                    have q522 : x5_2 < (l1_1.length : Int) := of_decide_eq_true (by first | (with_reducible assumption) | assumption)
                    obtain ⟨ad522, e522, hx522_0, hx522_1, hx522_2⟩ := at_T40 HR1_1.out x5_2 p522 q522
                    cases e522
                    replace hx522_0 := (HB.out.cell (World.block_lt_of_cell? w _ hx522_0)).trans hx522_0
                    replace hx522_1 := (HB.out.cell (World.block_lt_of_cell? w _ hx522_1)).trans hx522_1
                    replace hx522_2 := (HB.out.cell (World.block_lt_of_cell? w _ hx522_2)).trans hx522_2
                    replace p522 := eq_true p522
                    replace q522 := eq_true q522
                    go_wp2
                    repeat (go_quiet (fail); try go_wp2)
                    go_ret
                    exact ⟨by first | rfl | (simp [errW_none, errW_some] <;> rfl) | (simp [*, errW_none, errW_some] <;> rfl), by repeat (first | (with_reducible first | exact HB.out | apply below_alloc | apply pw_below_drewN | apply below_drew1 | refine below_set ?_ GE518.out | refine below_set ?_ GE519.out) | exact HB.out)⟩
                  · rw [if_neg c22] at H
                    have c22b0 : (!(((rd_T40 l0_1 x5_2).f0) == ((rd_T40 l1_1 x5_2).f0)) || (!(((rd_T40 l0_1 x5_2).f1) == ((rd_T40 l1_1 x5_2).f1)) || (!(((rd_T40 l0_1 x5_2).f2) == ((rd_T40 l1_1 x5_2).f2))))) = false := by simpa using c22
                    clear c22
                    have H' := Aside0.mk H
                    clear H
                    have hnb26 := NB518_519.out
                    have hnc26 := NB519_518.out
                    have hcz27_0 : wr.cell? ⟨gb518, 0, none⟩ = some (.int .i64 a0_0) := (blk_cell BK518.out 0).trans rfl
                    have hcz27_1 : wr.cell? ⟨gb518, 1, none⟩ = some (.slice A0_1 l0_1.length c0_1) := (blk_cell BK518.out 1).trans rfl
                    have hcz27_2 : wr.cell? ⟨gb518, 2, none⟩ = some (.slice A0_2 l0_2.length c0_2) := (blk_cell BK518.out 2).trans rfl
                    have hfz27_0 := blk_frozen BK518.out 0
                    have hfz27_1 := blk_frozen BK518.out 1
                    have hfz27_2 := blk_frozen BK518.out 2
                    have p521 : 0 ≤ (x5_2 : Int) := of_decide_eq_true (by first | (with_reducible assumption) | assumption)
                    have q521 : x5_2 < (l0_1.length : Int) := of_decide_eq_true (by first | (with_reducible assumption) | assumption)
                    obtain ⟨ad521, e521, hx521_0, hx521_1, hx521_2⟩ := at_T40 HR0_1.out x5_2 p521 q521
                    cases e521
                    replace hx521_0 := (HB.out.cell (World.block_lt_of_cell? w _ hx521_0)).trans hx521_0
                    replace hx521_1 := (HB.out.cell (World.block_lt_of_cell? w _ hx521_1)).trans hx521_1
                    replace hx521_2 := (HB.out.cell (World.block_lt_of_cell? w _ hx521_2)).trans hx521_2
                    replace p521 := eq_true p521
                    replace q521 := eq_true q521
                    have hcz28_0 : wr.cell? ⟨gb519, 0, none⟩ = some (.int .i64 a1_0) := (blk_cell BK519.out 0).trans rfl
                    have hcz28_1 : wr.cell? ⟨gb519, 1, none⟩ = some (.slice A1_1 l1_1.length c1_1) := (blk_cell BK519.out 1).trans rfl
                    have hcz28_2 : wr.cell? ⟨gb519, 2, none⟩ = some (.slice A1_2 l1_2.length c1_2) := (blk_cell BK519.out 2).trans rfl
                    have hfz28_0 := blk_frozen BK519.out 0
                    have hfz28_1 := blk_frozen BK519.out 1
                    have hfz28_2 := blk_frozen BK519.out 2
                    have p522 : 0 ≤ (x5_2 : Int) := of_decide_eq_true (by first | (with_reducible assumption) | assumption)
                    have q522 : x5_2 < (l1_1.length : Int) := of_decide_eq_true (by first | (with_reducible assumption) | assumption)
                    obtain ⟨ad522, e522, hx522_0, hx522_1, hx522_2⟩ := at_T40 HR1_1.out x5_2 p522 q522
                    cases e522
                    replace hx522_0 := (HB.out.cell (World.block_lt_of_cell? w _ hx522_0)).trans hx522_0
                    replace hx522_1 := (HB.out.cell (World.block_lt_of_cell? w _ hx522_1)).trans hx522_1
                    replace hx522_2 := (HB.out.cell (World.block_lt_of_cell? w _ hx522_2)).trans hx522_2
                    replace p522 := eq_true p522
                    replace q522 := eq_true q522
                    go_wp2
                    repeat (go_quiet (fail); try go_wp2)
                    go_roundg k2
                    case measure => have := HJ2.out; have := HK2.out; omega
                    case rel => exact ⟨(wrap64 (x5_2 + 1)), (by first | rfl | (simp; done) | (simp [*]; done)), H', ⟨by have := HJ2.out; have := HK2.out; omega⟩, ⟨by (with_reducible repeat (first | refine blk_drewN ?_ _ | refine blk_drew ?_ | refine blk_alloc ?_ _)); exact BK518.out⟩, ⟨by (with_reducible repeat (first | refine blk_drewN ?_ _ | refine blk_drew ?_ | refine blk_alloc ?_ _)); exact BK519.out⟩, ⟨by repeat (first | (with_reducible first | exact HB.out | apply below_alloc | apply pw_below_drewN | apply below_drew1 | refine below_set ?_ GE518.out | refine below_set ?_ GE519.out) | exact HB.out)⟩⟩
                · rw [if_neg c21] at H
                  exact absurd H (by simp)
              · rw [if_neg c20] at H
                exact absurd H (by simp)
            · rw [if_neg c19] at H
              have c19b0 : decide (x5_2 < (l0_1.length : Int)) = false := decide_eq_false c19
              clear c19
              obtain rfl := Option.some.inj H
              have hnb29 := NB518_519.out
              have hnc29 := NB519_518.out
              have hcz30_0 : wr.cell? ⟨gb518, 0, none⟩ = some (.int .i64 a0_0) := (blk_cell BK518.out 0).trans rfl
              have hcz30_1 : wr.cell? ⟨gb518, 1, none⟩ = some (.slice A0_1 l0_1.length c0_1) := (blk_cell BK518.out 1).trans rfl
              have hcz30_2 : wr.cell? ⟨gb518, 2, none⟩ = some (.slice A0_2 l0_2.length c0_2) := (blk_cell BK518.out 2).trans rfl
              have hfz30_0 := blk_frozen BK518.out 0
              have hfz30_1 := blk_frozen BK518.out 1
              have hfz30_2 := blk_frozen BK518.out 2
              go_wp2
              repeat (go_quiet (fail); try go_wp2)
              go_ret
              exact ⟨by first | rfl | (simp [errW_none, errW_some] <;> rfl) | (simp [*, errW_none, errW_some] <;> rfl), by repeat (first | (with_reducible first | exact HB.out | apply below_alloc | apply pw_below_drewN | apply below_drew1 | refine below_set ?_ GE518.out | refine below_set ?_ GE519.out) | exact HB.out)⟩
end Go.Proofs.Ytelfalicickelaa.P
set_option linter.unusedSimpArgs false
set_option linter.unusedVariables false
namespace Go.Proofs.Ytelfalicickelaa.Kit
open Go.RowKit Go.Proofs.YtelfalicickelaaW.PrintWords Go.Proofs.YtelfalicickelaaW.PrintMore
theorem w64 {x : Int} (h0 : -9223372036854775808 ≤ x) (h1 : x ≤ 9223372036854775807) : wrap64 x = x := by
  unfold wrap64
  omega
theorem w64n (n : Nat) (h : n ≤ 9223372036854775807) : wrap64 (n : Int) = n := w64 (by omega) (by omega)
theorem pow_le62 {n : Nat} (h : n ≤ 62) : 2 ^ n ≤ 4611686018427387904 := by
  have : 2 ^ n ≤ 2 ^ 62 := Nat.pow_le_pow_right (by decide) h
  simpa using this
theorem shl1 {n : Int} (h0 : 0 ≤ n) (h1 : n ≤ 62) : shl .i64 1 n = ((2 ^ n.toNat : Nat) : Int) := by
  unfold shl
  have hb : IntKind.i64.bits = 64 := rfl
  rw [hb, Nat.min_eq_left (by omega), IntKind.wrap_i64]
  have h2 := pow_le62 (n := n.toNat) (by omega)
  have h3 : ((2 : Int) ^ n.toNat) = ((2 ^ n.toNat : Nat) : Int) := by simp
  rw [Int.one_mul, h3]
  generalize 2 ^ n.toNat = p at h2
  omega
theorem shl1n {n : Nat} (h1 : n ≤ 62) : shl .i64 1 (n : Int) = ((2 ^ n : Nat) : Int) := by
  have := shl1 (n := (n : Int)) (by omega) (by omega)
  simpa using this
theorem bits_i64 (op : BinOp) (x y : Nat) (hx : x < 9223372036854775808) (hy : y < 9223372036854775808) :
    (op = .and → Go.bits .and .i64 (x : Int) (y : Int) = ((x &&& y : Nat) : Int)) := by
  intro _
  have hw : ∀ n : Int, 0 ≤ n → n < 2 ^ 63 → IntKind.i64.wrap n = n := fun n h0 h1 => by
    have h1' : n < 9223372036854775808 := by simpa using h1
    rw [IntKind.wrap_i64]; omega
  exact (bits_nat .i64 63 (by decide) hw x y (by simpa using hx) (by simpa using hy)).1
theorem and64 (x y : Nat) (hx : x < 9223372036854775808) (hy : y < 9223372036854775808) : Go.bits .and .i64 (x : Int) (y : Int) = ((x &&& y : Nat) : Int) := bits_i64 .and x y hx hy rfl
theorem or64 (x y : Nat) (hx : x < 9223372036854775808) (hy : y < 9223372036854775808) : Go.bits .or .i64 (x : Int) (y : Int) = ((x ||| y : Nat) : Int) := by
  have hw : ∀ n : Int, 0 ≤ n → n < 2 ^ 63 → IntKind.i64.wrap n = n := fun n h0 h1 => by
    have h1' : n < 9223372036854775808 := by simpa using h1
    rw [IntKind.wrap_i64]; omega
  exact (bits_nat .i64 63 (by decide) hw x y (by simpa using hx) (by simpa using hy)).2
theorem rd_get (l : List Int) (i : Nat) (h : i < l.length) : rd l (i : Int) = l[i] := by
  unfold rd
  simp [List.getD_eq_getElem?_getD, List.getElem?_eq_getElem h]
end Go.Proofs.Ytelfalicickelaa.Kit
set_option linter.unusedSimpArgs false
set_option linter.unusedVariables false
namespace Go.Proofs.Ytelfalicickelaa.P
open Go.Lib Go.RowKit Go.Proofs.YtelfalicickelaaW.PrintWords Go.Proofs.YtelfalicickelaaW.PrintLast Go.Proofs.YtelfalicickelaaW.PrintMore Go.Proofs.Ytelfalicickelaa.Kit
def pairV (t : Nat) (a b : Int) : Value := .iface t (.agg #[.int .i64 a, .int .i64 b])
def unitV (k a b : Int) : Value :=
  if k = 0 then pairV 122 a b
  else if k = 1 then pairV 123 a b
  else if k = 2 then pairV 124 a b
  else if k = 3 then .iface 116 (.agg #[pairV 122 a b])
  else if k = 4 then .iface 116 (.agg #[pairV 123 a b])
  else if k = 5 then .iface 118 (.agg #[.int .i64 a])
  else .nilIface
theorem kinds {k : Int} (h0 : 0 ≤ k) (h5 : k ≤ 5) : k = 0 ∨ k = 1 ∨ k = 2 ∨ k = 3 ∨ k = 4 ∨ k = 5 := by omega
set_option maxHeartbeats 4000000
set_option maxRecDepth 100000
theorem made_some (k a b : Int) (hk : 0 ≤ k ∧ k ≤ 5) (w : World) :
    Calls Try.prog 85 #[.agg #[.int .i64 k, .int .i64 a, .int .i64 b]] w fun e w' => e = .returned (unitV k a b) ∧ Below w.heap.size w w' := by
  have HB := Aside0.mk (Below.refl w.heap.size w)
  rcases kinds hk.1 hk.2 with rfl | rfl | rfl | rfl | rfl | rfl
  all_goals
    clear hk
    go_enter Try.func85, Try.ntmps85
    go_wp2
    go_ret
    refine ⟨rfl, ?_⟩
    repeat (first | exact HB.out | apply below_alloc)
theorem made_none (k a b : Int) (hk : ¬ (0 ≤ k ∧ k ≤ 5)) (w : World) :
    Calls Try.prog 85 #[.agg #[.int .i64 k, .int .i64 a, .int .i64 b]] w fun e w' => e = .returned .nilIface ∧ Below w.heap.size w w' := by
  have HB := Aside0.mk (Below.refl w.heap.size w)
  have h0 : (k == 0) = false := beq_eq_false_iff_ne.2 (by omega)
  have h1 : (k == 1) = false := beq_eq_false_iff_ne.2 (by omega)
  have h2 : (k == 2) = false := beq_eq_false_iff_ne.2 (by omega)
  have h3 : (k == 3) = false := beq_eq_false_iff_ne.2 (by omega)
  have h4 : (k == 4) = false := beq_eq_false_iff_ne.2 (by omega)
  have h5 : (k == 5) = false := beq_eq_false_iff_ne.2 (by omega)
  clear hk
  go_enter Try.func85, Try.ntmps85
  go_wp2
  go_ret
  refine ⟨rfl, ?_⟩
  repeat (first | exact HB.out | apply below_alloc)
def readsL (k a b : Int) : List Int := if k = 5 then [a] else [a, b]
theorem as_opposite_opposite (v : Value) (w : World) : (Instr.typeAssert (.iface 116 v) 105 116 true).run Try.prog w = .ok (.tuple #[v, .bool true]) w := by kernel_rfl
theorem as_not_opposite (v : Value) (w : World) : (Instr.typeAssert (.iface 118 v) 105 116 true).run Try.prog w = .ok (.tuple #[.agg #[.nilIface], .bool false]) w := by kernel_rfl
theorem as_not_not (v : Value) (w : World) : (Instr.typeAssert (.iface 118 v) 105 118 true).run Try.prog w = .ok (.tuple #[v, .bool true]) w := by kernel_rfl
theorem as_and_opposite (v : Value) (w : World) : (Instr.typeAssert (.iface 122 v) 105 116 true).run Try.prog w = .ok (.tuple #[.agg #[.nilIface], .bool false]) w := by kernel_rfl
theorem as_and_not (v : Value) (w : World) : (Instr.typeAssert (.iface 122 v) 105 118 true).run Try.prog w = .ok (.tuple #[.agg #[.int .i64 0], .bool false]) w := by kernel_rfl
theorem as_and_and (v : Value) (w : World) : (Instr.typeAssert (.iface 122 v) 105 122 true).run Try.prog w = .ok (.tuple #[v, .bool true]) w := by kernel_rfl
theorem as_or_opposite (v : Value) (w : World) : (Instr.typeAssert (.iface 123 v) 105 116 true).run Try.prog w = .ok (.tuple #[.agg #[.nilIface], .bool false]) w := by kernel_rfl
theorem as_or_not (v : Value) (w : World) : (Instr.typeAssert (.iface 123 v) 105 118 true).run Try.prog w = .ok (.tuple #[.agg #[.int .i64 0], .bool false]) w := by kernel_rfl
theorem as_or_and (v : Value) (w : World) : (Instr.typeAssert (.iface 123 v) 105 122 true).run Try.prog w = .ok (.tuple #[.agg #[.int .i64 0, .int .i64 0], .bool false]) w := by kernel_rfl
theorem as_or_or (v : Value) (w : World) : (Instr.typeAssert (.iface 123 v) 105 123 true).run Try.prog w = .ok (.tuple #[v, .bool true]) w := by kernel_rfl
theorem as_xor_opposite (v : Value) (w : World) : (Instr.typeAssert (.iface 124 v) 105 116 true).run Try.prog w = .ok (.tuple #[.agg #[.nilIface], .bool false]) w := by kernel_rfl
theorem as_xor_not (v : Value) (w : World) : (Instr.typeAssert (.iface 124 v) 105 118 true).run Try.prog w = .ok (.tuple #[.agg #[.int .i64 0], .bool false]) w := by kernel_rfl
theorem as_xor_and (v : Value) (w : World) : (Instr.typeAssert (.iface 124 v) 105 122 true).run Try.prog w = .ok (.tuple #[.agg #[.int .i64 0, .int .i64 0], .bool false]) w := by kernel_rfl
theorem as_xor_or (v : Value) (w : World) : (Instr.typeAssert (.iface 124 v) 105 123 true).run Try.prog w = .ok (.tuple #[.agg #[.int .i64 0, .int .i64 0], .bool false]) w := by kernel_rfl
theorem as_xor_xor (v : Value) (w : World) : (Instr.typeAssert (.iface 124 v) 105 124 true).run Try.prog w = .ok (.tuple #[v, .bool true]) w := by kernel_rfl
attribute [local go_sem] as_opposite_opposite as_not_opposite as_not_not as_and_opposite as_and_not as_and_and as_or_opposite as_or_not as_or_and as_or_or as_xor_opposite as_xor_not as_xor_and as_xor_or as_xor_xor
theorem reps_of_nums0 (k : IntKind) (xs : List Int) : Reps (fun (x : Int) cs => cs = [Value.int k x]) 1 xs (nums k xs) := by
  refine ⟨by rw [nums_length, Nat.mul_one], fun j p hj => ?_⟩
  have hlt : j < xs.length := by
    rcases Nat.lt_or_ge j xs.length with h | h
    · exact h
    · rw [List.getElem?_eq_none h] at hj; cases hj
  rw [List.getElem?_eq_getElem hlt] at hj
  injection hj with hj
  rw [Nat.mul_one]
  apply List.ext_getElem?
  intro i
  cases i with
  | zero => simp [nums, List.getElem?_eq_getElem hlt, hj]
  | succ i =>
    simp
    omega
theorem R_int_mk0 {k : IntKind} {e base : Nat} {ok : Nat → Prop} {w : World} {v : Value} {xs : List Int} (h0 : ∀ j, v.ownBlock = some j → ok j) (ho : w.ownsRow base e 1 v xs.length (nums k xs)) : (Kd.int k).R e w base ok v xs :=
  ⟨h0, nums k xs, ho, reps_of_nums0 k xs⟩
theorem R_made {k : IntKind} {e base g n : Nat} (W : World) {cs : Array Value} (xs : List Int) (hg : g = W.heap.size) (hcs : cs = (nums k xs).toArray) (hn : n = xs.length) (hb : base ≤ W.heap.size) (hl : xs.length ≤ maxLen) : (Kd.int k).R e (W.alloc (.cells cs e)) base (fun _ => True) (.slice (some ⟨g, 0, none⟩) n n) xs := by
  subst hg hcs hn
  exact R_int_mk0 (fun _ _ => trivial) ⟨by rw [nums_length, Nat.mul_one], .inr ⟨W.heap.size, xs.length, _, rfl, hb, heap_alloc_new W _, Nat.le_refl _, hl, by simp [nums_length], by rw [Nat.mul_one]; exact List.take_of_length_le (by simp [nums_length])⟩⟩
theorem reps_nums1 {k : IntKind} {xs : List Int} {cs : List Value} (h : Reps (fun (x : Int) cs => cs = [Value.int k x]) 1 xs cs) : cs = nums k xs := by
  obtain ⟨hl, he⟩ := h
  apply List.ext_getElem?
  intro j
  by_cases hj : j < xs.length
  · have h1 := he j xs[j] (List.getElem?_eq_getElem hj)
    rw [Nat.mul_one] at h1
    have h2 : cs[j]? = ((cs.drop j).take 1)[0]? := by simp
    rw [h2, h1]
    simp [nums, List.getElem?_eq_getElem hj]
  · rw [List.getElem?_eq_none (by omega), List.getElem?_eq_none (by rw [nums_length]; omega)]
theorem R_int_own0 {k : IntKind} {e base : Nat} {ok : Nat → Prop} {w : World} {v : Value} {xs : List Int} (h : (Kd.int k).R e w base ok v xs) : w.ownsRow base e 1 v xs.length (nums k xs) := by
  obtain ⟨h0, inner, ho, hr⟩ := h
  have : inner = nums k xs := reps_nums1 hr
  subst this
  exact ho
theorem R_low {k : IntKind} {e base base' : Nat} {w : World} {v : Value} {xs : List Int} (h : (Kd.int k).R e w base (fun _ => True) v xs) (hb : base' ≤ base) : (Kd.int k).R e w base' (fun _ => True) v xs := by
  refine R_int_mk0 (fun _ _ => trivial) ?_
  have ho := R_int_own0 h
  refine ⟨ho.1, ?_⟩
  rcases ho.2 with h | ⟨g, cap, cur, h1, h2, h3⟩
  · exact .inl h
  · exact .inr ⟨g, cap, cur, h1, Nat.le_trans hb h2, h3⟩
theorem two_len {a b : Int} : [a, b].length ≤ maxLen := by show 2 ≤ maxLen; decide
theorem one_len {a : Int} : [a].length ≤ maxLen := by show 1 ≤ maxLen; decide
theorem reads_pair (t : Nat) (ht : t = 122 ∨ t = 123 ∨ t = 124) (a b : Int) (w : World) :
    Calls Try.prog 84 #[pairV t a b] w fun e w' => ∃ v0_ : Value, e = .returned v0_ ∧ Kd.R (Kd.int .i64) 3 w' w.heap.size (fun _ => True) v0_ [a, b] ∧ Below w.heap.size w w' := by
  have HB := Aside0.mk (Below.refl w.heap.size w)
  unfold pairV
  rcases ht with rfl | rfl | rfl
  all_goals
    go_enter Try.func84, Try.ntmps84
    go_wp2
    go_ret
    refine ⟨_, rfl, R_made _ [a, b] (by simp only [World.size_alloc]) rfl rfl (by simp only [World.size_alloc]; omega) two_len, ?_⟩
    repeat (first | exact HB.out | apply below_alloc)
theorem reads_calls (k a b : Int) (hk : 0 ≤ k ∧ k ≤ 5) (w : World) :
    Calls Try.prog 84 #[unitV k a b] w fun e w' => ∃ v0_ : Value, e = .returned v0_ ∧ Kd.R (Kd.int .i64) 3 w' w.heap.size (fun _ => True) v0_ (readsL k a b) ∧ Below w.heap.size w w' := by
  have HB := Aside0.mk (Below.refl w.heap.size w)
  rcases kinds hk.1 hk.2 with rfl | rfl | rfl | rfl | rfl | rfl
  · exact reads_pair _ (.inl rfl) a b w
  · exact reads_pair _ (.inr (.inl rfl)) a b w
  · exact reads_pair _ (.inr (.inr rfl)) a b w
  · clear hk
    show Calls _ _ #[.iface 116 (.agg #[pairV 122 a b])] w fun e w' => ∃ v0_ : Value, e = .returned v0_ ∧ Kd.R (Kd.int .i64) 3 w' w.heap.size (fun _ => True) v0_ [a, b] ∧ Below w.heap.size w w'
    have HR := Aside0.mk (fun W => reads_pair 122 (.inl rfl) a b W)
    unfold pairV at *
    go_enter Try.func84, Try.ntmps84
    go_wp2_with (go_at_call 84; (refine (HR.out _).mono ?_); rintro e w' ⟨v0, rfl, hR, hb⟩; have HR2 := Aside0.mk hR; have HB2 := Aside0.mk hb; clear hR hb)
    go_ret
    refine ⟨_, rfl, R_low HR2.out (by simp only [World.size_alloc]; omega), Below.trans ?_ (HB2.out.mono (by simp only [World.size_alloc]; omega))⟩
    repeat (first | exact HB.out | apply below_alloc)
  · clear hk
    show Calls _ _ #[.iface 116 (.agg #[pairV 123 a b])] w fun e w' => ∃ v0_ : Value, e = .returned v0_ ∧ Kd.R (Kd.int .i64) 3 w' w.heap.size (fun _ => True) v0_ [a, b] ∧ Below w.heap.size w w'
    have HR := Aside0.mk (fun W => reads_pair 123 (.inr (.inl rfl)) a b W)
    unfold pairV at *
    go_enter Try.func84, Try.ntmps84
    go_wp2_with (go_at_call 84; (refine (HR.out _).mono ?_); rintro e w' ⟨v0, rfl, hR, hb⟩; have HR2 := Aside0.mk hR; have HB2 := Aside0.mk hb; clear hR hb)
    go_ret
    refine ⟨_, rfl, R_low HR2.out (by simp only [World.size_alloc]; omega), Below.trans ?_ (HB2.out.mono (by simp only [World.size_alloc]; omega))⟩
    repeat (first | exact HB.out | apply below_alloc)
  · clear hk
    show Calls _ _ #[.iface 118 (.agg #[.int .i64 a])] w fun e w' => ∃ v0_ : Value, e = .returned v0_ ∧ Kd.R (Kd.int .i64) 3 w' w.heap.size (fun _ => True) v0_ [a] ∧ Below w.heap.size w w'
    go_enter Try.func84, Try.ntmps84
    go_wp2
    go_ret
    refine ⟨_, rfl, R_made _ [a] (by simp only [World.size_alloc]) rfl rfl (by simp only [World.size_alloc]; omega) one_len, ?_⟩
    repeat (first | exact HB.out | apply below_alloc)
end Go.Proofs.Ytelfalicickelaa.P
namespace Go.Proofs
open Go.Shelf
def Try.laysSlE33_f58_ren : Go.Shelf.Ren := ⟨fun | 33 => 58 | n => n, fun | 22 => 72 | 23 => 74 | 4 => 4 | 3 => 3 | 0 => 0 | n => n, fun | n => n⟩
theorem Try.laysSlE33_f58 : Go.Proofs.SlLaysE.n33 Try.prog Try.laysSlE33_f58_ren := {
  mixed := by kernel_rfl
  f33 := ⟨Try.f58.name, by decide, Try.func58.trans (congrArg some (by kernel_rfl))⟩
  t0 := Try.underlying0
  a0 := Try.isAgg0
  z0 := Try.sizeOf0
  v0 := Try.zeroValue0
  t3 := Try.underlying3
  a3 := Try.isAgg3
  z3 := Try.sizeOf3
  v3 := Try.zeroValue3
  t4 := Try.underlying4
  a4 := Try.isAgg4
  z4 := Try.sizeOf4
  v4 := Try.zeroValue4
  t22 := Try.underlying72
  a22 := Try.isAgg72
  z22 := Try.sizeOf72
  v22 := Try.zeroValue72
  a23 := Try.isAgg74
  z23 := Try.sizeOf74 }
open Go.RowKit Go.Lib in
theorem Try.slices_Equal {α : Type} [Inhabited α] (enc : α → Value) (eq : α → α → Bool) (hne : NeqAt Try.prog (Try.laysSlE33_f58_ren.t 23) enc eq) (b1 o1 n c b2 o2 m d : Nat) (xs ys : List α) (w : World) (hx : n ≤ xs.length) (hy : m ≤ ys.length) (hbig : n ≤ 9223372036854775807) (hbig2 : m ≤ 9223372036854775807) (hc1 : ∀ j, j < xs.length → w.cell? ⟨b1, o1 + j, none⟩ = some (enc xs[j]!)) (hc2 : ∀ j, j < ys.length → w.cell? ⟨b2, o2 + j, none⟩ = some (enc ys[j]!)) :
    Calls Try.prog 58 #[.slice (some ⟨b1, o1, none⟩) n c, .slice (some ⟨b2, o2, none⟩) m d] w fun e w' => e = .returned (.bool (Lib.allEq eq (xs.take n) (ys.take m))) ∧ ∃ q, w' = w.drewN q := AnyE.slices_Equal Try.laysSlE33_f58 enc eq hne b1 o1 n c b2 o2 m d xs ys w hx hy hbig hbig2 hc1 hc2
def Try.laysSlE041_f95_ren : Go.Shelf.Ren := ⟨fun | 41 => 95 | n => n, fun | 22 => 72 | 23 => 74 | 4 => 4 | n => n, fun | n => n⟩
theorem Try.laysSlE041_f95 : Go.Proofs.SlLaysE0.n41 Try.prog Try.laysSlE041_f95_ren := {
  mixed := by kernel_rfl
  f41 := ⟨Try.f95.name, by decide, Try.func95.trans (congrArg some (by kernel_rfl))⟩
  t4 := Try.underlying4
  a4 := Try.isAgg4
  z4 := Try.sizeOf4
  v4 := Try.zeroValue4
  t22 := Try.underlying72
  a22 := Try.isAgg72
  z22 := Try.sizeOf72
  v22 := Try.zeroValue72 }
open Go.RowKit Go.Lib in
theorem Try.slices_Clone (i0 : TypeInfo) (z : Value) (size bytes : Nat) (hi : Try.prog.info? (Try.laysSlE041_f95_ren.t 23) = some i0) (hz0 : i0.zero = some z) (hz1 : i0.size = size) (hz2 : i0.bytes = bytes) (hzs : z.cells.size = size) (hsz : 0 < size) (z23 : ∀ w, (Go.sizeOf (Try.laysSlE041_f95_ren.t 23)).run Try.prog w = .ok size w) (b off n c : Nat) (news : List Value) (w : World) (hl : news.length = n * size) (hn : n ≤ maxLen) (hbig : n * bytes ≤ 140737488355328) (hc : ∀ j u, news[j]? = some u → w.cell? ⟨b, off + j, none⟩ = some u) (h1 : ∀ u ∈ news, u.oneCell' = true) :
    Calls Try.prog 95 #[.slice (some ⟨b, off, none⟩) n c] w fun e w' => ∃ v', e = .returned v' ∧ w'.ownsRow w.heap.size (Try.laysSlE041_f95_ren.t 23) size v' n news ∧ v' ≠ .slice none 0 0 ∧ Below w.heap.size w w' := AnyE.slices_Clone Try.laysSlE041_f95 i0 z size bytes hi hz0 hz1 hz2 hzs hsz z23 b off n c news w hl hn hbig hc h1
def Try.laysSlH8_f86_ren : Go.Shelf.Ren := ⟨fun | 8 => 86 | 6 => 98 | n => n, fun | 22 => 23 | 23 => 3 | 25 => 108 | 4 => 4 | 3 => 3 | 0 => 0 | n => n, fun | n => n⟩
theorem Try.laysSlH8_f86 : Go.Proofs.SlLaysH.n8 Try.prog Try.laysSlH8_f86_ren := {
  mixed := by kernel_rfl
  f6 := ⟨Try.f98.name, by decide, Try.func98.trans (congrArg some (by kernel_rfl))⟩
  f8 := ⟨Try.f86.name, by decide, Try.func86.trans (congrArg some (by kernel_rfl))⟩
  t0 := Try.underlying0
  a0 := Try.isAgg0
  z0 := Try.sizeOf0
  v0 := Try.zeroValue0
  t3 := Try.underlying3
  a3 := Try.isAgg3
  z3 := Try.sizeOf3
  v3 := Try.zeroValue3
  t4 := Try.underlying4
  a4 := Try.isAgg4
  z4 := Try.sizeOf4
  v4 := Try.zeroValue4
  t22 := Try.underlying23
  a22 := Try.isAgg23
  z22 := Try.sizeOf23
  v22 := Try.zeroValue23
  a23 := Try.isAgg3
  z23 := Try.sizeOf3
  t25 := Try.underlying108
  a25 := Try.isAgg108
  z25 := Try.sizeOf108
  v25 := Try.zeroValue108 }
open Go.RowKit Go.Lib in
theorem Try.slices_ContainsFunc {α : Type} [Inhabited α] (enc : α → Value) (p : α → Bool) (g : Nat) (lb : Array Value) (eg : ∀ args w, (callFunc g args).run Try.prog w = .ok (.enter g args) w) (b off n c : Nat) (zs : List α) (w : World) (hp : PredAt Try.prog g lb enc p w) (hz : n ≤ zs.length) (hbig : n ≤ 9223372036854775807) (hc : ∀ j, j < zs.length → w.cell? ⟨b, off + j, none⟩ = some (enc zs[j]!)) :
    Calls Try.prog 86 #[.slice (some ⟨b, off, none⟩) n c, .func (.func g) #[] lb] w fun e w' => e = .returned (.bool ((zs.take n).any p)) ∧ ∃ q, w' = w.drewN q := AnyE.slices_ContainsFunc Try.laysSlH8_f86 enc p g lb eg b off n c zs w hp hz hbig hc
open Go.RowKit Go.Lib in
theorem Try.slices_ContainsFunc_empty {α : Type} [Inhabited α] (a : Option Addr) (c : Nat) (fv : Value) (w : World) :
    Calls Try.prog 86 #[.slice a 0 c, fv] w fun e w' => e = .returned (.bool false) ∧ w' = w := AnyE.slices_ContainsFunc_empty Try.laysSlH8_f86 a c fv w
def Try.laysSlH10_f94_ren : Go.Shelf.Ren := ⟨fun | 10 => 94 | 6 => 100 | n => n, fun | 22 => 72 | 23 => 74 | 25 => 91 | 3 => 3 | 4 => 4 | 0 => 0 | n => n, fun | n => n⟩
theorem Try.laysSlH10_f94 : Go.Proofs.SlLaysH.n10 Try.prog Try.laysSlH10_f94_ren := {
  mixed := by kernel_rfl
  f6 := ⟨Try.f100.name, by decide, Try.func100.trans (congrArg some (by kernel_rfl))⟩
  f10 := ⟨Try.f94.name, by decide, Try.func94.trans (congrArg some (by kernel_rfl))⟩
  t0 := Try.underlying0
  a0 := Try.isAgg0
  z0 := Try.sizeOf0
  v0 := Try.zeroValue0
  t3 := Try.underlying3
  a3 := Try.isAgg3
  z3 := Try.sizeOf3
  v3 := Try.zeroValue3
  t4 := Try.underlying4
  a4 := Try.isAgg4
  z4 := Try.sizeOf4
  v4 := Try.zeroValue4
  t22 := Try.underlying72
  a22 := Try.isAgg72
  z22 := Try.sizeOf72
  v22 := Try.zeroValue72
  a23 := Try.isAgg74
  z23 := Try.sizeOf74
  t25 := Try.underlying91
  a25 := Try.isAgg91
  z25 := Try.sizeOf91
  v25 := Try.zeroValue91 }
open Go.RowKit Go.Lib Go.Sort in
theorem Try.slices_DeleteFunc {α : Type} [Inhabited α] (enc : α → Value) (hO : OneCell enc) (p : α → Bool) (g : Nat) (lb : Array Value) (eg : ∀ args w, (callFunc g args).run Try.prog w = .ok (.enter g args) w) (zr : α) (v23 : ∀ w, (zeroValue (Try.laysSlH10_f94_ren.t 23)).run Try.prog w = .ok (enc zr) w) (blk off cap : Nat) (d : Array α) (w : World) (hp : PredAt Try.prog g lb enc p w) (hpo : PredOver Try.prog g lb enc p blk off d.size w) (hH : Holds enc w blk off d) (hsz : d.size ≤ 9223372036854775807) (hcap : d.size ≤ cap) :
    Calls Try.prog 94 #[.slice (some ⟨blk, off, none⟩) d.size cap, .func (.func g) #[] lb] w fun e w' => e = .returned (.slice (some ⟨blk, off, none⟩) (d.toList.filter fun x => !p x).length cap) ∧ ∃ q, w' = putRow enc (Sort.ahead w q) blk off ((d.toList.filter fun x => !p x) ++ List.replicate (d.size - (d.toList.filter fun x => !p x).length) zr).toArray := AnyE.slices_DeleteFunc Try.laysSlH10_f94 enc hO p g lb eg zr v23 blk off cap d w hp hpo hH hsz hcap
end Go.Proofs
namespace Go.Proofs.Ytelfalicickelaa.Kit
open Go.Lib
set_option linter.unusedVariables false
def cat8 (b0 b1 b2 b3 b4 b5 b6 b7 : Nat) : Nat := b0 + 256 * (b1 + 256 * (b2 + 256 * (b3 + 256 * (b4 + 256 * (b5 + 256 * (b6 + 256 * b7))))))
theorem and_cat (a m A M : Nat) (ha : a < 256) (hm : m < 256) : (a + 256 * A) &&& (m + 256 * M) = (a &&& m) + 256 * (A &&& M) := by
  have h1 : ((a + 256 * A) &&& (m + 256 * M)) % 2 ^ 8 = (a &&& m) := by
    rw [Nat.and_mod_two_pow, show (a + 256 * A) % 2 ^ 8 = a from by simp only [Nat.reducePow]; omega, show (m + 256 * M) % 2 ^ 8 = m from by simp only [Nat.reducePow]; omega]
  have h2 : ((a + 256 * A) &&& (m + 256 * M)) / 2 ^ 8 = (A &&& M) := by
    rw [Nat.and_div_two_pow, show (a + 256 * A) / 2 ^ 8 = A from by simp only [Nat.reducePow]; omega, show (m + 256 * M) / 2 ^ 8 = M from by simp only [Nat.reducePow]; omega]
  have h3 := Nat.div_add_mod ((a + 256 * A) &&& (m + 256 * M)) (2 ^ 8)
  rw [h1, h2] at h3
  simp only [Nat.reducePow] at h3
  omega
theorem and_cat8 (a0 a1 a2 a3 a4 a5 a6 a7 m0 m1 m2 m3 m4 m5 m6 m7 : Nat) (h0 : a0 < 256) (h1 : a1 < 256) (h2 : a2 < 256) (h3 : a3 < 256) (h4 : a4 < 256) (h5 : a5 < 256) (h6 : a6 < 256)
    (k0 : m0 < 256) (k1 : m1 < 256) (k2 : m2 < 256) (k3 : m3 < 256) (k4 : m4 < 256) (k5 : m5 < 256) (k6 : m6 < 256) :
    cat8 a0 a1 a2 a3 a4 a5 a6 a7 &&& cat8 m0 m1 m2 m3 m4 m5 m6 m7 = cat8 (a0 &&& m0) (a1 &&& m1) (a2 &&& m2) (a3 &&& m3) (a4 &&& m4) (a5 &&& m5) (a6 &&& m6) (a7 &&& m7) := by
  unfold cat8
  rw [and_cat _ _ _ _ h0 k0, and_cat _ _ _ _ h1 k1, and_cat _ _ _ _ h2 k2, and_cat _ _ _ _ h3 k3, and_cat _ _ _ _ h4 k4, and_cat _ _ _ _ h5 k5, and_cat _ _ _ _ h6 k6]
theorem cat8_of (x : Nat) (hx : x < 18446744073709551616) : ∃ b0 b1 b2 b3 b4 b5 b6 b7, b0 < 256 ∧ b1 < 256 ∧ b2 < 256 ∧ b3 < 256 ∧ b4 < 256 ∧ b5 < 256 ∧ b6 < 256 ∧ b7 < 256 ∧ x = cat8 b0 b1 b2 b3 b4 b5 b6 b7 :=
  ⟨x % 256, x / 256 % 256, x / 65536 % 256, x / 16777216 % 256, x / 4294967296 % 256, x / 1099511627776 % 256, x / 281474976710656 % 256, x / 72057594037927936, by omega, by omega, by omega, by omega, by omega, by omega, by omega, by omega, by unfold cat8; omega⟩
theorem cat8_lt (b0 b1 b2 b3 b4 b5 b6 b7 : Nat) (h0 : b0 < 256) (h1 : b1 < 256) (h2 : b2 < 256) (h3 : b3 < 256) (h4 : b4 < 256) (h5 : b5 < 256) (h6 : b6 < 256) (h7 : b7 < 256) : cat8 b0 b1 b2 b3 b4 b5 b6 b7 < 18446744073709551616 := by
  unfold cat8
  omega
theorem cat8_lt68 (b0 b1 b2 b3 b4 b5 b6 b7 : Nat) (h0 : b0 ≤ 68) (h1 : b1 ≤ 68) (h2 : b2 ≤ 68) (h3 : b3 ≤ 68) (h4 : b4 ≤ 68) (h5 : b5 ≤ 68) (h6 : b6 ≤ 68) (h7 : b7 ≤ 68) : cat8 b0 b1 b2 b3 b4 b5 b6 b7 < 9223372036854775808 := by
  unfold cat8
  omega
theorem lt63a {y : Nat} (h : y < 9223372036854775808) : y < 18446744073709551616 := by omega
theorem lt63b {y : Nat} (h : y < 9223372036854775808) : y / 16 + y < 18446744073709551616 := by omega
def g1 (b : Nat) : Nat := (b / 2 &&& 85) + (b &&& 85)
def g2 (b : Nat) : Nat := (b / 4 &&& 51) + (b &&& 51)
def g3 (b : Nat) : Nat := (b / 16 + b) % 16
theorem g_fin : ∀ b : Fin 256, g3 (g2 (g1 b.val)) = popAux 8 b.val ∧ g1 b.val < 256 ∧ g2 (g1 b.val) ≤ 68 ∧ g2 (g1 b.val) % 16 ≤ 4 ∧ popAux 8 b.val ≤ 8 := by decide +kernel
theorem m1_fin : ∀ b : Fin 256, (b.val / 2 + 128 * 0 &&& 85) = (b.val / 2 &&& 85) ∧ (b.val / 2 + 128 * 1 &&& 85) = (b.val / 2 &&& 85) := by decide +kernel
theorem m2_fin : ∀ b : Fin 256, (b.val / 4 + 64 * 0 &&& 51) = (b.val / 4 &&& 51) ∧ (b.val / 4 + 64 * 1 &&& 51) = (b.val / 4 &&& 51) ∧ (b.val / 4 + 64 * 2 &&& 51) = (b.val / 4 &&& 51) ∧ (b.val / 4 + 64 * 3 &&& 51) = (b.val / 4 &&& 51) := by decide +kernel
theorem m1 (b c : Nat) (h : b < 256) : (b / 2 + 128 * (c % 2) &&& 85) = (b / 2 &&& 85) := by
  have hc : c % 2 = 0 ∨ c % 2 = 1 := by omega
  rcases hc with hc | hc <;> rw [hc]
  · exact (m1_fin ⟨b, h⟩).1
  · exact (m1_fin ⟨b, h⟩).2
theorem m2 (b c : Nat) (h : b < 256) : (b / 4 + 64 * (c % 4) &&& 51) = (b / 4 &&& 51) := by
  have hc : c % 4 = 0 ∨ c % 4 = 1 ∨ c % 4 = 2 ∨ c % 4 = 3 := by omega
  rcases hc with hc | hc | hc | hc <;> rw [hc]
  · exact (m2_fin ⟨b, h⟩).1
  · exact (m2_fin ⟨b, h⟩).2.1
  · exact (m2_fin ⟨b, h⟩).2.2.1
  · exact (m2_fin ⟨b, h⟩).2.2.2
theorem stage1 (b0 b1 b2 b3 b4 b5 b6 b7 : Nat) (h0 : b0 < 256) (h1 : b1 < 256) (h2 : b2 < 256) (h3 : b3 < 256) (h4 : b4 < 256) (h5 : b5 < 256) (h6 : b6 < 256) (h7 : b7 < 256) :
    (cat8 b0 b1 b2 b3 b4 b5 b6 b7 / 2 &&& 6148914691236517205) + (cat8 b0 b1 b2 b3 b4 b5 b6 b7 &&& 6148914691236517205) = cat8 (g1 b0) (g1 b1) (g1 b2) (g1 b3) (g1 b4) (g1 b5) (g1 b6) (g1 b7) := by
  have hM : (6148914691236517205 : Nat) = cat8 85 85 85 85 85 85 85 85 := by decide
  have hd : cat8 b0 b1 b2 b3 b4 b5 b6 b7 / 2 = cat8 (b0 / 2 + 128 * (b1 % 2)) (b1 / 2 + 128 * (b2 % 2)) (b2 / 2 + 128 * (b3 % 2)) (b3 / 2 + 128 * (b4 % 2)) (b4 / 2 + 128 * (b5 % 2)) (b5 / 2 + 128 * (b6 % 2)) (b6 / 2 + 128 * (b7 % 2)) (b7 / 2) := by
    unfold cat8
    omega
  rw [hd, hM, and_cat8 _ _ _ _ _ _ _ _ _ _ _ _ _ _ _ _ (by omega) (by omega) (by omega) (by omega) (by omega) (by omega) (by omega) (by omega) (by omega) (by omega) (by omega) (by omega) (by omega) (by omega),
    and_cat8 _ _ _ _ _ _ _ _ _ _ _ _ _ _ _ _ h0 h1 h2 h3 h4 h5 h6 (by omega) (by omega) (by omega) (by omega) (by omega) (by omega) (by omega),
    m1 b0 b1 h0, m1 b1 b2 h1, m1 b2 b3 h2, m1 b3 b4 h3, m1 b4 b5 h4, m1 b5 b6 h5, m1 b6 b7 h6]
  unfold cat8 g1
  omega
theorem stage2 (b0 b1 b2 b3 b4 b5 b6 b7 : Nat) (h0 : b0 < 256) (h1 : b1 < 256) (h2 : b2 < 256) (h3 : b3 < 256) (h4 : b4 < 256) (h5 : b5 < 256) (h6 : b6 < 256) (h7 : b7 < 256) :
    (cat8 b0 b1 b2 b3 b4 b5 b6 b7 / 4 &&& 3689348814741910323) + (cat8 b0 b1 b2 b3 b4 b5 b6 b7 &&& 3689348814741910323) = cat8 (g2 b0) (g2 b1) (g2 b2) (g2 b3) (g2 b4) (g2 b5) (g2 b6) (g2 b7) := by
  have hM : (3689348814741910323 : Nat) = cat8 51 51 51 51 51 51 51 51 := by decide
  have hd : cat8 b0 b1 b2 b3 b4 b5 b6 b7 / 4 = cat8 (b0 / 4 + 64 * (b1 % 4)) (b1 / 4 + 64 * (b2 % 4)) (b2 / 4 + 64 * (b3 % 4)) (b3 / 4 + 64 * (b4 % 4)) (b4 / 4 + 64 * (b5 % 4)) (b5 / 4 + 64 * (b6 % 4)) (b6 / 4 + 64 * (b7 % 4)) (b7 / 4) := by
    unfold cat8
    omega
  rw [hd, hM, and_cat8 _ _ _ _ _ _ _ _ _ _ _ _ _ _ _ _ (by omega) (by omega) (by omega) (by omega) (by omega) (by omega) (by omega) (by omega) (by omega) (by omega) (by omega) (by omega) (by omega) (by omega),
    and_cat8 _ _ _ _ _ _ _ _ _ _ _ _ _ _ _ _ h0 h1 h2 h3 h4 h5 h6 (by omega) (by omega) (by omega) (by omega) (by omega) (by omega) (by omega),
    m2 b0 b1 h0, m2 b1 b2 h1, m2 b2 b3 h2, m2 b3 b4 h3, m2 b4 b5 h4, m2 b5 b6 h5, m2 b6 b7 h6]
  unfold cat8 g2
  omega
theorem and15 (x : Nat) : x &&& 15 = x % 16 := Nat.and_two_pow_sub_one_eq_mod x 4
theorem stage3 (b0 b1 b2 b3 b4 b5 b6 b7 : Nat) (h0 : b0 ≤ 68) (h1 : b1 ≤ 68) (h2 : b2 ≤ 68) (h3 : b3 ≤ 68) (h4 : b4 ≤ 68) (h5 : b5 ≤ 68) (h6 : b6 ≤ 68) (h7 : b7 ≤ 68)
    (k1 : b1 % 16 ≤ 4) (k2 : b2 % 16 ≤ 4) (k3 : b3 % 16 ≤ 4) (k4 : b4 % 16 ≤ 4) (k5 : b5 % 16 ≤ 4) (k6 : b6 % 16 ≤ 4) (k7 : b7 % 16 ≤ 4) :
    (cat8 b0 b1 b2 b3 b4 b5 b6 b7 / 16 + cat8 b0 b1 b2 b3 b4 b5 b6 b7) &&& 1085102592571150095 = cat8 (g3 b0) (g3 b1) (g3 b2) (g3 b3) (g3 b4) (g3 b5) (g3 b6) (g3 b7) := by
  have hM : (1085102592571150095 : Nat) = cat8 15 15 15 15 15 15 15 15 := by decide
  have hd : cat8 b0 b1 b2 b3 b4 b5 b6 b7 / 16 + cat8 b0 b1 b2 b3 b4 b5 b6 b7 = cat8 (b0 / 16 + 16 * (b1 % 16) + b0) (b1 / 16 + 16 * (b2 % 16) + b1) (b2 / 16 + 16 * (b3 % 16) + b2) (b3 / 16 + 16 * (b4 % 16) + b3) (b4 / 16 + 16 * (b5 % 16) + b4) (b5 / 16 + 16 * (b6 % 16) + b5) (b6 / 16 + 16 * (b7 % 16) + b6) (b7 / 16 + b7) := by
    unfold cat8
    omega
  rw [hd, hM, and_cat8 _ _ _ _ _ _ _ _ _ _ _ _ _ _ _ _ (by omega) (by omega) (by omega) (by omega) (by omega) (by omega) (by omega) (by omega) (by omega) (by omega) (by omega) (by omega) (by omega) (by omega)]
  simp only [and15]
  unfold cat8 g3
  omega
theorem popAux_split (k : Nat) : ∀ (j x y : Nat), x < 2 ^ k → popAux (k + j) (x + 2 ^ k * y) = popAux k x + popAux j y := by
  induction k with
  | zero =>
    intro j x y hx
    have : x = 0 := by simp at hx; exact hx
    subst this
    simp [popAux]
  | succ k ih =>
    intro j x y hx
    rw [show k + 1 + j = (k + j) + 1 from by omega]
    simp only [popAux]
    have h1 : (x + 2 ^ (k + 1) * y) % 2 = x % 2 := by rw [Nat.pow_succ, Nat.mul_comm (2 ^ k) 2, Nat.mul_assoc]; omega
    have h2 : (x + 2 ^ (k + 1) * y) / 2 = x / 2 + 2 ^ k * y := by rw [Nat.pow_succ, Nat.mul_comm (2 ^ k) 2, Nat.mul_assoc]; omega
    rw [h1, h2, ih j (x / 2) y (by rw [Nat.pow_succ] at hx; omega)]
    omega
theorem pop_cat8 (b0 b1 b2 b3 b4 b5 b6 b7 : Nat) (h0 : b0 < 256) (h1 : b1 < 256) (h2 : b2 < 256) (h3 : b3 < 256) (h4 : b4 < 256) (h5 : b5 < 256) (h6 : b6 < 256) :
    onesCount (cat8 b0 b1 b2 b3 b4 b5 b6 b7) = popAux 8 b0 + (popAux 8 b1 + (popAux 8 b2 + (popAux 8 b3 + (popAux 8 b4 + (popAux 8 b5 + (popAux 8 b6 + popAux 8 b7)))))) := by
  unfold onesCount cat8
  rw [show (64 : Nat) = 8 + 56 from rfl, show ∀ t : Nat, 256 * t = 2 ^ 8 * t from fun _ => rfl, popAux_split 8 56 _ _ (by simpa using h0),
    show (56 : Nat) = 8 + 48 from rfl, popAux_split 8 48 _ _ (by simpa using h1), show (48 : Nat) = 8 + 40 from rfl, popAux_split 8 40 _ _ (by simpa using h2),
    show (40 : Nat) = 8 + 32 from rfl, popAux_split 8 32 _ _ (by simpa using h3), show (32 : Nat) = 8 + 24 from rfl, popAux_split 8 24 _ _ (by simpa using h4),
    show (24 : Nat) = 8 + 16 from rfl, popAux_split 8 16 _ _ (by simpa using h5), show (16 : Nat) = 8 + 8 from rfl, popAux_split 8 8 _ _ (by simpa using h6)]
theorem stage4 (p0 p1 p2 p3 p4 p5 p6 p7 : Nat) (h0 : p0 ≤ 8) (h1 : p1 ≤ 8) (h2 : p2 ≤ 8) (h3 : p3 ≤ 8) (h4 : p4 ≤ 8) (h5 : p5 ≤ 8) (h6 : p6 ≤ 8) (h7 : p7 ≤ 8) (x y z : Nat)
    (hx : x = cat8 p0 p1 p2 p3 p4 p5 p6 p7 + cat8 p0 p1 p2 p3 p4 p5 p6 p7 / 256) (hy : y = x + x / 65536) (hz : z = y + y / 4294967296) :
    z % 128 = p0 + (p1 + (p2 + (p3 + (p4 + (p5 + (p6 + p7)))))) ∧ x < 18446744073709551616 ∧ y < 18446744073709551616 ∧ z < 18446744073709551616 := by
  have e1 : x = cat8 (p0 + p1) (p1 + p2) (p2 + p3) (p3 + p4) (p4 + p5) (p5 + p6) (p6 + p7) p7 := by rw [hx]; unfold cat8; omega
  have e2 : y = cat8 (p0 + p1 + (p2 + p3)) (p1 + p2 + (p3 + p4)) (p2 + p3 + (p4 + p5)) (p3 + p4 + (p5 + p6)) (p4 + p5 + (p6 + p7)) (p5 + p6 + p7) (p6 + p7) p7 := by rw [hy, e1]; unfold cat8; omega
  have e3 : z = cat8 (p0 + p1 + (p2 + p3) + (p4 + p5 + (p6 + p7))) (p1 + p2 + (p3 + p4) + (p5 + p6 + p7)) (p2 + p3 + (p4 + p5) + (p6 + p7)) (p3 + p4 + (p5 + p6) + p7) (p4 + p5 + (p6 + p7)) (p5 + p6 + p7) (p6 + p7) p7 := by rw [hz, e2]; unfold cat8; omega
  rw [e1, e2, e3]
  unfold cat8
  omega
theorem swar_cat (b0 b1 b2 b3 b4 b5 b6 b7 : Nat) (h0 : b0 < 256) (h1 : b1 < 256) (h2 : b2 < 256) (h3 : b3 < 256) (h4 : b4 < 256) (h5 : b5 < 256) (h6 : b6 < 256) (h7 : b7 < 256) (x y1 y2 y3 y4 y5 y6 : Nat)
    (ex : x = cat8 b0 b1 b2 b3 b4 b5 b6 b7)
    (e1 : y1 = (x / 2 &&& 6148914691236517205) + (x &&& 6148914691236517205)) (e2 : y2 = (y1 / 4 &&& 3689348814741910323) + (y1 &&& 3689348814741910323))
    (e3 : y3 = (y2 / 16 + y2) &&& 1085102592571150095) (e4 : y4 = y3 + y3 / 256) (e5 : y5 = y4 + y4 / 65536) (e6 : y6 = y5 + y5 / 4294967296) :
    y6 % 128 = onesCount x ∧ y1 < 18446744073709551616 ∧ y2 < 18446744073709551616 ∧ y2 / 16 + y2 < 18446744073709551616 ∧ y4 < 18446744073709551616 ∧ y5 < 18446744073709551616 ∧ y6 < 18446744073709551616 := by
  obtain ⟨p0, q0, r0, s0, t0⟩ := g_fin ⟨b0, h0⟩
  obtain ⟨p1, q1, r1, s1, t1⟩ := g_fin ⟨b1, h1⟩
  obtain ⟨p2, q2, r2, s2, t2⟩ := g_fin ⟨b2, h2⟩
  obtain ⟨p3, q3, r3, s3, t3⟩ := g_fin ⟨b3, h3⟩
  obtain ⟨p4, q4, r4, s4, t4⟩ := g_fin ⟨b4, h4⟩
  obtain ⟨p5, q5, r5, s5, t5⟩ := g_fin ⟨b5, h5⟩
  obtain ⟨p6, q6, r6, s6, t6⟩ := g_fin ⟨b6, h6⟩
  obtain ⟨p7, q7, r7, s7, t7⟩ := g_fin ⟨b7, h7⟩
  have k1 : y1 = cat8 (g1 b0) (g1 b1) (g1 b2) (g1 b3) (g1 b4) (g1 b5) (g1 b6) (g1 b7) := by rw [e1, ex]; exact stage1 _ _ _ _ _ _ _ _ h0 h1 h2 h3 h4 h5 h6 h7
  have k2 : y2 = cat8 (g2 (g1 b0)) (g2 (g1 b1)) (g2 (g1 b2)) (g2 (g1 b3)) (g2 (g1 b4)) (g2 (g1 b5)) (g2 (g1 b6)) (g2 (g1 b7)) := by rw [e2, k1]; exact stage2 _ _ _ _ _ _ _ _ q0 q1 q2 q3 q4 q5 q6 q7
  have k3 : y3 = cat8 (g3 (g2 (g1 b0))) (g3 (g2 (g1 b1))) (g3 (g2 (g1 b2))) (g3 (g2 (g1 b3))) (g3 (g2 (g1 b4))) (g3 (g2 (g1 b5))) (g3 (g2 (g1 b6))) (g3 (g2 (g1 b7))) := by rw [e3, k2]; exact stage3 _ _ _ _ _ _ _ _ r0 r1 r2 r3 r4 r5 r6 r7 s1 s2 s3 s4 s5 s6 s7
  clear e1 e2 e3
  generalize g1 b0 = c0 at *
  generalize g1 b1 = c1 at *
  generalize g1 b2 = c2 at *
  generalize g1 b3 = c3 at *
  generalize g1 b4 = c4 at *
  generalize g1 b5 = c5 at *
  generalize g1 b6 = c6 at *
  generalize g1 b7 = c7 at *
  rw [p0, p1, p2, p3, p4, p5, p6, p7] at k3
  generalize g2 c0 = d0 at *
  generalize g2 c1 = d1 at *
  generalize g2 c2 = d2 at *
  generalize g2 c3 = d3 at *
  generalize g2 c4 = d4 at *
  generalize g2 c5 = d5 at *
  generalize g2 c6 = d6 at *
  generalize g2 c7 = d7 at *
  clear p0 p1 p2 p3 p4 p5 p6 p7
  have hp := pop_cat8 b0 b1 b2 b3 b4 b5 b6 b7 h0 h1 h2 h3 h4 h5 h6
  rw [← ex] at hp
  rw [hp]
  generalize popAux 8 b0 = u0 at *
  generalize popAux 8 b1 = u1 at *
  generalize popAux 8 b2 = u2 at *
  generalize popAux 8 b3 = u3 at *
  generalize popAux 8 b4 = u4 at *
  generalize popAux 8 b5 = u5 at *
  generalize popAux 8 b6 = u6 at *
  generalize popAux 8 b7 = u7 at *
  obtain ⟨f1, f2, f3, f4⟩ := stage4 u0 u1 u2 u3 u4 u5 u6 u7 t0 t1 t2 t3 t4 t5 t6 t7 y4 y5 y6 (by rw [e4, k3]) e5 e6
  clear e4 e5 e6 k3
  refine ⟨f1, ?_, ?_, ?_, f2, f3, f4⟩
  · rw [k1]; exact cat8_lt _ _ _ _ _ _ _ _ q0 q1 q2 q3 q4 q5 q6 q7
  · have hz := cat8_lt68 d0 d1 d2 d3 d4 d5 d6 d7 r0 r1 r2 r3 r4 r5 r6 r7
    rw [← k2] at hz
    exact lt63a hz
  · have hz := cat8_lt68 d0 d1 d2 d3 d4 d5 d6 d7 r0 r1 r2 r3 r4 r5 r6 r7
    rw [← k2] at hz
    exact lt63b hz
theorem swar (x : Nat) (hx : x < 18446744073709551616) (y1 y2 y3 y4 y5 y6 : Nat)
    (e1 : y1 = (x / 2 &&& 6148914691236517205) + (x &&& 6148914691236517205)) (e2 : y2 = (y1 / 4 &&& 3689348814741910323) + (y1 &&& 3689348814741910323))
    (e3 : y3 = (y2 / 16 + y2) &&& 1085102592571150095) (e4 : y4 = y3 + y3 / 256) (e5 : y5 = y4 + y4 / 65536) (e6 : y6 = y5 + y5 / 4294967296) :
    y6 % 128 = onesCount x ∧ y1 < 18446744073709551616 ∧ y2 < 18446744073709551616 ∧ y2 / 16 + y2 < 18446744073709551616 ∧ y4 < 18446744073709551616 ∧ y5 < 18446744073709551616 ∧ y6 < 18446744073709551616 := by
  obtain ⟨b0, b1, b2, b3, b4, b5, b6, b7, h0, h1, h2, h3, h4, h5, h6, h7, ex⟩ := cat8_of x hx
  exact swar_cat b0 b1 b2 b3 b4 b5 b6 b7 h0 h1 h2 h3 h4 h5 h6 h7 x y1 y2 y3 y4 y5 y6 ex e1 e2 e3 e4 e5 e6
end Go.Proofs.Ytelfalicickelaa.Kit
namespace Go.Proofs.Ytelfalicickelaa.P
open Go.RowKit Go.Proofs.YtelfalicickelaaW.PrintWords Go.Proofs.YtelfalicickelaaW.PrintLast Go.Proofs.YtelfalicickelaaW.PrintMore
open Go.Proofs.Ytelfalicickelaa.Kit
theorem u64w {x : Nat} (h : x < 18446744073709551616) : IntKind.u64.wrap (x : Int) = (x : Int) := by
  simp [IntKind.wrap, IntKind.bits, IntKind.signed]
  omega
theorem andu64 (x y : Nat) (hx : x < 18446744073709551616) (hy : y < 18446744073709551616) : Go.bits .and .u64 (x : Int) (y : Int) = ((x &&& y : Nat) : Int) := by
  have hw : ∀ n : Int, 0 ≤ n → n < 2 ^ 64 → IntKind.u64.wrap n = n := fun n h0 h1 => by
    obtain ⟨m, rfl⟩ := Int.eq_ofNat_of_zero_le h0
    exact u64w (by have : (m : Int) < 18446744073709551616 := by simpa using h1
                   omega)
  exact (bits_nat .u64 64 (by decide) hw x y (by simpa using hx) (by simpa using hy)).1
theorem ediv_lit (m x : Nat) (xi : Int) (h : xi = (x : Int)) : (m : Int) / xi = ((m / x : Nat) : Int) := by
  rw [h]
  exact (Int.natCast_ediv m x).symm
theorem fstep (x z s m : Nat) (si mi : Int) (hs : si = (s : Int)) (hm : mi = (m : Int)) (hx : x < 18446744073709551616) (hm64 : m < 18446744073709551616) (hz : (x / s &&& m) + (x &&& m) = z) (l : z < 18446744073709551616) :
    IntKind.u64.wrap ((Go.bits .and .u64 ((x : Int) / si) mi) + (Go.bits .and .u64 (x : Int) mi)) = (z : Int) := by
  rw [ediv_lit x s si hs, hm, andu64 _ _ (Nat.lt_of_le_of_lt (Nat.div_le_self x s) hx) hm64, andu64 _ _ hx hm64, ← Int.natCast_add, hz, u64w l]
theorem gstep (x z s : Nat) (si : Int) (hs : si = (s : Int)) (hz : x + x / s = z) (l : z < 18446744073709551616) :
    IntKind.u64.wrap ((x : Int) + (x : Int) / si) = (z : Int) := by
  rw [ediv_lit x s si hs, ← Int.natCast_add, hz, u64w l]
theorem gstep' (x z s : Nat) (si : Int) (hs : si = (s : Int)) (hz : x / s + x = z) (l : z < 18446744073709551616) :
    IntKind.u64.wrap ((x : Int) / si + (x : Int)) = (z : Int) := by
  rw [ediv_lit x s si hs, ← Int.natCast_add, hz, u64w l]
theorem and127 (z : Nat) : Go.bits .and .i64 (wrap64 (z : Int)) 127 = ((z % 128 : Nat) : Int) := by
  have ho : BitVec.ofInt 64 (wrap64 (z : Int)) = BitVec.ofNat 64 z := by
    apply BitVec.eq_of_toNat_eq
    rw [BitVec.toNat_ofInt, BitVec.toNat_ofNat]
    unfold wrap64
    simp only [Nat.reducePow]
    omega
  have h127 : (BitVec.ofInt 64 127).toNat = 127 := by decide
  show IntKind.i64.wrap ((BitVec.ofInt 64 (wrap64 (z : Int)) &&& BitVec.ofInt 64 127).toNat : Int) = _
  rw [BitVec.toNat_and, ho, h127, BitVec.toNat_ofNat]
  have ha : z % 2 ^ 64 &&& 127 = z % 128 := by
    have := Nat.and_two_pow_sub_one_eq_mod (z % 2 ^ 64) 7
    simp only [Nat.reducePow, Nat.reduceSub] at this ⊢
    rw [this]
    omega
  rw [ha, IntKind.wrap_i64]
  omega
theorem ones_formula (n : Nat) (hn : n < 18446744073709551616) (y1 y2 y3 y4 y5 y6 : Int)
    (e1 : y1 = IntKind.u64.wrap ((Go.bits .and .u64 ((n : Int) / 2) 6148914691236517205) + (Go.bits .and .u64 (n : Int) 6148914691236517205)))
    (e2 : y2 = IntKind.u64.wrap ((Go.bits .and .u64 (y1 / 4) 3689348814741910323) + (Go.bits .and .u64 y1 3689348814741910323)))
    (e3 : y3 = Go.bits .and .u64 (IntKind.u64.wrap (y2 / 16 + y2)) 1085102592571150095)
    (e4 : y4 = IntKind.u64.wrap (y3 + y3 / 256)) (e5 : y5 = IntKind.u64.wrap (y4 + y4 / 65536)) (e6 : y6 = IntKind.u64.wrap (y5 + y5 / 4294967296)) :
    Go.bits .and .i64 (wrap64 y6) 127 = (Lib.onesCount n : Int) := by
  obtain ⟨z1, h1⟩ : ∃ z, (n / 2 &&& 6148914691236517205) + (n &&& 6148914691236517205) = z := ⟨_, rfl⟩
  obtain ⟨z2, h2⟩ : ∃ z, (z1 / 4 &&& 3689348814741910323) + (z1 &&& 3689348814741910323) = z := ⟨_, rfl⟩
  obtain ⟨z3, h3⟩ : ∃ z, (z2 / 16 + z2) &&& 1085102592571150095 = z := ⟨_, rfl⟩
  obtain ⟨z4, h4⟩ : ∃ z, z3 + z3 / 256 = z := ⟨_, rfl⟩
  obtain ⟨z5, h5⟩ : ∃ z, z4 + z4 / 65536 = z := ⟨_, rfl⟩
  obtain ⟨z6, h6⟩ : ∃ z, z5 + z5 / 4294967296 = z := ⟨_, rfl⟩
  obtain ⟨s, l1, l2, l2', l4, l5, l6⟩ := swar n hn z1 z2 z3 z4 z5 z6 h1.symm h2.symm h3.symm h4.symm h5.symm h6.symm
  have d1 : y1 = (z1 : Int) := e1.trans (fstep n z1 2 6148914691236517205 2 6148914691236517205 rfl rfl hn (by decide) h1 l1)
  rw [d1] at e2
  have d2 : y2 = (z2 : Int) := e2.trans (fstep z1 z2 4 3689348814741910323 4 3689348814741910323 rfl rfl l1 (by decide) h2 l2)
  rw [d2, gstep' z2 _ 16 16 rfl rfl l2'] at e3
  have d3 : y3 = (z3 : Int) := by
    rw [e3, show (1085102592571150095 : Int) = ((1085102592571150095 : Nat) : Int) from rfl, andu64 _ _ l2' (by decide), h3]
  rw [d3] at e4
  have d4 : y4 = (z4 : Int) := e4.trans (gstep z3 z4 256 256 rfl h4 l4)
  rw [d4] at e5
  have d5 : y5 = (z5 : Int) := e5.trans (gstep z4 z5 65536 65536 rfl h5 l5)
  rw [d5] at e6
  have d6 : y6 = (z6 : Int) := e6.trans (gstep z5 z6 4294967296 4294967296 rfl h6 l6)
  rw [d6, and127, s]
theorem ones_le (n : Nat) : Lib.onesCount n ≤ 64 := by
  have : ∀ k x, Lib.popAux k x ≤ k := by
    intro k
    induction k with
    | zero => intro x; exact Nat.le_refl _
    | succ k ih => intro x; simp only [Lib.popAux]; have := ih (x / 2); omega
  exact this 64 n
def bits_OnesCount64.f (a0 : Int) : Option Int := if 0 ≤ a0 ∧ a0 ≤ 18446744073709551615 then some (Lib.onesCount a0.toNat : Int) else none
set_option maxHeartbeats 8000000 in
set_option maxRecDepth 100000 in
theorem bits_OnesCount64.calls (a0 : Int) (r : Int) (w : World) (h : bits_OnesCount64.f a0 = some r) :
    Calls Try.prog 99 #[.int .u64 a0] w fun e w' => e = .returned (.int .i64 r) ∧ Drawn0 w w' := by
  unfold bits_OnesCount64.f at h
  split at h
  case isFalse => cases h
  rename_i hb
  injection h with h
  have hf := ones_formula a0.toNat (by omega) _ _ _ _ _ _ rfl rfl rfl rfl rfl rfl
  rw [h, Int.toNat_of_nonneg hb.1] at hf
  have HF := Aside0.mk hf
  clear hf h hb
  go_enter Try.func99, Try.ntmps99
  go_wp2
  go_ret
  exact ⟨by have hz_ := HF.out; first | (subst hz_; rfl) | (rw [← hz_]; rfl) | (rw [← hz_]; simp), by repeat (first | exact Drawn0.refl _ | apply Drawn0.step)⟩
end Go.Proofs.Ytelfalicickelaa.P
