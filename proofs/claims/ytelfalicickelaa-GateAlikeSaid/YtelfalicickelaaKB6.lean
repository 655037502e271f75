/- Texts of this claim, merged by a program (shake.py): what the last theorems reach of QApart, QAlk1, QAlk2. -/
import Derived.Deep.RegionHeld3
import Derived.Test.YtelfalicickelaaKB5
import Derived.Test.YtelfalicickelaaKB1
import Derived.Test.YtelfalicickelaaKB3
import Derived.Test.YtelfalicickelaaKB4
namespace Go.Proofs.Ytelfalicickelaa.P
open Go.RowKit Go.Proofs.YtelfalicickelaaW.PrintWords Go.Proofs.YtelfalicickelaaW.PrintLast Go.Proofs.YtelfalicickelaaW.PrintMore
attribute [local go_sem] max2_int max_two
set_option linter.unusedVariables false
set_option linter.unusedSimpArgs false
mutual
def gate_ApartT.l0 : Nat → List Int → List Int → List Int → List Int → Int → Int → Option (List Int × Int)
  | 0, _, _, _, _, _, _ => none
  | k + 1, x5, x6, x7, x30, x31, x32 => if x32 < x31 then (if 0 ≤ x32 then (if x32 < (x30.length : Int) then (gate_ApartT.l1 k x5 x6 x7 x32 (rd x30 x32) x30 x31 x32 x5 (x5.length : Int) 0) else (none)) else (none)) else ((gate_graph_most.f k x7 (IntKind.u64.wrap ((shl .u64 1 (x5.length : Int)) - 1))).bind fun t123 => (gate_ApartT.l2 k x6 x7 (IntKind.u64.wrap ((shl .u64 1 (x5.length : Int)) - 1)) ([] : List Int) t123))
def gate_ApartT.l1 : Nat → List Int → List Int → List Int → Int → Int → List Int → Int → Int → List Int → Int → Int → Option (List Int × Int)
  | 0, _, _, _, _, _, _, _, _, _, _, _ => none
  | k + 1, x5, x6, x7, x8, x9, x30, x31, x32, x37, x38, x39 => if x39 < x38 then (if 0 ≤ x39 then (if x39 < (x37.length : Int) then (if x8 = x39 then (gate_ApartT.l1 k x5 x6 x7 x8 x9 x30 x31 x32 x37 x38 (wrap64 (x39 + 1))) else (if (Go.bits .and .u64 x9 (rd x37 x39)) = 0 then (gate_ApartT.l1 k x5 x6 x7 x8 x9 x30 x31 x32 x37 x38 (wrap64 (x39 + 1))) else (if 0 ≤ x8 then (if x8 < (x7.length : Int) then (gate_ApartT.l1 k x5 x6 (x7.set (x8 : Int).toNat (Go.bits .or .u64 (rd x7 x8) (shl .u64 1 x39))) x8 x9 x30 x31 x32 x37 x38 (wrap64 (x39 + 1))) else (none)) else (none)))) else (none)) else (none)) else (gate_ApartT.l0 k x5 x6 x7 x30 x31 (wrap64 (x32 + 1)))
def gate_ApartT.l2 : Nat → List Int → List Int → Int → List Int → Int → Option (List Int × Int)
  | 0, _, _, _, _, _ => none
  | k + 1, x6, x7, x12, x13, x14 => if x14 > 0 then ((gate_members.f k x12).bind fun t124 => (gate_ApartT.l3 k x6 x7 x12 x13 x14 t124 (t124.length : Int) 0)) else (some (x13, 0))
def gate_ApartT.l3 : Nat → List Int → List Int → Int → List Int → Int → List Int → Int → Int → Option (List Int × Int)
  | 0, _, _, _, _, _, _, _, _ => none
  | k + 1, x6, x7, x12, x13, x14, x75, x76, x77 => if x77 < x76 then (if 0 ≤ x77 then (if x77 < (x75.length : Int) then (if 0 ≤ (rd x75 x77) then (if (rd x75 x77) < (x7.length : Int) then ((gate_graph_most.f k x7 (Go.bits .andNot .u64 (Go.bits .andNot .u64 x12 (shl .u64 1 (rd x75 x77))) (rd x7 (rd x75 x77)))).bind fun t129 => (if t129 = (wrap64 (x14 - 1)) then (if (rd x75 x77) < (x6.length : Int) then (if x13.length < 17592186044416 then (gate_ApartT.l2 k x6 x7 (Go.bits .andNot .u64 (Go.bits .andNot .u64 x12 (shl .u64 1 (rd x75 x77))) (rd x7 (rd x75 x77))) (x13 ++ [rd x6 (rd x75 x77)]) (wrap64 (x14 - 1))) else (none)) else (none)) else (gate_ApartT.l3 k x6 x7 (Go.bits .andNot .u64 x12 (shl .u64 1 (rd x75 x77))) x13 x14 x75 x76 (wrap64 (x77 + 1))))) else (none)) else (none)) else (none)) else (none)) else (gate_ApartT.l2 k x6 x7 x12 x13 (wrap64 (x14 - 1)))
end
def gate_ApartT.f (k : Nat) (l0 : List Int) (l1 : List Int) : Option (List Int × Int) := if 0 ≤ (l0.length : Int) then (if ((l0.length : Int) : Int).toNat ≤ 35184372088832 then (gate_ApartT.l0 k l0 l1 (List.replicate ((l0.length : Int) : Int).toNat 0) l0 (l0.length : Int) 0) else (none)) else (none)
def gate_ApartT.T13 : Bool × List (List Nat × List Nat) := (true, [([], []), ([], []), ([0, 1], [0, 1]), ([2], [2]), ([], []), ([4], [4]), ([3, 5], [3, 5]), ([0, 1, 0, 1, 2, 3, 4, 5, 6], [0, 1]), ([7, 6, 0, 1, 2, 3, 4, 5, 6], [6, 7])])
def gate_ApartT.B13 : List Nat := [0, 0, 3, 7, 0, 16, 63, 127, 255]
theorem gate_ApartT.tab13 : rtab .any (opsOf Try.f23 13) = gate_ApartT.T13 := by kernel_rfl
theorem gate_ApartT.bits13 : waitsOk gate_ApartT.T13.2 gate_ApartT.B13 = true := by kernel_rfl
set_option maxHeartbeats 8000000 in
set_option maxRecDepth 100000 in
theorem apart_ok (k : Nat) (N : Nat) (A8 : Option Addr) (c8 : Nat) (l8 : List S40) (A9 : Option Addr) (c9 : Nat) (l9 : List Int) (r1 : List Int) (r2 : Int) (w0 : World) (hr8 : Kd.C k40 w0 A8 l8.length l8) (hc8 : l8.length ≤ c8) (hr9 : Kd.C (Kd.int .i64) w0 A9 l9.length l9) (hc9 : l9.length ≤ c9) (hok : okC (N : Int) l8 l9 = true) (h : gate_ApartT.f k (nI (shownW (toC N l8 l9))) (nI (shownF (toC N l8 l9))) = some (r1, r2)) :
    Calls Try.prog 23 #[.agg #[.int .i64 (N : Int), .slice A8 l8.length c8, .slice A9 l9.length c9]] w0 fun e w' => ∃ v0_ : Value, e = .returned (.tuple #[v0_, .int .i64 r2]) ∧ Kd.R (Kd.int .i64) 3 w' w0.heap.size (fun _ => True) v0_ r1 ∧ Below w0.heap.size w0 w' := by
  have HBI := Aside0.mk (Below.refl w0.heap.size w0)
  have HOf := Aside0.mk (fun W (hb : Below w0.heap.size w0 W) => of_ok N l8 l9 A8 c8 A9 c9 W hok (Kd.C_below hr8 hb) hc8 (Kd.C_below hr9 hb) hc9)
  have HSh := Aside0.mk (fun {W : World} {g : Nat} (hC : CircAt W g N l8 l9) => shown_calls hok hC)
  clear hok hr8 hc8 hr9 hc9
  generalize nI (shownW (toC N l8 l9)) = l0 at *
  generalize nI (shownF (toC N l8 l9)) = l1 at *
  have H : (if 0 ≤ (l0.length : Int) then (if ((l0.length : Int) : Int).toNat ≤ 35184372088832 then (gate_ApartT.l0 k l0 l1 (List.replicate ((l0.length : Int) : Int).toNat 0) l0 (l0.length : Int) 0) else (none)) else (none)) = some (r1, r2) := h
  clear h
  by_cases c3 : 0 ≤ (l0.length : Int)
  · rw [if_pos c3] at H
    have c3b0 := eq_true c3
    have c3b1 : decide (0 ≤ (l0.length : Int)) = true := decide_eq_true c3
    clear c3
    by_cases c4 : ((l0.length : Int) : Int).toNat ≤ 35184372088832
    · rw [if_pos c4] at H
      have c4b0 := eq_true c4
      have c4b1 : decide (((l0.length : Int) : Int).toNat ≤ 35184372088832) = true := decide_eq_true c4
      clear c4
      obtain ⟨y116, hy116⟩ : ∃ y_ : List Int, y_ = (List.replicate ((l0.length : Int) : Int).toNat 0) := ⟨_, rfl⟩
      replace H : (gate_ApartT.l0 k l0 l1 y116 l0 (l0.length : Int) 0) = some (r1, r2) := by first | (rw [hy116]; with_reducible exact H) | (have H2_ := (Option.bind_some _ _).symm.trans H; rw [hy116]; with_reducible exact H2_) | (have H2_ := (Option.bind_some _ _).symm.trans H; with_reducible exact H2_) | with_reducible exact H | (rw [hy116]; exact H) | exact H
      have Ny116 := Aside0.mk hy116
      clear hy116
      have H' := Aside0.mk H
      clear H
      go_enter Try.func23, Try.ntmps23
      go_wp2_with (first | (go_at_call 54; (with_reducible refine (HOf.out _ (below_alloc HBI.out _)).mono ?_); rintro e wO ⟨g, rfl, hC, hb⟩; have HCO := Aside0.mk hC; have HBO := Aside0.mk (below_step (below_alloc HBI.out _) hb); clear hC hb) | (go_at_call 60; (with_reducible refine (HSh.out HCO.out).mono ?_); rintro e w ⟨v5, v6, rfl, hR, hR1, ⟨A1, c1, e6⟩, hb⟩; subst e6; obtain ⟨A0, c0, rfl⟩ := Kd.R_slice hR; have HR0 := Aside0.mk (Kd.R_reads' hR).2.2; have HC0 := Aside0.mk (Kd.R_reads' hR).2.1; have HR1 := Aside0.mk hR1; have HBW := Aside0.mk (HBO.out.trans (hb.mono HBO.out.size)); have HB := Aside0.mk (Below.refl w.heap.size w); clear hR hR1 hb) | ((with_reducible refine gate_dst (N := 29) rfl ?_); refine Kd.R_make (Kd.int .u64) _ 74 rfl (N := 29) rfl 86 _ _ rfl (l0.length : Int) rfl rfl Try.underlying86 (.int .u64 0) 8 info74 rfl (by decide) (by omega) 0 (ok := fun _ => True) (okp := fun _ => True) rfl (fun _ hk => hk) trivial (of_decide_eq_true (by first | (with_reducible assumption) | assumption)) (Nat.le_trans (Nat.mul_le_mul_right _ (of_decide_eq_true (by first | (with_reducible assumption) | assumption) : (l0.length : Int).toNat ≤ 35184372088832)) (by omega)) (Below.refl _ _) (Nat.le_refl _) ?_; intro v117 w5 ho6 hb hg_ hnew_; clear hg_ hnew_; (first | rw [← Ny116.out] at ho6 | (simp only [Int.reduceToNat] at ho6; rw [← Ny116.out] at ho6)); have n0_ := Aside0.mk (Kd.R_lower ho6 (below_size (by repeat (first | (with_reducible first | exact HB.out | apply below_alloc | apply pw_below_drewN | apply below_drew1) | exact HB.out)))); have n1_ := Aside0.mk (below_step (by repeat (first | (with_reducible first | exact HB.out | apply below_alloc | apply pw_below_drewN | apply below_drew1) | exact HB.out)) hb); clear HB; have HO118 := n0_; have HB := n1_; clear n0_ n1_; clear hb ho6))
      go_loopg [32] k (fun kq v32 w' => ∃ (x7_1 : List Int) (x32_1 : Int), v32 = .int .i64 x32_1 ∧ Aside0 (gate_ApartT.l0 kq l0 l1 x7_1 l0 (l0.length : Int) x32_1 = some (r1, r2)) ∧ Aside0 (kq ≤ k) ∧ Aside0 (Kd.R (Kd.int .u64) 74 w' w.heap.size (fun _ => True) v117 x7_1) ∧ Aside0 (Below w.heap.size w w'))
      case atStart => exact ⟨(y116), (0), (by first | rfl | (simp; done) | (simp [*]; done)), H', ⟨Nat.le_refl _⟩, ⟨by (with_reducible repeat (first | apply Kd.R_alloc | apply Kd.R_drewN | apply Kd.R_drew)); first | exact HO118.out | exact Kd.R_mono HO118.out (fun k_ h_ => ne_own_len h_)⟩, ⟨by repeat (first | (with_reducible first | exact HB.out | apply below_alloc | apply pw_below_drewN | apply below_drew1) | exact HB.out)⟩⟩
      case round =>
        clear H'
        try clear c1
        try clear c2
        try clear p2
        try clear c3
        try clear c3b0
        try clear c3b1
        try clear c4
        try clear c4b0
        try clear c4b1
        obtain ⟨x7_1, x32_1, rfl, HA, HK1, HO_7, HB⟩ := hrel
        cases gk with
        | zero => exact absurd HA.out (by simp [gate_ApartT.l0])
        | succ k1 =>
          have H := HA.out
          clear HA
          simp only [gate_ApartT.l0] at H
          by_cases c7 : x32_1 < (l0.length : Int)
          · rw [if_pos c7] at H
            have c7b0 : decide (x32_1 < (l0.length : Int)) = true := decide_eq_true c7
            clear c7
            by_cases c8 : 0 ≤ x32_1
            · rw [if_pos c8] at H
              have c8b0 : decide (0 ≤ x32_1) = true := decide_eq_true c8
              clear c8
              by_cases c9 : x32_1 < (l0.length : Int)
              · rw [if_pos c9] at H
                have c9b0 : decide (x32_1 < (l0.length : Int)) = true := decide_eq_true c9
                clear c9
                have H' := Aside0.mk H
                clear H
                have p119 : 0 ≤ (x32_1 : Int) := of_decide_eq_true (by first | (with_reducible assumption) | assumption)
                have q119 : x32_1 < (l0.length : Int) := of_decide_eq_true (by first | (with_reducible assumption) | assumption)
                obtain ⟨ad119, e119, hx119_0⟩ := Kd.at_int HR0.out x32_1 p119 q119
                cases e119
                replace hx119_0 := (HB.out.cell (World.block_lt_of_cell? w _ hx119_0)).trans hx119_0
                replace p119 := eq_true p119
                replace q119 := eq_true q119
                go_wp2
                go_loopg [39] k1 (fun kq v39 w' => ∃ (x7_2 : List Int) (x39_2 : Int), v39 = .int .i64 x39_2 ∧ Aside0 (gate_ApartT.l1 kq l0 l1 x7_2 x32_1 (rd l0 x32_1) l0 (l0.length : Int) x32_1 l0 (l0.length : Int) x39_2 = some (r1, r2)) ∧ Aside0 (kq ≤ k1) ∧ Aside0 (Kd.R (Kd.int .u64) 74 w' w.heap.size (fun _ => True) v117 x7_2) ∧ Aside0 (Below w.heap.size w w'))
                case atStart => exact ⟨(x7_1), (0), (by first | rfl | (simp; done) | (simp [*]; done)), H', ⟨Nat.le_refl _⟩, ⟨by (with_reducible repeat (first | apply Kd.R_alloc | apply Kd.R_drewN | apply Kd.R_drew)); first | exact HO_7.out | exact Kd.R_mono HO_7.out (fun k_ h_ => ne_own_len h_)⟩, ⟨by repeat (first | (with_reducible first | exact HB.out | apply below_alloc | apply pw_below_drewN | apply below_drew1) | exact HB.out)⟩⟩
                case round =>
                  clear H'
                  try clear c1
                  try clear p1
                  try clear q1
                  try clear hx1
                  try clear c2
                  try clear p2
                  try clear c3
                  try clear c3b0
                  try clear c3b1
                  try clear c4
                  try clear c4b0
                  try clear c4b1
                  try clear c7
                  try clear c7b0
                  try clear c8
                  try clear c8b0
                  try clear c9
                  try clear c9b0
                  try clear hx119_0
                  try clear p119
                  try clear p2
                  try clear q119
                  obtain ⟨x7_2, x39_2, rfl, HA, HK2, HO_7, HB⟩ := hrel
                  cases gk with
                  | zero => exact absurd HA.out (by simp [gate_ApartT.l1])
                  | succ k2 =>
                    have H := HA.out
                    clear HA
                    simp only [gate_ApartT.l1] at H
                    by_cases c10 : x39_2 < (l0.length : Int)
                    · rw [if_pos c10] at H
                      have c10b0 : decide (x39_2 < (l0.length : Int)) = true := decide_eq_true c10
                      clear c10
                      by_cases c11 : 0 ≤ x39_2
                      · rw [if_pos c11] at H
                        have c11b0 : decide (0 ≤ x39_2) = true := decide_eq_true c11
                        clear c11
                        by_cases c12 : x39_2 < (l0.length : Int)
                        · rw [if_pos c12] at H
                          have c12b0 : decide (x39_2 < (l0.length : Int)) = true := decide_eq_true c12
                          clear c12
                          by_cases c13 : x32_1 = x39_2
                          · rw [if_pos c13] at H
                            have c13b0 : (x32_1 == x39_2) = true := beq_iff_eq.mpr c13
                            have c13b1 : (x32_1 != x39_2) = false := bne_eq_false_iff_eq.mpr c13
                            clear c13
                            have H' := Aside0.mk H
                            clear H
                            have p120 : 0 ≤ (x39_2 : Int) := of_decide_eq_true (by first | (with_reducible assumption) | assumption)
                            have q120 : x39_2 < (l0.length : Int) := of_decide_eq_true (by first | (with_reducible assumption) | assumption)
                            obtain ⟨ad120, e120, hx120_0⟩ := Kd.at_int HR0.out x39_2 p120 q120
                            obtain rfl : ad119 = ad120 := (by injection e120)
                            replace hx120_0 := (HB.out.cell (World.block_lt_of_cell? w _ hx120_0)).trans hx120_0
                            replace p120 := eq_true p120
                            replace q120 := eq_true q120
                            go_wp2
                            go_roundg k2
                            case measure => have := HK1.out; have := HK2.out; omega
                            case rel => exact ⟨(x7_2), (wrap64 (x39_2 + 1)), (by first | rfl | (simp; done) | (simp [*]; done)), H', ⟨by have := HK1.out; have := HK2.out; omega⟩, ⟨by (with_reducible repeat (first | apply Kd.R_alloc | apply Kd.R_drewN | apply Kd.R_drew)); first | exact HO_7.out | exact Kd.R_mono HO_7.out (fun k_ h_ => ne_own_len h_)⟩, ⟨by repeat (first | (with_reducible first | exact HB.out | apply below_alloc | apply pw_below_drewN | apply below_drew1) | exact HB.out)⟩⟩
                          · rw [if_neg c13] at H
                            have c13b0 : (x32_1 == x39_2) = false := beq_eq_false_iff_ne.mpr c13
                            have c13b1 : (x32_1 != x39_2) = true := bne_iff_ne.mpr c13
                            by_cases c14 : (Go.bits .and .u64 (rd l0 x32_1) (rd l0 x39_2)) = 0
                            · rw [if_pos c14] at H
                              have c14b0 : ((Go.bits .and .u64 (rd l0 x32_1) (rd l0 x39_2)) == 0) = true := beq_iff_eq.mpr c14
                              have c14b1 : ((Go.bits .and .u64 (rd l0 x32_1) (rd l0 x39_2)) != 0) = false := bne_eq_false_iff_eq.mpr c14
                              clear c14
                              have H' := Aside0.mk H
                              clear H
                              have p120 : 0 ≤ (x39_2 : Int) := of_decide_eq_true (by first | (with_reducible assumption) | assumption)
                              have q120 : x39_2 < (l0.length : Int) := of_decide_eq_true (by first | (with_reducible assumption) | assumption)
                              obtain ⟨ad120, e120, hx120_0⟩ := Kd.at_int HR0.out x39_2 p120 q120
                              obtain rfl : ad119 = ad120 := (by injection e120)
                              replace hx120_0 := (HB.out.cell (World.block_lt_of_cell? w _ hx120_0)).trans hx120_0
                              replace p120 := eq_true p120
                              replace q120 := eq_true q120
                              go_wp2
                              go_roundg k2
                              case measure => have := HK1.out; have := HK2.out; omega
                              case rel => exact ⟨(x7_2), (wrap64 (x39_2 + 1)), (by first | rfl | (simp; done) | (simp [*]; done)), H', ⟨by have := HK1.out; have := HK2.out; omega⟩, ⟨by (with_reducible repeat (first | apply Kd.R_alloc | apply Kd.R_drewN | apply Kd.R_drew)); first | exact HO_7.out | exact Kd.R_mono HO_7.out (fun k_ h_ => ne_own_len h_)⟩, ⟨by repeat (first | (with_reducible first | exact HB.out | apply below_alloc | apply pw_below_drewN | apply below_drew1) | exact HB.out)⟩⟩
                            · rw [if_neg c14] at H
                              have c14b0 : ((Go.bits .and .u64 (rd l0 x32_1) (rd l0 x39_2)) == 0) = false := beq_eq_false_iff_ne.mpr c14
                              have c14b1 : ((Go.bits .and .u64 (rd l0 x32_1) (rd l0 x39_2)) != 0) = true := bne_iff_ne.mpr c14
                              by_cases c15 : 0 ≤ x32_1
                              · rw [if_pos c15] at H
                                have c15b0 : decide (0 ≤ x32_1) = true := decide_eq_true c15
                                clear c15
                                by_cases c16 : x32_1 < (x7_2.length : Int)
                                · rw [if_pos c16] at H
                                  have c16b0 : decide (x32_1 < (x7_2.length : Int)) = true := decide_eq_true c16
                                  clear c16
                                  have c17b0 := eq_true (of_decide_eq_true (by first | (with_reducible assumption) | assumption) : 0 ≤ x39_2)
                                  obtain ⟨ji18, hji18⟩ : ∃ j_ : Int, (shl .u64 1 x39_2) = j_ := ⟨_, rfl⟩
                                  replace H : (gate_ApartT.l1 k2 l0 l1 (x7_2.set (x32_1 : Int).toNat (Go.bits .or .u64 (rd x7_2 x32_1) (ji18))) x32_1 (rd l0 x32_1) l0 (l0.length : Int) x32_1 l0 (l0.length : Int) (wrap64 (x39_2 + 1))) = some (r1, r2) := by first | (rw [hji18] at H; exact H) | (simp only [hji18] at H ⊢; exact H)
                                  have hji18_ : (IntKind.u64.wrap (1 * 2 ^ min x39_2.toNat 64)) = ji18 := hji18
                                  have hji18z : x39_2 ≤ 64 → (IntKind.u64.wrap (1 * 2 ^ x39_2.toNat)) = ji18 := shl_small hji18
                                  have hji18u : (IntKind.u64.wrap (2 ^ min x39_2.toNat 64)) = ji18 := by have h_ := hji18_; rw [Int.one_mul] at h_; exact h_
                                  have hji18v : x39_2 ≤ 64 → (IntKind.u64.wrap (2 ^ x39_2.toNat)) = ji18 := fun hle_ => by have h_ := hji18z hle_; rw [Int.one_mul] at h_; exact h_
                                  obtain ⟨y122, hy122⟩ : ∃ y_ : List Int, y_ = (x7_2.set (x32_1 : Int).toNat (Go.bits .or .u64 (rd x7_2 x32_1) (ji18))) := ⟨_, rfl⟩
                                  replace H : (gate_ApartT.l1 k2 l0 l1 y122 x32_1 (rd l0 x32_1) l0 (l0.length : Int) x32_1 l0 (l0.length : Int) (wrap64 (x39_2 + 1))) = some (r1, r2) := by first | (rw [hy122]; with_reducible exact H) | (have H2_ := (Option.bind_some _ _).symm.trans H; rw [hy122]; with_reducible exact H2_) | (have H2_ := (Option.bind_some _ _).symm.trans H; with_reducible exact H2_) | with_reducible exact H | (rw [hy122]; exact H) | exact H
                                  have Ny122 := Aside0.mk hy122
                                  clear hy122
                                  have H' := Aside0.mk H
                                  clear H
                                  have p120 : 0 ≤ (x39_2 : Int) := of_decide_eq_true (by first | (with_reducible assumption) | assumption)
                                  have q120 : x39_2 < (l0.length : Int) := of_decide_eq_true (by first | (with_reducible assumption) | assumption)
                                  obtain ⟨ad120, e120, hx120_0⟩ := Kd.at_int HR0.out x39_2 p120 q120
                                  obtain rfl : ad119 = ad120 := (by injection e120)
                                  replace hx120_0 := (HB.out.cell (World.block_lt_of_cell? w _ hx120_0)).trans hx120_0
                                  replace p120 := eq_true p120
                                  replace q120 := eq_true q120
                                  try go_wp2
                                  have n0_ := Aside0.mk (Kd.R_drew HO_7.out)
                                  have n1_ := Aside0.mk (below_drew1 HB.out)
                                  clear HO_7
                                  clear HB
                                  have HO_7 := n0_
                                  have HB := n1_
                                  clear n0_ n1_
                                  obtain ⟨Ao21, co21, eo21⟩ := Kd.R_slice HO_7.out
                                  (first | subst eo21 | (injection eo21 with f1_ f2_ f3_; have f4_ := f1_.symm; have f5_ := f3_.symm; clear f1_ f2_ f3_; subst f4_; subst f5_))
                                  have p121 : 0 ≤ (x32_1 : Int) := of_decide_eq_true (by first | (with_reducible assumption) | assumption)
                                  have q121 : x32_1 < (x7_2.length : Int) := of_decide_eq_true (by first | (with_reducible assumption) | assumption)
                                  (try (obtain ⟨Aom_, com_, eom_⟩ := Kd.R_slice HO_7.out; subst eom_))
                                  obtain ⟨ad121, e121, hx121_0⟩ := Kd.at_int (Kd.R_reads' HO_7.out).2.2 x32_1 p121 q121
                                  cases e121
                                  replace p121 := eq_true p121
                                  replace q121 := eq_true q121
                                  have p19 : 0 ≤ (x32_1 : Int) := of_decide_eq_true (by first | (with_reducible assumption) | assumption)
                                  have q19 : (x32_1 : Int) < ((x7_2.length : Int) : Int) := of_decide_eq_true (by first | (with_reducible assumption) | assumption)
                                  obtain ⟨go19, co19, eo19, gb19, gl19, cl19, HG19⟩ := Kd.R_form HO_7.out (by omega)
                                  (first | cases eo19 | (injection eo19 with ea_ en_ ec_; (first | subst ea_ | (injection ea_ with ea_; subst ea_)); subst ec_; clear en_))
                                  have GB19 := Aside0.mk gb19
                                  have GG19 := Aside0.mk HG19
                                  clear gb19 gl19 HG19
                                  (first | simp only [add_plain] at hx121_0 | skip)
                                  obtain ⟨hx19_0, hf19_0⟩ := Kd.R_celln 0 HO_7.out (x32_1 : Int) p19 q19
                                  replace p19 := eq_true p19
                                  replace q19 := eq_true q19
                                  have HP22 := Kd.R_putn HO_7.out (x32_1 : Int) (Go.bits .or .u64 (rd x7_2 x32_1) (ji18))
                                  rw [← Ny122.out] at HP22
                                  have HQ22 := Aside0.mk HP22
                                  clear HP22
                                  refine start_ (n := 9) (S := fun w' => w'.cell? ⟨go19, (x32_1).toNat, none⟩ = some (.int .u64 (rd x7_2 x32_1))) (ds := [8]) #[false, false, false, false, false, false, false, false, false] (by kernel_rfl) rfl rfl (hx121_0) (fun hHeld => ?_); refine with_tabW gate_ApartT.tab13 gate_ApartT.bits13 (fun HT_ HW_ => ?_)
                                  generalize wr.drew = w20 at HO_7 HB GG19 HQ22 hf19_0 hx121_0 hx19_0 hHeld ⊢
                                  refine pure_ (i := 0) (N := some 53) (v := ?_) (a' := ?_) #[true, false, false, false, false, false, false, false, false] rfl rfl (any_of HT_.out (by kernel_rfl)) (fun _ _ _ h => h) (Or.inl ⟨by rfl, ?_⟩) ?_ ?_
                                  rotate_left
                                  · intro w'
                                    go_simp
                                    with_reducible rfl
                                  rotate_left
                                  · simp only [Act.put, List.setIfInBounds_toArray, List.set_cons_zero, List.set_cons_succ, i64_w, i32_w]
                                    rfl
                                  refine pure_ (i := 1) (N := some 54) (v := ?_) (a' := ?_) #[true, true, false, false, false, false, false, false, false] rfl rfl (any_of HT_.out (by kernel_rfl)) (fun _ _ _ h => h) (Or.inl ⟨by rfl, ?_⟩) ?_ ?_
                                  rotate_left
                                  · intro w'
                                    go_simp
                                    with_reducible rfl
                                  rotate_left
                                  · simp only [Act.put, List.setIfInBounds_toArray, List.set_cons_zero, List.set_cons_succ, i64_w, i32_w]
                                    rfl
                                  refine pure_ (i := 2) (N := some 55) (v := ?_) (a' := ?_) #[true, true, true, false, false, false, false, false, false] rfl rfl (any_of HT_.out (by kernel_rfl)) (fun _ _ _ h => h) (Or.inl ⟨by rfl, ?_⟩) ?_ ?_
                                  rotate_left
                                  · intro w'
                                    go_simp
                                    with_reducible rfl
                                  rotate_left
                                  · simp only [Act.put, List.setIfInBounds_toArray, List.set_cons_zero, List.set_cons_succ, i64_w, i32_w]
                                    rfl
                                  refine pure_ (i := 4) (N := some 57) (v := ?_) (a' := ?_) #[true, true, true, false, true, false, false, false, false] rfl rfl (any_of HT_.out (by kernel_rfl)) (fun _ _ _ h => h) (Or.inl ⟨by rfl, ?_⟩) ?_ ?_
                                  rotate_left
                                  · intro w'
                                    go_simp
                                    with_reducible rfl
                                  rotate_left
                                  · simp only [Act.put, List.setIfInBounds_toArray, List.set_cons_zero, List.set_cons_succ, i64_w, i32_w]
                                    rfl
                                  refine pure_ (i := 5) (N := some 58) (v := ?_) (a' := ?_) #[true, true, true, false, true, true, false, false, false] rfl rfl (any_of HT_.out (by kernel_rfl)) (fun _ _ _ h => h) (Or.inl ⟨by rfl, ?_⟩) ?_ ?_
                                  rotate_left
                                  · intro w'
                                    go_simp
                                    with_reducible rfl
                                  rotate_left
                                  · simp only [Act.put, List.setIfInBounds_toArray, List.set_cons_zero, List.set_cons_succ, i64_w, i32_w]
                                    rfl
                                  refine take_ (i := 3) (N := some 56) (v := ?_) (a' := ?_) #[true, true, true, true, true, true, false, false, false] rfl rfl (take_ofW HT_.out HW_.out (by kernel_rfl)) (fun _ _ _ h => h) (Or.inl ⟨by rfl, ?_⟩) hHeld ?_ ?_
                                  rotate_left
                                  · intro w' s0
                                    go_simp
                                    with_reducible rfl
                                  rotate_left
                                  · simp only [Act.put, List.setIfInBounds_toArray, List.set_cons_zero, List.set_cons_succ, i64_w, i32_w]
                                    rfl
                                  refine pure_ (i := 6) (N := some 59) (v := ?_) (a' := ?_) #[true, true, true, true, true, true, true, false, false] rfl rfl (any_of HT_.out (by kernel_rfl)) (fun _ _ _ h => h) (Or.inl ⟨by rfl, ?_⟩) ?_ ?_
                                  rotate_left
                                  · intro w'
                                    go_simp
                                    with_reducible rfl
                                  rotate_left
                                  · simp only [Act.put, List.setIfInBounds_toArray, List.set_cons_zero, List.set_cons_succ, i64_w, i32_w]
                                    rfl
                                  refine pure_ (i := 7) (N := some 60) (v := ?_) (a' := ?_) #[true, true, true, true, true, true, true, true, false] rfl rfl (any_of HT_.out (by kernel_rfl)) (fun _ _ _ h => h) (Or.inl ⟨by rfl, ?_⟩) ?_ ?_
                                  rotate_left
                                  · intro w'
                                    go_simp
                                    with_reducible rfl
                                  rotate_left
                                  · simp only [Act.put, List.setIfInBounds_toArray, List.set_cons_zero, List.set_cons_succ, i64_w, i32_w]
                                    rfl
                                  refine last_ (i := 8) (N := none) #[true, true, true, true, true, true, true, true, true] rfl rfl (one_of HT_.out (by kernel_rfl)) (by decide) (fun K hK => ?_)
                                  refine skip_ (w1 := ?_) (by rfl) rfl ?_ ?_
                                  rotate_left
                                  · go_simp
                                    rfl
                                  refine hK.out _ _ ?_
                                  clear hK K
                                  refine done_ (done_of HT_.out (by kernel_rfl)) ?_
                                  try go_wp2
                                  go_roundg k2
                                  case measure => have := HK1.out; have := HK2.out; omega
                                  case rel => exact ⟨(y122), (wrap64 (x39_2 + 1)), (by first | rfl | (simp; done) | (simp [*]; done)), H', ⟨by have := HK1.out; have := HK2.out; omega⟩, ⟨by (with_reducible repeat (first | apply Kd.R_alloc | apply Kd.R_drewN | apply Kd.R_drew)); exact HQ22.out⟩, ⟨by repeat (first | (with_reducible first | exact HB.out | apply below_alloc | apply pw_below_drewN | apply below_drew1 | refine below_set ?_ GB19.out) | exact HB.out)⟩⟩
                                · rw [if_neg c16] at H
                                  exact absurd H (by simp)
                              · rw [if_neg c15] at H
                                exact absurd H (by simp)
                        · rw [if_neg c12] at H
                          exact absurd H (by simp)
                      · rw [if_neg c11] at H
                        exact absurd H (by simp)
                    · rw [if_neg c10] at H
                      have c10b0 : decide (x39_2 < (l0.length : Int)) = false := decide_eq_false c10
                      clear c10
                      have H' := Aside0.mk H
                      clear H
                      go_wp2
                      go_roundg k2
                      case measure => have := HK1.out; have := HK2.out; omega
                      case rel => exact ⟨(x7_2), (wrap64 (x32_1 + 1)), (by first | rfl | (simp; done) | (simp [*]; done)), H', ⟨by have := HK1.out; have := HK2.out; omega⟩, ⟨by (with_reducible repeat (first | apply Kd.R_alloc | apply Kd.R_drewN | apply Kd.R_drew)); first | exact HO_7.out | exact Kd.R_mono HO_7.out (fun k_ h_ => ne_own_len h_)⟩, ⟨by repeat (first | (with_reducible first | exact HB.out | apply below_alloc | apply pw_below_drewN | apply below_drew1) | exact HB.out)⟩⟩
              · rw [if_neg c9] at H
                exact absurd H (by simp)
            · rw [if_neg c8] at H
              exact absurd H (by simp)
          · rw [if_neg c7] at H
            have c7b0 : decide (x32_1 < (l0.length : Int)) = false := decide_eq_false c7
            clear c7
            obtain ⟨ji23, hji23⟩ : ∃ j_ : Int, (shl .u64 1 (l0.length : Int)) = j_ := ⟨_, rfl⟩
            replace H : ((gate_graph_most.f k1 x7_1 (IntKind.u64.wrap ((ji23) - 1))).bind fun t123 => (gate_ApartT.l2 k1 l1 x7_1 (IntKind.u64.wrap ((ji23) - 1)) ([] : List Int) t123)) = some (r1, r2) := by first | (rw [hji23] at H; exact H) | (simp only [hji23] at H ⊢; exact H)
            have hji23_ : (IntKind.u64.wrap (1 * 2 ^ min (l0.length : Int).toNat 64)) = ji23 := hji23
            have hji23z : (l0.length : Int) ≤ 64 → (IntKind.u64.wrap (1 * 2 ^ (l0.length : Int).toNat)) = ji23 := shl_small hji23
            have hji23p : (IntKind.u64.wrap (1 * 2 ^ min l0.length 64)) = ji23 := hji23_
            have hji23q : (l0.length : Int) ≤ 64 → (IntKind.u64.wrap (1 * 2 ^ l0.length)) = ji23 := hji23z
            have hji23r : (IntKind.u64.wrap (2 ^ min l0.length 64)) = ji23 := by have h_ := hji23p; rw [Int.one_mul] at h_; exact h_
            have hji23s : (l0.length : Int) ≤ 64 → (IntKind.u64.wrap (2 ^ l0.length)) = ji23 := fun hle_ => by have h_ := hji23q hle_; rw [Int.one_mul] at h_; exact h_
            have hji23u : (IntKind.u64.wrap (2 ^ min (l0.length : Int).toNat 64)) = ji23 := by have h_ := hji23_; rw [Int.one_mul] at h_; exact h_
            have hji23v : (l0.length : Int) ≤ 64 → (IntKind.u64.wrap (2 ^ (l0.length : Int).toNat)) = ji23 := fun hle_ => by have h_ := hji23z hle_; rw [Int.one_mul] at h_; exact h_
            replace H := Option.bind_eq_some_iff.mp H
            obtain ⟨t123, A240, H⟩ := H
            replace H : (gate_ApartT.l2 k1 l1 x7_1 (IntKind.u64.wrap ((ji23) - 1)) ([] : List Int) t123) = some (r1, r2) := H
            have A24 := Aside0.mk A240
            clear A240
            have H' := Aside0.mk H
            clear H
            obtain ⟨Ao25, co25, eo25⟩ := Kd.R_slice HO_7.out
            subst eo25
            go_wp2_with (first | ((with_reducible refine gate_callee (f := 67) rfl ?_); refine goesL_ (some 69) rfl rfl Try.func67 (by kernel_rfl) rfl #[.slice Ao25 x7_1.length co25, .int .u64 (IntKind.u64.wrap ((ji23) - 1))] rfl (by (try simp only [List.map_toArray, List.map_cons, List.map_nil]); first | done | (simp only [hji23]; rfl) | rfl | (simp only [List.length_drop, List.length_take]; rfl)) ?_; (with_reducible refine (gate_graph_most.calls k1 _ _ x7_1 (IntKind.u64.wrap ((ji23) - 1)) t123 _ ?side1 ?side2 A24.out).mono ?_); (case side1 => repeat (first | exact (Kd.R_reads' HO_7.out).2.2 | (with_reducible refine Kd.C_alloc ?_ _) | (with_reducible refine Kd.C_drewN ?_ _) | (with_reducible refine Kd.C_drew ?_))); (case side2 => exact (Kd.R_reads' HO_7.out).2.1); rintro e w26 ⟨rfl, hb⟩; refine ⟨_, rfl, ?_⟩; have n0_ := Aside0.mk (Kd.R_below (by (with_reducible repeat (first | apply Kd.R_alloc | apply Kd.R_drewN | apply Kd.R_drew)); exact HO_7.out) hb); have n1_ := Aside0.mk (below_step (by repeat (first | (with_reducible first | exact HB.out | apply below_alloc | apply pw_below_drewN | apply below_drew1) | exact HB.out)) hb); clear HO_7; clear HB; have HO_7 := n0_; have HB := n1_; clear n0_ n1_; (try clear hb); (try clear hb2); (try clear hk); (try clear hi)))
            go_loopg [12, 13, 14] k1 (fun kq v12 v13 v14 w' => ∃ (x12_2 : Int) (x13_2 : List Int) (x14_2 : Int), v12 = .int .u64 x12_2 ∧ v14 = .int .i64 x14_2 ∧ Aside0 (gate_ApartT.l2 kq l1 x7_1 x12_2 x13_2 x14_2 = some (r1, r2)) ∧ Aside0 (kq ≤ k1) ∧ Aside0 (Kd.R (Kd.int .u64) 74 w' w.heap.size (fun _ => True) (.slice Ao25 x7_1.length co25) x7_1) ∧ Aside0 (Kd.R (Kd.int .i64) 3 w' w.heap.size (fun _ => True) v13 x13_2) ∧ Aside0 (Below w.heap.size w w'))
            case atStart => exact ⟨(IntKind.u64.wrap ((ji23) - 1)), (([] : List Int)), (t123), (by first | rfl | (simp; done) | (simp only [← hji23] <;> (first | rfl | simp)) | (simp [*]; done)), (by first | rfl | (simp; done) | (simp [*]; done)), H', ⟨Nat.le_refl _⟩, ⟨by (with_reducible repeat (first | apply Kd.R_alloc | apply Kd.R_drewN | apply Kd.R_drew)); first | exact HO_7.out | exact Kd.R_mono HO_7.out (fun k_ h_ => ne_own_len h_)⟩, ⟨by first | exact Kd.R_nil _ _ _ _ _ | exact Kd.N_nil _ _ _ _ _ | exact Kd.V_nil _ _ _ _ _ | exact Kd.Q_nil _ _ _ _ _ | exact Kd.S_nil _ _ _ _ _⟩, ⟨by repeat (first | (with_reducible first | exact HB.out | apply below_alloc | apply pw_below_drewN | apply below_drew1) | exact HB.out)⟩⟩
            case round =>
              clear H'
              try clear c1
              try clear p1
              try clear q1
              try clear hx1
              try clear c2
              try clear p2
              try clear c3
              try clear c3b0
              try clear c3b1
              try clear c4
              try clear c4b0
              try clear c4b1
              try clear c6
              try clear p6
              try clear c7
              try clear c7b0
              try clear c8
              try clear c8b0
              try clear c9
              try clear c9b0
              try clear c10
              try clear c10b0
              try clear c11
              try clear c11b0
              try clear p11
              try clear q11
              try clear hx11
              try clear c12
              try clear c12b0
              try clear p12
              try clear q12
              try clear hx12
              try clear c13
              try clear c13b0
              try clear c13b1
              try clear c14
              try clear c14b0
              try clear c14b1
              try clear c15
              try clear c15b0
              try clear c16
              try clear c16b0
              try clear c17
              try clear c17b0
              try clear p19
              try clear q19
              try clear hx19
              try clear hf19
              try clear c23
              try clear hx119_0
              try clear hx120_0
              try clear hx121_0
              try clear hx19_0
              try clear p1
              try clear p119
              try clear p120
              try clear p121
              try clear p19
              try clear p2
              try clear q1
              try clear q119
              try clear q120
              try clear q121
              try clear q19
              obtain ⟨x12_2, x13_2, x14_2, rfl, rfl, HA, HK2, HO_7, HO_13, HB⟩ := hrel
              cases gk with
              | zero => exact absurd HA.out (by simp [gate_ApartT.l2])
              | succ k2 =>
                have H := HA.out
                clear HA
                simp only [gate_ApartT.l2] at H
                by_cases c27 : x14_2 > 0
                · rw [if_pos c27] at H
                  have c27b0 : decide (0 < x14_2) = true := decide_eq_true c27
                  clear c27
                  replace H := Option.bind_eq_some_iff.mp H
                  obtain ⟨t124, A280, H⟩ := H
                  replace H : (gate_ApartT.l3 k2 l1 x7_1 x12_2 x13_2 x14_2 t124 (t124.length : Int) 0) = some (r1, r2) := H
                  have A28 := Aside0.mk A280
                  clear A280
                  have H' := Aside0.mk H
                  clear H
                  go_wp2_with (first | ((with_reducible refine gate_callee (f := 68) rfl ?_); refine goesL_ (some 75) rfl rfl Try.func68 (by kernel_rfl) rfl #[.int .u64 x12_2] rfl (by (try simp only [List.map_toArray, List.map_cons, List.map_nil]); first | done | rfl | (simp only [List.length_drop, List.length_take]; rfl)) ?_; (with_reducible refine (gate_members.calls k2 x12_2 t124 _ A28.out).mono ?_); rintro e w29 ⟨v125, rfl, ho0, hb⟩; refine ⟨_, rfl, ?_⟩; have n0_ := Aside0.mk (Kd.R_below (by (with_reducible repeat (first | apply Kd.R_alloc | apply Kd.R_drewN | apply Kd.R_drew)); exact HO_7.out) hb); have n1_ := Aside0.mk (Kd.R_elder' (by (with_reducible repeat (first | apply Kd.R_alloc | apply Kd.R_drewN | apply Kd.R_drew)); exact HO_13.out) (Kd.R_base ho0) hb); have n2_ := Aside0.mk (Kd.R_lower (Kd.R_new' ho0 (Kd.R_lt (by (with_reducible repeat (first | apply Kd.R_alloc | apply Kd.R_drewN | apply Kd.R_drew)); exact HO_13.out))) (below_size (by repeat (first | (with_reducible first | exact HB.out | apply below_alloc | apply pw_below_drewN | apply below_drew1) | exact HB.out)))); have n3_ := Aside0.mk (below_step (by repeat (first | (with_reducible first | exact HB.out | apply below_alloc | apply pw_below_drewN | apply below_drew1) | exact HB.out)) hb); clear HO_7; clear HO_13; clear HB; have HO_7 := n0_; have HO_13 := n1_; have HO126 := n2_; have HB := n3_; clear n0_ n1_ n2_ n3_; (try clear hb); (try clear hb2); (try clear hk); (try clear hi); (try clear ho0); obtain ⟨Ao30, co30, eo30⟩ := Kd.R_slice HO126.out; subst eo30))
                  go_loopg [12, 13, 77] k2 (fun kq v12 v13 v77 w' => ∃ (x12_3 : Int) (x13_3 : List Int) (x77_3 : Int), v12 = .int .u64 x12_3 ∧ v77 = .int .i64 x77_3 ∧ Aside0 (gate_ApartT.l3 kq l1 x7_1 x12_3 x13_3 x14_2 t124 (t124.length : Int) x77_3 = some (r1, r2)) ∧ Aside0 (kq ≤ k2) ∧ Aside0 (Kd.R (Kd.int .u64) 74 w' w.heap.size (fun _ => True) (.slice Ao25 x7_1.length co25) x7_1) ∧ Aside0 (Kd.R (Kd.int .i64) 3 w' w.heap.size (fun k_ => some k_ ≠ ((.slice Ao30 t124.length co30) : Value).ownBlock) v13 x13_3) ∧ Aside0 (Kd.R (Kd.int .i64) 3 w' w.heap.size (fun k_ => some k_ ≠ (v13 : Value).ownBlock) (.slice Ao30 t124.length co30) t124) ∧ Aside0 (Below w.heap.size w w'))
                  case atStart => exact ⟨(x12_2), (x13_2), (0), (by first | rfl | (simp; done) | (simp [*]; done)), (by first | rfl | (simp; done) | (simp [*]; done)), H', ⟨Nat.le_refl _⟩, ⟨by (with_reducible repeat (first | apply Kd.R_alloc | apply Kd.R_drewN | apply Kd.R_drew)); first | exact HO_7.out | exact Kd.R_mono HO_7.out (fun k_ h_ => ne_own_len h_)⟩, ⟨by (with_reducible repeat (first | apply Kd.R_alloc | apply Kd.R_drewN | apply Kd.R_drew)); exact Kd.R_mono HO_13.out (fun _ hk => hk.2)⟩, ⟨by (with_reducible repeat (first | apply Kd.R_alloc | apply Kd.R_drewN | apply Kd.R_drew)); exact Kd.R_mono HO126.out (fun _ hk => hk.2)⟩, ⟨by repeat (first | (with_reducible first | exact HB.out | apply below_alloc | apply pw_below_drewN | apply below_drew1) | exact HB.out)⟩⟩
                  case round =>
                    clear H'
                    try clear c1
                    try clear p1
                    try clear q1
                    try clear hx1
                    try clear c2
                    try clear p2
                    try clear c3
                    try clear c3b0
                    try clear c3b1
                    try clear c4
                    try clear c4b0
                    try clear c4b1
                    try clear c6
                    try clear p6
                    try clear c7
                    try clear c7b0
                    try clear c8
                    try clear c8b0
                    try clear c9
                    try clear c9b0
                    try clear c10
                    try clear c10b0
                    try clear c11
                    try clear c11b0
                    try clear p11
                    try clear q11
                    try clear hx11
                    try clear c12
                    try clear c12b0
                    try clear p12
                    try clear q12
                    try clear hx12
                    try clear c13
                    try clear c13b0
                    try clear c13b1
                    try clear c14
                    try clear c14b0
                    try clear c14b1
                    try clear c15
                    try clear c15b0
                    try clear c16
                    try clear c16b0
                    try clear c17
                    try clear c17b0
                    try clear p19
                    try clear q19
                    try clear hx19
                    try clear hf19
                    try clear c23
                    try clear c27
                    try clear c27b0
                    try clear hx119_0
                    try clear hx120_0
                    try clear hx121_0
                    try clear hx19_0
                    try clear p1
                    try clear p11
                    try clear p119
                    try clear p12
                    try clear p120
                    try clear p121
                    try clear p19
                    try clear p2
                    try clear p6
                    try clear q1
                    try clear q11
                    try clear q119
                    try clear q12
                    try clear q120
                    try clear q121
                    try clear q19
                    obtain ⟨x12_3, x13_3, x77_3, rfl, rfl, HA, HK3, HO_7, HO_13, HO_75, HB⟩ := hrel
                    cases gk with
                    | zero => exact absurd HA.out (by simp [gate_ApartT.l3])
                    | succ k3 =>
                      have H := HA.out
                      clear HA
                      simp only [gate_ApartT.l3] at H
                      by_cases c31 : x77_3 < (t124.length : Int)
                      · rw [if_pos c31] at H
                        have c31b0 : decide (x77_3 < (t124.length : Int)) = true := decide_eq_true c31
                        clear c31
                        by_cases c32 : 0 ≤ x77_3
                        · rw [if_pos c32] at H
                          have c32b0 : decide (0 ≤ x77_3) = true := decide_eq_true c32
                          clear c32
                          by_cases c33 : x77_3 < (t124.length : Int)
                          · rw [if_pos c33] at H
                            have c33b0 : decide (x77_3 < (t124.length : Int)) = true := decide_eq_true c33
                            clear c33
                            by_cases c34 : 0 ≤ (rd t124 x77_3)
                            · rw [if_pos c34] at H
                              have c34b0 := eq_true c34
                              have c34b1 : decide (0 ≤ (rd t124 x77_3)) = true := decide_eq_true c34
                              clear c34
                              obtain ⟨ji35, hji35⟩ : ∃ j_ : Int, (shl .u64 1 (rd t124 x77_3)) = j_ := ⟨_, rfl⟩
                              replace H : (if (rd t124 x77_3) < (x7_1.length : Int) then ((gate_graph_most.f k3 x7_1 (Go.bits .andNot .u64 (Go.bits .andNot .u64 x12_3 (ji35)) (rd x7_1 (rd t124 x77_3)))).bind fun t129 => (if t129 = (wrap64 (x14_2 - 1)) then (if (rd t124 x77_3) < (l1.length : Int) then (if x13_3.length < 17592186044416 then (gate_ApartT.l2 k3 l1 x7_1 (Go.bits .andNot .u64 (Go.bits .andNot .u64 x12_3 (ji35)) (rd x7_1 (rd t124 x77_3))) (x13_3 ++ [rd l1 (rd t124 x77_3)]) (wrap64 (x14_2 - 1))) else (none)) else (none)) else (gate_ApartT.l3 k3 l1 x7_1 (Go.bits .andNot .u64 x12_3 (ji35)) x13_3 x14_2 t124 (t124.length : Int) (wrap64 (x77_3 + 1))))) else (none)) = some (r1, r2) := by first | (rw [hji35] at H; exact H) | (simp only [hji35] at H ⊢; exact H)
                              have hji35_ : (IntKind.u64.wrap (1 * 2 ^ min (rd t124 x77_3).toNat 64)) = ji35 := hji35
                              have hji35z : (rd t124 x77_3) ≤ 64 → (IntKind.u64.wrap (1 * 2 ^ (rd t124 x77_3).toNat)) = ji35 := shl_small hji35
                              have hji35u : (IntKind.u64.wrap (2 ^ min (rd t124 x77_3).toNat 64)) = ji35 := by have h_ := hji35_; rw [Int.one_mul] at h_; exact h_
                              have hji35v : (rd t124 x77_3) ≤ 64 → (IntKind.u64.wrap (2 ^ (rd t124 x77_3).toNat)) = ji35 := fun hle_ => by have h_ := hji35z hle_; rw [Int.one_mul] at h_; exact h_
                              by_cases c36 : (rd t124 x77_3) < (x7_1.length : Int)
                              · rw [if_pos c36] at H
                                have c36b0 : decide ((rd t124 x77_3) < (x7_1.length : Int)) = true := decide_eq_true c36
                                clear c36
                                replace H := Option.bind_eq_some_iff.mp H
                                obtain ⟨t129, A370, H⟩ := H
                                replace H : (if t129 = (wrap64 (x14_2 - 1)) then (if (rd t124 x77_3) < (l1.length : Int) then (if x13_3.length < 17592186044416 then (gate_ApartT.l2 k3 l1 x7_1 (Go.bits .andNot .u64 (Go.bits .andNot .u64 x12_3 (ji35)) (rd x7_1 (rd t124 x77_3))) (x13_3 ++ [rd l1 (rd t124 x77_3)]) (wrap64 (x14_2 - 1))) else (none)) else (none)) else (gate_ApartT.l3 k3 l1 x7_1 (Go.bits .andNot .u64 x12_3 (ji35)) x13_3 x14_2 t124 (t124.length : Int) (wrap64 (x77_3 + 1)))) = some (r1, r2) := H
                                have A37 := Aside0.mk A370
                                clear A370
                                by_cases c38 : t129 = (wrap64 (x14_2 - 1))
                                · rw [if_pos c38] at H
                                  have c38b0 : (t129 == (wrap64 (x14_2 - 1))) = true := beq_iff_eq.mpr c38
                                  have c38b1 : (t129 != (wrap64 (x14_2 - 1))) = false := bne_eq_false_iff_eq.mpr c38
                                  clear c38
                                  by_cases c39 : (rd t124 x77_3) < (l1.length : Int)
                                  · rw [if_pos c39] at H
                                    have c39b0 : decide ((rd t124 x77_3) < (l1.length : Int)) = true := decide_eq_true c39
                                    clear c39
                                    by_cases c40 : x13_3.length < 17592186044416
                                    · rw [if_pos c40] at H
                                      have LMc40 := Aside0.mk c40
                                      clear c40
                                      obtain ⟨y131, hy131⟩ : ∃ y_ : List Int, y_ = (x13_3 ++ [rd l1 (rd t124 x77_3)]) := ⟨_, rfl⟩
                                      replace H : (gate_ApartT.l2 k3 l1 x7_1 (Go.bits .andNot .u64 (Go.bits .andNot .u64 x12_3 (ji35)) (rd x7_1 (rd t124 x77_3))) y131 (wrap64 (x14_2 - 1))) = some (r1, r2) := by first | (rw [hy131]; with_reducible exact H) | (have H2_ := (Option.bind_some _ _).symm.trans H; rw [hy131]; with_reducible exact H2_) | (have H2_ := (Option.bind_some _ _).symm.trans H; with_reducible exact H2_) | with_reducible exact H | (rw [hy131]; exact H) | exact H
                                      have Ny131 := Aside0.mk hy131
                                      clear hy131
                                      have H' := Aside0.mk H
                                      clear H
                                      have p127 : 0 ≤ (x77_3 : Int) := of_decide_eq_true (by first | (with_reducible assumption) | assumption)
                                      have q127 : x77_3 < (t124.length : Int) := of_decide_eq_true (by first | (with_reducible assumption) | assumption)
                                      (try (obtain ⟨Aom_, com_, eom_⟩ := Kd.R_slice HO_75.out; subst eom_))
                                      obtain ⟨ad127, e127, hx127_0⟩ := Kd.at_int (Kd.R_reads' HO_75.out).2.2 x77_3 p127 q127
                                      cases e127
                                      replace p127 := eq_true p127
                                      replace q127 := eq_true q127
                                      have p128 : 0 ≤ ((rd t124 x77_3) : Int) := of_decide_eq_true (by first | (with_reducible assumption) | assumption)
                                      have q128 : (rd t124 x77_3) < (x7_1.length : Int) := of_decide_eq_true (by first | (with_reducible assumption) | assumption)
                                      (try (obtain ⟨Aom_, com_, eom_⟩ := Kd.R_slice HO_7.out; subst eom_))
                                      obtain ⟨ad128, e128, hx128_0⟩ := Kd.at_int (Kd.R_reads' HO_7.out).2.2 (rd t124 x77_3) p128 q128
                                      cases e128
                                      replace p128 := eq_true p128
                                      replace q128 := eq_true q128
                                      go_wp2_with (first | ((with_reducible refine gate_callee (f := 67) rfl ?_); refine goesL_ (some 93) rfl rfl Try.func67 (by kernel_rfl) rfl #[.slice (some ad128) x7_1.length co25, .int .u64 (Go.bits .andNot .u64 (Go.bits .andNot .u64 x12_3 (ji35)) (rd x7_1 (rd t124 x77_3)))] rfl (by (try simp only [List.map_toArray, List.map_cons, List.map_nil]); first | done | (simp only [hji35]; rfl) | rfl | (simp only [List.length_drop, List.length_take]; rfl)) ?_; (with_reducible refine (gate_graph_most.calls k3 _ _ x7_1 (Go.bits .andNot .u64 (Go.bits .andNot .u64 x12_3 (ji35)) (rd x7_1 (rd t124 x77_3))) t129 _ ?side1 ?side2 A37.out).mono ?_); (case side1 => repeat (first | exact (Kd.R_reads' HO_7.out).2.2 | (with_reducible refine Kd.C_alloc ?_ _) | (with_reducible refine Kd.C_drewN ?_ _) | (with_reducible refine Kd.C_drew ?_))); (case side2 => exact (Kd.R_reads' HO_7.out).2.1); rintro e w41 ⟨rfl, hb⟩; refine ⟨_, rfl, ?_⟩; have n0_ := Aside0.mk (Kd.R_below (by (with_reducible repeat (first | apply Kd.R_alloc | apply Kd.R_drewN | apply Kd.R_drew)); exact HO_7.out) hb); have n1_ := Aside0.mk (Kd.R_below (by (with_reducible repeat (first | apply Kd.R_alloc | apply Kd.R_drewN | apply Kd.R_drew)); exact HO_13.out) hb); have n2_ := Aside0.mk (Kd.R_below (by (with_reducible repeat (first | apply Kd.R_alloc | apply Kd.R_drewN | apply Kd.R_drew)); exact HO_75.out) hb); have n3_ := Aside0.mk (below_step (by repeat (first | (with_reducible first | exact HB.out | apply below_alloc | apply pw_below_drewN | apply below_drew1) | exact HB.out)) hb); clear HO_7; clear HO_13; clear HO_75; clear HB; have HO_7 := n0_; have HO_13 := n1_; have HO_75 := n2_; have HB := n3_; clear n0_ n1_ n2_ n3_; (try clear hb); (try clear hb2); (try clear hk); (try clear hi); have p130 : 0 ≤ ((rd t124 x77_3) : Int) := of_decide_eq_true (by first | (with_reducible assumption) | assumption); have q130 : (rd t124 x77_3) < (l1.length : Int) := of_decide_eq_true (by first | (with_reducible assumption) | assumption); obtain ⟨ad130, e130, hx130_0⟩ := Kd.at_int HR1.out (rd t124 x77_3) p130 q130; cases e130; replace hx130_0 := (HB.out.cell (World.block_lt_of_cell? w _ hx130_0)).trans hx130_0; replace p130 := eq_true p130; replace q130 := eq_true q130) | ((with_reducible refine gate_builtin (b := .append) (xs := #[.tmp 97, .tmp 102]) rfl ?_); at_builtin; refine Kd.R_append (Kd.int .i64) (w0 := w) w.heap.size rfl (.tmp 97) (.tmp 102) 23 3 (.int .i64 0) 8 rfl Try.underlying23 info3 rfl (by decide) (by omega) u13 x13_3 (rd l1 (rd t124 x77_3)) [.int .i64 (rd l1 (rd t124 x77_3))] (fun k_ => some k_ ≠ (.slice (some ad127) t124.length co30 : Value).ownBlock) (fun _ => False) rfl rfl ?aP (fun _ hk => hk.elim) ?aF ?aO ?aB ?aS ?aL ?_; (case aP => exact rfl); (case aB => exact (by repeat (first | (with_reducible first | exact HB.out | apply below_alloc | apply pw_below_drewN | apply below_drew1) | exact HB.out))); (case aF => exact (fun k_ hk => Kd.fresh' (Kd.R_lt (by (with_reducible repeat (first | apply Kd.R_alloc | apply Kd.R_drewN | apply Kd.R_drew)); exact HO_75.out)) k_ hk)); (case aO => exact (by (with_reducible repeat (first | apply Kd.R_alloc | apply Kd.R_drewN | apply Kd.R_drew)); exact HO_13.out)); (case aS => exact (below_size (by repeat (first | (with_reducible first | exact HB.out | apply below_alloc | apply pw_below_drewN | apply below_drew1) | exact HB.out)))); (case aL => have := LMc40.out; omega); intro v132 w42 ho hb hg hat; rw [← Ny131.out] at ho; have n0_ := Aside0.mk (Kd.R_over' (by (with_reducible repeat (first | apply Kd.R_alloc | apply Kd.R_drewN | apply Kd.R_drew)); exact HO_7.out) (Kd.R_typed (by (with_reducible repeat (first | apply Kd.R_alloc | apply Kd.R_drewN | apply Kd.R_drew)); exact HO_13.out)) (by decide) hg); have n1_ := Aside0.mk (Kd.R_after (ok := (fun _ => True)) (by (with_reducible repeat (first | apply Kd.R_alloc | apply Kd.R_drewN | apply Kd.R_drew)); exact Kd.R_mono HO_75.out (fun _ hk => ⟨trivial, hk⟩)) hg hat); have n2_ := Aside0.mk (hb); have n3_ := Aside0.mk (ho); clear HO_7; clear HO_75; clear HB; clear HO_13; have HO_7 := n0_; have HO_75 := n1_; have HB := n2_; have HO133 := n3_; clear n0_ n1_ n2_ n3_; clear ho hb hg hat))
                                      go_roundg k3
                                      case measure => have := HK1.out; have := HK2.out; have := HK3.out; omega
                                      case rel => exact ⟨(Go.bits .andNot .u64 (Go.bits .andNot .u64 x12_3 (ji35)) (rd x7_1 (rd t124 x77_3))), (y131), (wrap64 (x14_2 - 1)), (by first | rfl | (simp; done) | (simp only [← hji35] <;> (first | rfl | simp)) | (simp [*]; done)), (by first | rfl | (simp; done) | (simp [*]; done)), H', ⟨by have := HK1.out; have := HK2.out; have := HK3.out; omega⟩, ⟨by (with_reducible repeat (first | apply Kd.R_alloc | apply Kd.R_drewN | apply Kd.R_drew)); first | exact HO_7.out | exact Kd.R_mono HO_7.out (fun k_ h_ => ne_own_len h_)⟩, ⟨by (with_reducible repeat (first | apply Kd.R_alloc | apply Kd.R_drewN | apply Kd.R_drew)); exact Kd.R_mono HO133.out (fun _ hk => trivial)⟩, ⟨by repeat (first | (with_reducible first | exact HB.out | apply below_alloc | apply pw_below_drewN | apply below_drew1) | exact HB.out)⟩⟩
                                    · rw [if_neg c40] at H
                                      exact absurd H (by simp)
                                  · rw [if_neg c39] at H
                                    exact absurd H (by simp)
                                · rw [if_neg c38] at H
                                  have c38b0 : (t129 == (wrap64 (x14_2 - 1))) = false := beq_eq_false_iff_ne.mpr c38
                                  have c38b1 : (t129 != (wrap64 (x14_2 - 1))) = true := bne_iff_ne.mpr c38
                                  have H' := Aside0.mk H
                                  clear H
                                  have p127 : 0 ≤ (x77_3 : Int) := of_decide_eq_true (by first | (with_reducible assumption) | assumption)
                                  have q127 : x77_3 < (t124.length : Int) := of_decide_eq_true (by first | (with_reducible assumption) | assumption)
                                  (try (obtain ⟨Aom_, com_, eom_⟩ := Kd.R_slice HO_75.out; subst eom_))
                                  obtain ⟨ad127, e127, hx127_0⟩ := Kd.at_int (Kd.R_reads' HO_75.out).2.2 x77_3 p127 q127
                                  cases e127
                                  replace p127 := eq_true p127
                                  replace q127 := eq_true q127
                                  have p128 : 0 ≤ ((rd t124 x77_3) : Int) := of_decide_eq_true (by first | (with_reducible assumption) | assumption)
                                  have q128 : (rd t124 x77_3) < (x7_1.length : Int) := of_decide_eq_true (by first | (with_reducible assumption) | assumption)
                                  (try (obtain ⟨Aom_, com_, eom_⟩ := Kd.R_slice HO_7.out; subst eom_))
                                  obtain ⟨ad128, e128, hx128_0⟩ := Kd.at_int (Kd.R_reads' HO_7.out).2.2 (rd t124 x77_3) p128 q128
                                  cases e128
                                  replace p128 := eq_true p128
                                  replace q128 := eq_true q128
                                  go_wp2_with (first | ((with_reducible refine gate_callee (f := 67) rfl ?_); refine goesL_ (some 93) rfl rfl Try.func67 (by kernel_rfl) rfl #[.slice (some ad128) x7_1.length co25, .int .u64 (Go.bits .andNot .u64 (Go.bits .andNot .u64 x12_3 (ji35)) (rd x7_1 (rd t124 x77_3)))] rfl (by (try simp only [List.map_toArray, List.map_cons, List.map_nil]); first | done | (simp only [hji35]; rfl) | rfl | (simp only [List.length_drop, List.length_take]; rfl)) ?_; (with_reducible refine (gate_graph_most.calls k3 _ _ x7_1 (Go.bits .andNot .u64 (Go.bits .andNot .u64 x12_3 (ji35)) (rd x7_1 (rd t124 x77_3))) t129 _ ?side1 ?side2 A37.out).mono ?_); (case side1 => repeat (first | exact (Kd.R_reads' HO_7.out).2.2 | (with_reducible refine Kd.C_alloc ?_ _) | (with_reducible refine Kd.C_drewN ?_ _) | (with_reducible refine Kd.C_drew ?_))); (case side2 => exact (Kd.R_reads' HO_7.out).2.1); rintro e w43 ⟨rfl, hb⟩; refine ⟨_, rfl, ?_⟩; have n0_ := Aside0.mk (Kd.R_below (by (with_reducible repeat (first | apply Kd.R_alloc | apply Kd.R_drewN | apply Kd.R_drew)); exact HO_7.out) hb); have n1_ := Aside0.mk (Kd.R_below (by (with_reducible repeat (first | apply Kd.R_alloc | apply Kd.R_drewN | apply Kd.R_drew)); exact HO_13.out) hb); have n2_ := Aside0.mk (Kd.R_below (by (with_reducible repeat (first | apply Kd.R_alloc | apply Kd.R_drewN | apply Kd.R_drew)); exact HO_75.out) hb); have n3_ := Aside0.mk (below_step (by repeat (first | (with_reducible first | exact HB.out | apply below_alloc | apply pw_below_drewN | apply below_drew1) | exact HB.out)) hb); clear HO_7; clear HO_13; clear HO_75; clear HB; have HO_7 := n0_; have HO_13 := n1_; have HO_75 := n2_; have HB := n3_; clear n0_ n1_ n2_ n3_; (try clear hb); (try clear hb2); (try clear hk); (try clear hi)))
                                  go_roundg k3
                                  case measure => have := HK1.out; have := HK2.out; have := HK3.out; omega
                                  case rel => exact ⟨(Go.bits .andNot .u64 x12_3 (ji35)), (x13_3), (wrap64 (x77_3 + 1)), (by first | rfl | (simp; done) | (simp only [← hji35] <;> (first | rfl | simp)) | (simp [*]; done)), (by first | rfl | (simp; done) | (simp [*]; done)), H', ⟨by have := HK1.out; have := HK2.out; have := HK3.out; omega⟩, ⟨by (with_reducible repeat (first | apply Kd.R_alloc | apply Kd.R_drewN | apply Kd.R_drew)); first | exact HO_7.out | exact Kd.R_mono HO_7.out (fun k_ h_ => ne_own_len h_)⟩, ⟨by (with_reducible repeat (first | apply Kd.R_alloc | apply Kd.R_drewN | apply Kd.R_drew)); first | exact HO_13.out | exact Kd.R_mono HO_13.out (fun k_ h_ => ne_own_len h_)⟩, ⟨by (with_reducible repeat (first | apply Kd.R_alloc | apply Kd.R_drewN | apply Kd.R_drew)); first | exact HO_75.out | exact Kd.R_mono HO_75.out (fun k_ h_ => ne_own_len h_)⟩, ⟨by repeat (first | (with_reducible first | exact HB.out | apply below_alloc | apply pw_below_drewN | apply below_drew1) | exact HB.out)⟩⟩
                              · rw [if_neg c36] at H
                                exact absurd H (by simp)
                            · rw [if_neg c34] at H
                              exact absurd H (by simp)
                          · rw [if_neg c33] at H
                            exact absurd H (by simp)
                        · rw [if_neg c32] at H
                          exact absurd H (by simp)
                      · rw [if_neg c31] at H
                        have c31b0 : decide (x77_3 < (t124.length : Int)) = false := decide_eq_false c31
                        clear c31
                        have H' := Aside0.mk H
                        clear H
                        go_wp2
                        go_roundg k3
                        case measure => have := HK1.out; have := HK2.out; have := HK3.out; omega
                        case rel => exact ⟨(x12_3), (x13_3), (wrap64 (x14_2 - 1)), (by first | rfl | (simp; done) | (simp [*]; done)), (by first | rfl | (simp; done) | (simp [*]; done)), H', ⟨by have := HK1.out; have := HK2.out; have := HK3.out; omega⟩, ⟨by (with_reducible repeat (first | apply Kd.R_alloc | apply Kd.R_drewN | apply Kd.R_drew)); first | exact HO_7.out | exact Kd.R_mono HO_7.out (fun k_ h_ => ne_own_len h_)⟩, ⟨by (with_reducible repeat (first | apply Kd.R_alloc | apply Kd.R_drewN | apply Kd.R_drew)); exact Kd.R_mono HO_13.out (fun _ hk => trivial)⟩, ⟨by repeat (first | (with_reducible first | exact HB.out | apply below_alloc | apply pw_below_drewN | apply below_drew1) | exact HB.out)⟩⟩
                · rw [if_neg c27] at H
                  have c27b0 : decide (0 < x14_2) = false := decide_eq_false c27
                  clear c27
                  simp only [Option.some.injEq, Prod.mk.injEq] at H
                  obtain ⟨rfl, rfl⟩ := H
                  go_wp2
                  go_ret2
                  exact ⟨_, by first | rfl | (simp [errW_none, errW_some] <;> rfl) | (simp only [← hji23]; first | rfl | (simp [errW_none, errW_some] <;> rfl)) | (simp [*, errW_none, errW_some] <;> rfl), R_low (by (with_reducible repeat (first | apply Kd.R_alloc | apply Kd.R_drewN | apply Kd.R_drew)); exact HO_13.out) HBW.out.size, HBW.out.trans (Below.mono (by repeat (first | (with_reducible first | exact HB.out | apply below_alloc | apply pw_below_drewN | apply below_drew1) | exact HB.out)) HBW.out.size)⟩
    · rw [if_neg c4] at H
      exact absurd H (by simp)
  · rw [if_neg c3] at H
    exact absurd H (by simp)
set_option maxHeartbeats 8000000 in
set_option maxRecDepth 100000 in
theorem apart_no (n : Int) (A1 : Option Addr) (c1 : Nat) (l1 : List S40) (A2 : Option Addr) (c2 : Nat) (l2 : List Int) (w : World) (hr1 : Kd.C k40 w A1 l1.length l1) (hc1 : l1.length ≤ c1) (hr2 : Kd.C (Kd.int .i64) w A2 l2.length l2) (hc2 : l2.length ≤ c2) (hok : okC n l1 l2 = false) :
    Calls Try.prog 23 #[.agg #[.int .i64 n, .slice A1 l1.length c1, .slice A2 l2.length c2]] w fun e w' => e = .returned (.tuple #[.slice none 0 0, .int .i64 2]) ∧ Below w.heap.size w w' := by
  have HB := Aside0.mk (Below.refl w.heap.size w)
  have HO := Aside0.mk (fun W (hb : Below w.heap.size w W) => of_no n l1 l2 A1 c1 A2 c2 W hok (Kd.C_below hr1 hb) hc1 (Kd.C_below hr2 hb) hc2)
  clear hr1 hc1 hr2 hc2 hok
  go_enter Try.func23, Try.ntmps23
  go_wp2_with (first | (go_at_call 54; (with_reducible refine (HO.out _ (below_alloc HB.out _)).mono ?_); rintro e w1 ⟨rfl, hb⟩; have HB1 := Aside0.mk (below_step (below_alloc HB.out _) hb); clear hb))
  go_ret2
  exact ⟨rfl, by repeat (first | exact HB1.out | apply below_alloc)⟩
def gate_Apart.f (a0 : Int) (l1 : List S40) (l2 : List Int) : Option (List Int × Int) := if okC a0 l1 l2 = true then gate_ApartT.f 100000 (nI (shownW (toC a0.toNat l1 l2))) (nI (shownF (toC a0.toNat l1 l2))) else some ([], 2)
theorem gate_Apart.calls (a0 : Int) (A1 : Option Addr) (c1 : Nat) (l1 : List S40) (A2 : Option Addr) (c2 : Nat) (l2 : List Int) (r1 : List Int) (r2 : Int) (w : World) (hr1 : Kd.C k40 w A1 l1.length l1) (hc1 : l1.length ≤ c1) (hr2 : Kd.C (Kd.int .i64) w A2 l2.length l2) (hc2 : l2.length ≤ c2) (h : gate_Apart.f a0 l1 l2 = some (r1, r2)) :
    Calls Try.prog 23 #[.agg #[.int .i64 a0, .slice A1 l1.length c1, .slice A2 l2.length c2]] w fun e w' => ∃ v0_ : Value, e = .returned (.tuple #[v0_, .int .i64 r2]) ∧ Kd.R (Kd.int .i64) 3 w' w.heap.size (fun _ => True) v0_ r1 ∧ Below w.heap.size w w' := by
  unfold gate_Apart.f at h
  by_cases hok : okC a0 l1 l2 = true
  · rw [if_pos hok] at h
    have hs := okC_small hok
    obtain ⟨N, rfl⟩ := Int.eq_ofNat_of_zero_le (show 0 ≤ a0 by omega)
    rw [Int.toNat_natCast] at h
    exact apart_ok _ N A1 c1 l1 A2 c2 l2 r1 r2 w hr1 hc1 hr2 hc2 hok h
  · rw [if_neg hok] at h
    cases h
    refine (apart_no a0 A1 c1 l1 A2 c2 l2 w hr1 hc1 hr2 hc2 (by simpa using hok)).mono ?_
    rintro e w' ⟨rfl, hb⟩
    exact ⟨_, rfl, Kd.R_nil _ _ _ _ _, hb⟩
end Go.Proofs.Ytelfalicickelaa.P
set_option linter.unusedSimpArgs false
set_option linter.unusedVariables false
namespace Go.Proofs.Ytelfalicickelaa.P
open Go.Lib Go.RowKit Go.Proofs.YtelfalicickelaaW.PrintWords Go.Proofs.YtelfalicickelaaW.PrintLast Go.Proofs.YtelfalicickelaaW.PrintMore Go.Proofs.Ytelfalicickelaa.Kit
theorem allEq_int : ∀ xs ys : List Int, Lib.allEq (fun x y => x == y) xs ys = decide (xs = ys)
  | [], [] => rfl
  | [], y :: ys => rfl
  | x :: xs, [] => rfl
  | x :: xs, y :: ys => by
    unfold Lib.allEq
    rw [allEq_int xs ys]
    by_cases h1 : x = y
    · by_cases h2 : xs = ys <;> simp [h1, h2]
    · simp [h1]
theorem nI_inj {a b : List Nat} (h : nI a = nI b) : a = b := by
  have h2 := congrArg (List.map Int.toNat) h
  simpa [nI, List.map_map, Function.comp_def] using h2
theorem equal_calls (A1 : Option Addr) (c1 : Nat) (xs : List Int) (A2 : Option Addr) (c2 : Nat) (ys : List Int) (w : World) (hr1 : Kd.C (Kd.int .u64) w A1 xs.length xs) (hr2 : Kd.C (Kd.int .u64) w A2 ys.length ys) (h1 : 0 < xs.length) (h2 : 0 < ys.length) (h3 : xs.length ≤ 100) (h4 : ys.length ≤ 100) :
    Calls Try.prog 58 #[.slice A1 xs.length c1, .slice A2 ys.length c2] w fun e w' => e = .returned (.bool (decide (xs = ys))) ∧ Drawn0 w w' := by
  obtain ⟨b1, o1, rfl, k1⟩ := ints_in hr1 h1
  obtain ⟨b2, o2, rfl, k2⟩ := ints_in hr2 h2
  refine (Try.slices_Equal (Value.int .u64) (fun x y => x == y) (Go.Proofs.NeqAt.int _ _ .u64) b1 o1 xs.length c1 b2 o2 ys.length c2 xs ys w (Nat.le_refl _) (Nat.le_refl _) (by omega) (by omega) k1 k2).mono ?_
  rintro e w' ⟨he, q, hq⟩
  rw [List.take_length, List.take_length, allEq_int] at he
  exact ⟨he, q, hq⟩
set_option maxHeartbeats 8000000
set_option maxRecDepth 100000
theorem alk1_calls {w : World} {g N : Nat} {ls : List S40} {os : List Int} (f l0 Bx Bf n c : Nat) (ad : Addr) (hf : f ≤ 100) (hl : l0 ≤ 100) (hn : 0 < n) (hok : okC (N : Int) ls os = true) (hC : CircAt w g N ls os) (hcx : w.cell? ⟨Bx, 0, none⟩ = some (.pointer (some ⟨g, 0, none⟩))) (hcf : w.cell? ⟨Bf, 0, none⟩ = some (.int .i64 (f : Int))) (hcl : w.cell? ad = some (.int .i64 (l0 : Int))) :
    Calls Try.prog 57 #[.slice (some ad) n c, .pointer (some ⟨Bx, 0, none⟩), .pointer (some ⟨Bf, 0, none⟩)] w fun e w' => e = .returned (.bool (decide (GT.outsW (toC N ls os) (some l0) = GT.outsW (toC N ls os) (some f)))) ∧ Below w.heap.size w w' := by
  have hs := okC_small hok
  have HO1 := Aside0.mk (fun {W : World} (hC : CircAt W g N ls os) => outs_calls (some l0) (fun q hq => by cases hq; exact hl) hok hC)
  have HO2 := Aside0.mk (fun {W : World} (hC : CircAt W g N ls os) => outs_calls (some f) (fun q hq => by cases hq; exact hf) hok hC)
  rw [show fI (some l0) = (l0 : Int) from rfl] at HO1
  rw [show fI (some f) = (f : Int) from rfl] at HO2
  have hl1 : 0 < (nI (GT.outsW (toC N ls os) (some l0))).length ∧ (nI (GT.outsW (toC N ls os) (some l0))).length ≤ 100 := by
    rw [nI_length, outsW_length]
    show 0 < (List.map _ _).length ∧ (List.map _ _).length ≤ 100
    rw [List.length_map]; omega
  have hl2 : 0 < (nI (GT.outsW (toC N ls os) (some f))).length ∧ (nI (GT.outsW (toC N ls os) (some f))).length ≤ 100 := by
    rw [nI_length, outsW_length]
    show 0 < (List.map _ _).length ∧ (List.map _ _).length ≤ 100
    rw [List.length_map]; omega
  have hd : decide (GT.outsW (toC N ls os) (some l0) = GT.outsW (toC N ls os) (some f)) = decide (nI (GT.outsW (toC N ls os) (some l0)) = nI (GT.outsW (toC N ls os) (some f))) := by
    by_cases h : GT.outsW (toC N ls os) (some l0) = GT.outsW (toC N ls os) (some f)
    · rw [h]; simp
    · rw [decide_eq_false h, decide_eq_false (fun e => h (nI_inj e))]
  rw [hd]
  have HL := Aside0.mk (And.intro hl1 hl2)
  have HC := Aside0.mk hC
  have HB := Aside0.mk (Below.refl w.heap.size w)
  have HB0 := Aside0.mk (show ∀ W, Below w.heap.size w W → W.cell? ⟨Bx, 0, none⟩ = some (.pointer (some ⟨g, 0, none⟩)) ∧ W.cell? ⟨Bf, 0, none⟩ = some (.int .i64 (f : Int)) ∧ W.cell? ad = some (.int .i64 (l0 : Int)) from fun W hb => ⟨pw_cell_below hb hcx, pw_cell_below hb hcf, pw_cell_below hb hcl⟩)
  have p0 : ((0 : Int) < (n : Int)) = True := eq_true (by omega)
  have p1 : (0 < n) = True := eq_true hn
  have p2 : decide (0 < n) = true := decide_eq_true hn
  have p3 : decide ((0 : Int) < (n : Int)) = true := decide_eq_true (by omega)
  clear hs hl1 hl2 hd hC hok hf hl hn
  generalize nI (GT.outsW (toC N ls os) (some l0)) = X at *
  generalize nI (GT.outsW (toC N ls os) (some f)) = Y at *
  go_enter Try.func57, Try.ntmps57
  go_wp2
  go_region_held3 (fun w' => w'.cell? ⟨Bx, 0, none⟩ = some (.pointer (some ⟨g, 0, none⟩)) ∧ w'.cell? ⟨Bf, 0, none⟩ = some (.int .i64 (f : Int)) ∧ w'.cell? ad = some (.int .i64 (l0 : Int))) (first | exact ⟨hcx, hcf, hcl⟩ | exact S1 | exact S2 | exact S3 | go_keep) (first | (go_at_call 59; (with_reducible refine (HO1.out (HC.out.keep (below_drew1 (Below.refl _ _)))).mono ?_); rintro e w1 ⟨v1, rfl, hR, hb⟩; obtain ⟨A1, c1, rfl⟩ := Kd.R_slice hR; have HB1 := Aside0.mk (below_step (below_drew1 HB.out) hb); have HC1 := Aside0.mk ((HC.out.keep (below_drew1 (Below.refl _ _))).keep hb); have HR1 := Aside0.mk (Kd.R_reads' hR).2.2; have S1 := HB0.out _ HB1.out; clear hR hb) | (go_at_call 59; (with_reducible refine (HO2.out HC1.out).mono ?_); rintro e w2 ⟨v2, rfl, hR, hb⟩; obtain ⟨A2, c2, rfl⟩ := Kd.R_slice hR; have HB2 := Aside0.mk (HB1.out.trans (hb.mono HB1.out.size)); have HR1b := Aside0.mk (Kd.C_below HR1.out hb); have HR2 := Aside0.mk (Kd.R_reads' hR).2.2; have S2 := HB0.out _ HB2.out; clear hR hb) | (go_at_call 58; (with_reducible refine (equal_calls A1 c1 X A2 c2 Y _ HR1b.out HR2.out HL.out.1.1 HL.out.2.1 HL.out.1.2 HL.out.2.2).mono ?_); rintro e w3 ⟨rfl, ⟨nd, rfl⟩⟩; have HB3 := Aside0.mk (pw_below_drewN HB2.out nd); have S3 := HB0.out _ HB3.out))
  all_goals
    go_wp2
    go_ret
    exact ⟨rfl, HB3.out⟩
end Go.Proofs.Ytelfalicickelaa.P
set_option linter.unusedSimpArgs false
set_option linter.unusedVariables false
namespace Go.Proofs.Ytelfalicickelaa.P
open Go.Lib Go.RowKit Go.Proofs.YtelfalicickelaaW.PrintWords Go.Proofs.YtelfalicickelaaW.PrintLast Go.Proofs.YtelfalicickelaaW.PrintMore Go.Proofs.Ytelfalicickelaa.Kit
theorem at_rows {w : World} {A : Option Addr} {ls : List (List Int)} {n : Nat} (h : Kd.C (Kd.slice 3 (Kd.int .i64)) w A n ls) (j : Nat) (hj : j < ls.length) : ∃ ad A0 c0, A = some ad ∧ w.cell? (ad.add j) = some (.slice A0 ls[j].length c0) ∧ ls[j].length ≤ c0 ∧ Kd.C (Kd.int .i64) w A0 ls[j].length ls[j] := by
  obtain ⟨ad, e, hc⟩ := h.2.2 (by have := h.1; omega)
  obtain ⟨cs, h1, ⟨A0, c0, rfl, h2, h3⟩, h4⟩ := hc j ls[j] (List.getElem?_eq_getElem hj)
  have := h4 0 (.slice A0 ls[j].length c0) rfl
  have hm : j * (Kd.slice 3 (Kd.int .i64)).sz + 0 = j := by show j * 1 + 0 = j; omega
  rw [hm] at this
  exact ⟨ad, A0, c0, e, this, h2, h3⟩
def idxF (p : List Int → Bool) : List (List Int) → Nat → Int
  | [], _ => -1
  | l :: ls, i => if p l = true then (i : Int) else idxF p ls (i + 1)
def alkP (cc : GT.C) (f : Nat) (l : List Int) : Bool := decide (GT.outsW cc (some (l.headD 0).toNat) = GT.outsW cc (some f))
set_option maxHeartbeats 8000000
set_option maxRecDepth 100000
theorem idx_calls {w : World} {g N : Nat} {ls : List S40} {os : List Int} (f Bx Bf c : Nat) (A : Option Addr) (gs : List (List Int)) (hf : f ≤ 100) (hgs : ∀ l, l ∈ gs → ∃ (a : Nat) (t : List Int), a ≤ 100 ∧ l = (a : Int) :: t) (h100 : gs.length ≤ 100) (hok : okC (N : Int) ls os = true) (hC : CircAt w g N ls os) (hcx : w.cell? ⟨Bx, 0, none⟩ = some (.pointer (some ⟨g, 0, none⟩))) (hcf : w.cell? ⟨Bf, 0, none⟩ = some (.int .i64 (f : Int))) (hr : Kd.C (Kd.slice 3 (Kd.int .i64)) w A gs.length gs) :
    Calls Try.prog 56 #[.slice A gs.length c, .func (.func 57) #[] #[.pointer (some ⟨Bx, 0, none⟩), .pointer (some ⟨Bf, 0, none⟩)]] w fun e w' => e = .returned (.int .i64 (idxF (alkP (toC N ls os) f) gs 0)) ∧ Below w.heap.size w w' := by
  have HQ := Aside0.mk (fun (W : World) (hb : Below w.heap.size w W) (a n c : Nat) (ad : Addr) (ha : a ≤ 100) (hn : 0 < n) (hcl : W.cell? ad = some (.int .i64 (a : Int))) => alk1_calls f a Bx Bf n c ad hf ha hn hok (hC.keep hb) (pw_cell_below hb hcx) (pw_cell_below hb hcf) hcl)
  have HR := Aside0.mk hr
  have HG := Aside0.mk (And.intro hgs h100)
  have hr0 : idxF (alkP (toC N ls os) f) (gs.drop 0) 0 = idxF (alkP (toC N ls os) f) gs 0 := by rw [List.drop_zero]
  have HR0 := Aside0.mk hr0
  have HB := Aside0.mk (Below.refl w.heap.size w)
  generalize idxF (alkP (toC N ls os) f) gs 0 = r0 at *
  obtain ⟨n, hn⟩ : ∃ n, gs.length = n := ⟨_, rfl⟩
  have HN := Aside0.mk hn
  rw [hn]
  clear hr hgs h100 hr0 hok hC hcx hcf hf hn
  go_enter Try.func56, Try.ntmps56
  go_wp2
  go_loopw [8] (fun v8 w' => ∃ i : Nat, v8 = .int .i64 (i : Int) ∧ Aside0 (i ≤ n) ∧ Aside0 (idxF (alkP (toC N ls os) f) (gs.drop i) i = r0) ∧ Aside0 (Below w.heap.size w w')) (fun v _ => n - (intOf v).toNat)
  case atStart => exact ⟨0, rfl, ⟨Nat.zero_le _⟩, HR0, HB⟩
  case round =>
    clear HB HR0
    obtain ⟨i, rfl, Hi, HI, HB⟩ := hrel
    by_cases ct : (i : Int) < (n : Int)
    · have c1b : decide ((i : Int) < (n : Int)) = true := decide_eq_true ct
      have c1c : decide (i < n) = true := decide_eq_true (by omega)
      have hi : i < gs.length := by have := HN.out; omega
      have Hct := Aside0.mk (show i < n by omega)
      have q1 := eq_true ct
      have q2 := eq_true (show i < n by omega)
      have q3 := eq_true (show (0 : Int) ≤ (i : Int) by omega)
      have r := Kd.C_below HR.out HB.out
      obtain ⟨ad, A0, c0, e0, hx, hle, hro⟩ := at_rows r i hi
      subst e0
      obtain ⟨a, t, ha, hl⟩ := HG.out.1 gs[i] (List.getElem_mem hi)
      have hdr : gs.drop i = gs[i] :: gs.drop (i + 1) := List.drop_eq_getElem_cons hi
      have hI := HI.out
      rw [hdr, hl] at hI
      rw [hl] at hx hle hro
      have hlen : ((a : Int) :: t).length = t.length + 1 := rfl
      obtain ⟨ad0, e0, hx0⟩ := Kd.at_int hro 0 (by omega) (by omega)
      subst e0
      have hadd : ad0.add (Int.toNat 0) = ad0 := by simp [Addr.add]
      rw [hadd, show rd ((a : Int) :: t) 0 = (a : Int) from rfl] at hx0
      have hq := HQ.out wr HB.out a (t.length + 1) c0 ad0 ha (by omega) hx0
      have hp : alkP (toC N ls os) f ((a : Int) :: t) = decide (GT.outsW (toC N ls os) (some a) = GT.outsW (toC N ls os) (some f)) := by
        unfold alkP
        rw [show ((a : Int) :: t).headD 0 = (a : Int) from rfl, Int.toNat_natCast]
      unfold idxF at hI
      rw [hp] at hI
      obtain ⟨b, hb⟩ : ∃ b, decide (GT.outsW (toC N ls os) (some a) = GT.outsW (toC N ls os) (some f)) = b := ⟨_, rfl⟩
      rw [hb] at hI
      simp only [hb] at hq
      have HQi := Aside0.mk hq
      have HIi := Aside0.mk hI
      rw [hlen] at hx
      clear hq hI hb hp hdr hl hro hx0 hadd hle HI hi r hlen
      cases b with
      | true =>
        go_wp2_with (first | (go_at_call 57; (with_reducible refine (HQi.out).mono ?_); rintro e w1 ⟨rfl, hb⟩; have HB1 := Aside0.mk (HB.out.trans (hb.mono HB.out.size)); clear hb))
        go_ret
        have h := HIi.out
        rw [if_pos trivial] at h
        exact ⟨by rw [← h]; rfl, HB1.out⟩
      | false =>
        go_wp2_with (first | (go_at_call 57; (with_reducible refine (HQi.out).mono ?_); rintro e w1 ⟨rfl, hb⟩; have HB1 := Aside0.mk (HB.out.trans (hb.mono HB.out.size)); clear hb))
        go_roundw
        case rel => exact ⟨i + 1, by rw [w64 (by have := Hct.out; have := HG.out.2; have := HN.out; omega) (by have := Hct.out; have := HG.out.2; have := HN.out; omega)]; rfl, ⟨Hct.out⟩, ⟨by have h := HIi.out; rw [if_neg (by decide)] at h; exact h⟩, HB1⟩
        case measure => rw [w64 (by have := Hct.out; have := HG.out.2; have := HN.out; omega) (by have := Hct.out; have := HG.out.2; have := HN.out; omega)]; have := Hct.out; simp [intOf]; omega
    · have c1b : decide ((i : Int) < (n : Int)) = false := decide_eq_false ct
      have c1c : decide (i < n) = false := decide_eq_false (by omega)
      have hI := HI.out
      rw [List.drop_eq_nil_of_le (by have := HN.out; omega)] at hI
      have HIi := Aside0.mk hI
      clear ct hI
      go_wp2
      go_ret
      exact ⟨by rw [← HIi.out]; rfl, HB.out⟩
end Go.Proofs.Ytelfalicickelaa.P
